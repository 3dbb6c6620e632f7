/- The texts LinP, LinQ, RedP, TOk in one: each says at its head what it proves. Conditions: as said there. -/
import Derived.Test.YtbcjhpgkodeoeaaGreatDoorG13
import Derived.Test.YtbcjhpgkodeoeaaGreatDoorG14
import Derived.Test.YtbcjhpgkodeoeaaGreatDoorG02
import Derived.Test.YtbcjhpgkodeoeaaGreatDoorG03
set_option linter.unusedSimpArgs false
set_option linter.unusedVariables false
/- Rows brought to a reduced form: what stays true, and why equations with powers of different nodes have an answer. Plain: no program's step stands here. -/
namespace Go.Proofs.YtbcjhpgkodeoeaaGreatDoor

theorem nums_atZ {l : List Int} (h : Nums l) (k : Nat) : 0 ≤ atZ l k ∧ atZ l k ≤ 1000000270 := by
  unfold atZ
  by_cases hk : k < l.length
  · rw [List.getElem?_eq_getElem hk]; exact h _ (List.getElem_mem _)
  · rw [List.getElem?_eq_none (by omega)]; exact ⟨by simp, by simp⟩
def scaleR (row : List Int) (x : Int) : List Int := row.map fun a => timesZ a x
def elimR (row pr : List Int) (y : Int) : List Int := (List.range row.length).map fun j => minusZ (atZ row j) (timesZ y (atZ pr j))
/-- the rows below t, but for the row r, with the column k cleared -/
def elimA (m : List (List Int)) (r k : Nat) : Nat → List (List Int)
  | 0 => m
  | i + 1 => if i = r then elimA m r k i else (elimA m r k i).set i (elimR (atL (elimA m r k i) i) (atL (elimA m r k i) r) (atZ (atL (elimA m r k i) i) k))
def swapR (m : List (List Int)) (i r : Nat) : List (List Int) := (m.set i (atL m r)).set r (atL m i)
def scaleA (m : List (List Int)) (r k : Nat) : List (List Int) := m.set r (scaleR (atL m r) (powZ (atZ (atL m r) k) 1000000269))
def stepR (m : List (List Int)) (i r k : Nat) : List (List Int) := elimA (scaleA (swapR m i r) r k) r k m.length

theorem atL_set {m : List (List Int)} {i q : Nat} {x : List Int} (h : i < m.length) : atL (m.set i x) q = if q = i then x else atL m q := by
  unfold atL
  by_cases hq : q = i
  · subst hq; rw [List.getElem?_set_self h, if_pos rfl]; rfl
  · rw [List.getElem?_set_ne (fun h => hq h.symm), if_neg hq]
theorem elimA_len (m : List (List Int)) (r k t : Nat) : (elimA m r k t).length = m.length := by
  induction t with
  | zero => rfl
  | succ t ih => rw [elimA]; split; exact ih; rw [List.length_set, ih]
theorem elimA_at {m : List (List Int)} {r k : Nat} (q : Nat) : ∀ t, t ≤ m.length → atL (elimA m r k t) q = if q < t ∧ q ≠ r then elimR (atL m q) (atL m r) (atZ (atL m q) k) else atL m q
  | 0, _ => by rw [elimA, if_neg (by omega)]
  | t + 1, h => by
    have ih := fun q => elimA_at (m := m) (r := r) (k := k) q t (by omega)
    rw [elimA]
    by_cases ht : t = r
    · rw [if_pos ht, ih]
      by_cases hq : q < t ∧ q ≠ r
      · rw [if_pos hq, if_pos (by omega)]
      · rw [if_neg hq, if_neg (by omega)]
    · rw [if_neg ht, atL_set (by rw [elimA_len]; omega)]
      by_cases hq : q = t
      · subst hq
        rw [if_pos rfl, if_pos (by omega), ih, ih, if_neg (by omega), if_neg (by omega)]
      · rw [if_neg hq, ih]
        by_cases hq2 : q < t ∧ q ≠ r
        · rw [if_pos hq2, if_pos (by omega)]
        · rw [if_neg hq2, if_neg (by omega)]

def rowX (X : Nat → Int) (c : Nat) (row : List Int) : Int := sumZ (fun j => atZ row j * X j) (List.range c)
theorem scaleR_at (row : List Int) (x : Int) (j : Nat) : atZ (scaleR row x) j = timesZ (atZ row j) x := by
  unfold scaleR atZ
  rw [List.getElem?_map]
  cases row[j]? <;> simp [timesZ]
theorem elimR_at {row pr : List Int} {y : Int} {j : Nat} (h : j < row.length) : atZ (elimR row pr y) j = minusZ (atZ row j) (timesZ y (atZ pr j)) := by simp [elimR, atZ, h]
theorem scaleR_sol {X : Nat → Int} {c : Nat} {row : List Int} {x : Int} (h : resZ (rowX X c row) = 0) : resZ (rowX X c (scaleR row x)) = 0 := by
  have : resZ (rowX X c (scaleR row x)) = resZ (x * rowX X c row) := by
    unfold rowX
    rw [← sumZ_mul]
    refine res_sum fun j _ => ?_
    rw [scaleR_at, timesZ]
    unfold resZ
    rw [modl]
    congr 1
    grind
  rw [this, ← res_mul (a := resZ (rowX X c row)) (res_res _), h]
  simp [resZ]
theorem elimR_sol {X : Nat → Int} {c : Nat} {row pr : List Int} {y : Int} (hl : row.length = c) (h : resZ (rowX X c row) = 0) (hp : resZ (rowX X c pr) = 0) : resZ (rowX X c (elimR row pr y)) = 0 := by
  have : resZ (rowX X c (elimR row pr y)) = resZ (rowX X c row + (-y) * rowX X c pr) := by
    unfold rowX
    rw [← sumZ_mul, ← sumZ_add]
    refine res_sum fun j hj => ?_
    rw [elimR_at (by rw [hl]; simpa using hj), minusZ, timesZ]
    unfold resZ
    rw [modl, Int.sub_mul, Int.sub_emod, modl, ← Int.sub_emod]
    congr 1
    grind
  rw [this, res_add (b := 0) h (d := 0) (by rw [← res_mul (a := resZ (rowX X c pr)) (res_res _), hp]; simp [resZ])]
  rfl

/-- what a reduction keeps: a rows are done, k columns are looked at -/
structure RedInv (X : Nat → Int) (c k a : Nat) (m : List (List Int)) : Prop where
  row : ∀ i, i < m.length → (atL m i).length = c ∧ Nums (atL m i)
  sol : ∀ i, i < m.length → resZ (rowX X c (atL m i)) = 0
  zero : ∀ i, a ≤ i → i < m.length → ∀ j, j < k → atZ (atL m i) j = 0
theorem RedInv.skip {X : Nat → Int} {c k a : Nat} {m : List (List Int)} (h : RedInv X c k a m) (hz : ∀ i, a ≤ i → i < m.length → atZ (atL m i) k = 0) : RedInv X c (k + 1) a m :=
  ⟨h.row, h.sol, fun i h1 h2 j hj => by
    rcases (by omega : j < k ∨ j = k) with hj | rfl
    · exact h.zero i h1 h2 j hj
    · exact hz i h1 h2⟩
theorem swapR_at {m : List (List Int)} {i r : Nat} (hi : i < m.length) (hr : r < m.length) (q : Nat) : atL (swapR m i r) q = if q = r then atL m i else if q = i then atL m r else atL m q := by
  unfold swapR
  rw [atL_set (by simpa using hr), atL_set hi]
theorem swapR_len (m : List (List Int)) (i r : Nat) : (swapR m i r).length = m.length := by simp [swapR]
theorem RedInv.swap {X : Nat → Int} {c k a i : Nat} {m : List (List Int)} (h : RedInv X c k a m) (hi : i < m.length) (ha : a ≤ i) : RedInv X c k a (swapR m i a) := by
  have hal : a < m.length := by omega
  have hq : ∀ q, q < m.length → ∃ q', q' < m.length ∧ (a ≤ q → a ≤ q') ∧ atL (swapR m i a) q = atL m q' := fun q hq => by
    rw [swapR_at hi hal]
    by_cases h1 : q = a
    · exact ⟨i, hi, fun _ => ha, by rw [if_pos h1]⟩
    · rw [if_neg h1]
      by_cases h2 : q = i
      · exact ⟨a, hal, fun _ => Nat.le_refl _, by rw [if_pos h2]⟩
      · exact ⟨q, hq, id, by rw [if_neg h2]⟩
  refine ⟨fun q hq' => ?_, fun q hq' => ?_, fun q h1 h2 j hj => ?_⟩
  · obtain ⟨q', h1, _, h3⟩ := hq q (by rwa [swapR_len] at hq'); rw [h3]; exact h.row q' h1
  · obtain ⟨q', h1, _, h3⟩ := hq q (by rwa [swapR_len] at hq'); rw [h3]; exact h.sol q' h1
  · obtain ⟨q', g1, g2, g3⟩ := hq q (by rwa [swapR_len] at h2); rw [g3]; exact h.zero q' (g2 h1) g1 j hj
theorem nums_scale (row : List Int) (x : Int) : Nums (scaleR row x) := fun y hy => by
  obtain ⟨a, _, rfl⟩ := List.mem_map.1 hy
  exact timesZ_bd _ _
theorem nums_elim (row pr : List Int) (y : Int) : Nums (elimR row pr y) := fun z hz => by
  obtain ⟨a, _, rfl⟩ := List.mem_map.1 hz
  exact minusZ_bd _ _
theorem RedInv.scale {X : Nat → Int} {c k a : Nat} {m : List (List Int)} (h : RedInv X c k a m) (ha : a < m.length) : RedInv X c k a (scaleA m a k) := by
  have hl : (scaleA m a k).length = m.length := by simp [scaleA]
  have hq : ∀ q, atL (scaleA m a k) q = if q = a then scaleR (atL m a) (powZ (atZ (atL m a) k) 1000000269) else atL m q := fun q => atL_set ha
  refine ⟨fun q hq' => ?_, fun q hq' => ?_, fun q h1 h2 j hj => ?_⟩
  · rw [hq]
    split
    · exact ⟨by rw [scaleR, List.length_map]; exact (h.row a ha).1, nums_scale _ _⟩
    · exact h.row q (by omega)
  · rw [hq]
    split
    · exact scaleR_sol (h.sol a ha)
    · exact h.sol q (by omega)
  · rw [hq]
    split
    · rw [scaleR_at, h.zero a (Nat.le_refl _) ha j hj]; simp [timesZ]
    · exact h.zero q h1 (by omega) j hj
theorem scaleA_one {m : List (List Int)} {a k : Nat} (ha : a < m.length) (h : atZ (atL m a) k % 1000000271 ≠ 0) : atZ (atL (scaleA m a k) a) k = 1 := by
  rw [scaleA, atL_set ha, if_pos rfl, scaleR_at]
  exact inv_one h
theorem RedInv.elim {X : Nat → Int} {c k a : Nat} {m : List (List Int)} (h : RedInv X c k a m) (ha : a < m.length) (hk : k < c) (h1 : atZ (atL m a) k = 1) : RedInv X c (k + 1) (a + 1) (elimA m a k m.length) := by
  have hq := fun q => elimA_at (m := m) (r := a) (k := k) q m.length (Nat.le_refl _)
  refine ⟨fun q hq' => ?_, fun q hq' => ?_, fun q g1 g2 j hj => ?_⟩
  · rw [elimA_len] at hq'
    rw [hq]
    split
    · exact ⟨by simp [elimR, (h.row q hq').1], nums_elim _ _ _⟩
    · exact h.row q hq'
  · rw [elimA_len] at hq'
    rw [hq]
    split
    · exact elimR_sol (h.row q hq').1 (h.sol q hq') (h.sol a ha)
    · exact h.sol q hq'
  · rw [elimA_len] at g2
    have hlen := (h.row q g2).1
    rw [hq, if_pos (by omega), elimR_at (by omega)]
    rcases (by omega : j < k ∨ j = k) with hj | rfl
    · rw [h.zero q (by omega) g2 j hj, h.zero a (Nat.le_refl _) ha j hj]
      simp [minusZ, timesZ]
    · rw [h1]
      have hn : 0 ≤ atZ (atL m q) j ∧ atZ (atL m q) j ≤ 1000000270 := by
        have hx : (atL m q)[j]? = some (atL m q)[j] := List.getElem?_eq_getElem (by omega)
        rw [atZ_get hx]
        exact (h.row q g2).2 _ (List.getElem_mem _)
      unfold minusZ timesZ
      omega
/-- One column with a row that is not zero there. -/
theorem RedInv.step {X : Nat → Int} {c k a i : Nat} {m : List (List Int)} (h : RedInv X c k a m) (hi : i < m.length) (ha : a ≤ i) (hk : k < c) (hz : atZ (atL m i) k ≠ 0) : RedInv X c (k + 1) (a + 1) (stepR m i a k) ∧ (stepR m i a k).length = m.length := by
  have hal : a < m.length := by omega
  have h1 := h.swap hi ha
  have h2 := h1.scale (by rw [swapR_len]; exact hal)
  have hsl : (scaleA (swapR m i a) a k).length = m.length := by simp [scaleA, swapR_len]
  have hn := nums_atZ (h.row i hi).2 k
  have h3 : atZ (atL (scaleA (swapR m i a) a k) a) k = 1 := scaleA_one (by rw [swapR_len]; exact hal) (by
    rw [swapR_at hi hal, if_pos rfl]
    omega)
  refine ⟨?_, by rw [stepR, elimA_len, hsl]⟩
  have := h2.elim (by rw [hsl]; exact hal) hk h3
  rw [hsl] at this
  exact this
/-- A row that is done has nothing to say. -/
theorem RedInv.last {X : Nat → Int} {n a : Nat} {m : List (List Int)} (h : RedInv X (n + 1) n a m) (hX : X n = -1) {i : Nat} (ha : a ≤ i) (hi : i < m.length) : atZ (atL m i) n = 0 := by
  have h1 := h.sol i hi
  have h2 : rowX X (n + 1) (atL m i) = - atZ (atL m i) n := by
    unfold rowX
    rw [List.range_succ, sumZ_append, sumZ_cons, sumZ_nil, hX]
    have : sumZ (fun j => atZ (atL m i) j * X j) (List.range n) = sumZ (fun _ => 0) (List.range n) := sumZ_congr fun j hj => by rw [h.zero i ha hi j (by simpa using hj)]; simp
    rw [this, sumZ_zero]
    omega
  have hn := nums_atZ (h.row i hi).2 n
  rw [h2] at h1
  unfold resZ at h1
  omega

/-- Weights with which the powers of different nodes are summed to whatever is asked. -/
theorem powers_solved : ∀ (cs : List Int), (∀ c ∈ cs, 0 ≤ c ∧ c ≤ 1000000270) → cs.Nodup → ∀ r : Nat → Int, ∃ b : Nat → Int, ∀ k, k < cs.length → resZ (sumZ (fun j => b j * atZ cs j ^ k) (List.range cs.length)) = resZ (r k)
  | [], _, _, _ => ⟨fun _ => 0, fun k h => by simp at h⟩
  | c0 :: cs, hn, hd, r => by
    have hd2 := List.nodup_cons.1 hd
    obtain ⟨b', hb'⟩ := powers_solved cs (fun c hc => hn c (by simp [hc])) hd2.2 (fun k => r (k + 1) - c0 * r k)
    have hinv : ∀ j, j < cs.length → ∃ u, resZ (u * (atZ cs j - c0)) = 1 := fun j hj => by
      have hx : cs[j]? = some cs[j] := List.getElem?_eq_getElem hj
      have h1 := hn cs[j] (by simp)
      have h2 := hn c0 (by simp)
      have h3 : cs[j] ≠ c0 := fun e => hd2.1 (e ▸ List.getElem_mem _)
      refine ⟨powZ (atZ cs j - c0) 1000000269, ?_⟩
      have := inv_one (a := atZ cs j - c0) (by rw [atZ_get hx]; omega)
      rw [Int.mul_comm]
      exact this
    obtain ⟨u, hu⟩ : ∃ u : Nat → Int, ∀ j, j < cs.length → resZ (u j * (atZ cs j - c0)) = 1 :=
      ⟨fun j => if h : j < cs.length then (hinv j h).choose else 0, fun j hj => by simp only [hj, dite_true]; exact (hinv j hj).choose_spec⟩
    -- the weights of the others, then the first one's
    let b1 : Nat → Int := fun j => b' j * u j
    let s : Int := sumZ b1 (List.range cs.length)
    refine ⟨fun j => match j with | 0 => r 0 - s | j + 1 => b1 j, fun k => ?_⟩
    have hsplit : ∀ k, sumZ (fun j => (match j with | 0 => r 0 - s | j + 1 => b1 j) * atZ (c0 :: cs) j ^ k) (List.range (c0 :: cs).length) = (r 0 - s) * c0 ^ k + sumZ (fun j => b1 j * atZ cs j ^ k) (List.range cs.length) := fun k => by
      rw [List.length_cons, List.range_succ_eq_map, sumZ_cons, sumZ_map]
      rfl
    rw [hsplit]
    induction k with
    | zero =>
      intro _
      have : sumZ (fun j => b1 j * atZ cs j ^ 0) (List.range cs.length) = s := sumZ_congr fun j _ => by simp
      rw [this]
      congr 1
      simp
    | succ k ih =>
      intro hk
      have ih := ih (by simp at hk ⊢; omega)
      have hb := hb' k (by simpa using hk)
      have h1 : sumZ (fun j => b1 j * atZ cs j ^ (k + 1)) (List.range cs.length) = c0 * sumZ (fun j => b1 j * atZ cs j ^ k) (List.range cs.length) + sumZ (fun j => b1 j * (atZ cs j - c0) * atZ cs j ^ k) (List.range cs.length) := by
        rw [← sumZ_mul, ← sumZ_add]
        refine sumZ_congr fun j _ => ?_
        rw [Int.pow_succ]
        grind
      have h2 : resZ (sumZ (fun j => b1 j * (atZ cs j - c0) * atZ cs j ^ k) (List.range cs.length)) = resZ (r (k + 1) - c0 * r k) := by
        rw [← hb]
        refine res_sum fun j hj => ?_
        have hj := hu j (by simpa using hj)
        have e : b1 j * (atZ cs j - c0) * atZ cs j ^ k = (u j * (atZ cs j - c0)) * (b' j * atZ cs j ^ k) := by show b' j * u j * _ * _ = _; grind
        rw [e, ← res_mul2 (a := resZ (u j * (atZ cs j - c0))) (res_res _) rfl, hj, Int.one_mul]
      rw [h1, Int.pow_succ]
      have e : (r 0 - s) * (c0 ^ k * c0) + (c0 * sumZ (fun j => b1 j * atZ cs j ^ k) (List.range cs.length) + sumZ (fun j => b1 j * (atZ cs j - c0) * atZ cs j ^ k) (List.range cs.length))
          = c0 * ((r 0 - s) * c0 ^ k + sumZ (fun j => b1 j * atZ cs j ^ k) (List.range cs.length)) + sumZ (fun j => b1 j * (atZ cs j - c0) * atZ cs j ^ k) (List.range cs.length) := by grind
      rw [e, res_add (res_mul ih) h2]
      congr 1
      omega
end Go.Proofs.YtbcjhpgkodeoeaaGreatDoor

/- The two systems of equations that the draws solve have an answer. Plain: no program's step stands here. -/
namespace Go.Proofs.YtbcjhpgkodeoeaaGreatDoor

/-- the rows with the right sides behind them -/
def augZ (rows : List (List Int)) (right : List Int) : List (List Int) := (List.range rows.length).map fun i => atL rows i ++ [atZ right i]
theorem augZ_at {rows : List (List Int)} {right : List Int} {i : Nat} (h : i < rows.length) : atL (augZ rows right) i = atL rows i ++ [atZ right i] := by simp [augZ, atL, h]
theorem augZ_len (rows : List (List Int)) (right : List Int) : (augZ rows right).length = rows.length := by simp [augZ]
/-- some numbers answer the equations -/
def Solv (n : Nat) (rows : List (List Int)) (right : List Int) : Prop := ∃ b : Nat → Int, ∀ i, i < rows.length → resZ (sumZ (fun j => atZ (atL rows i) j * b j) (List.range n)) = resZ (atZ right i)
theorem solv_start {n : Nat} {rows : List (List Int)} {right : List Int} (hr : ∀ i, i < rows.length → (atL rows i).length = n ∧ Nums (atL rows i)) (hn : Nums right) (hs : Solv n rows right) :
    ∃ X : Nat → Int, X n = -1 ∧ RedInv X (n + 1) 0 0 (augZ rows right) := by
  obtain ⟨b, hb⟩ := hs
  refine ⟨fun j => if j < n then b j else -1, by simp, ?_, ?_, fun i _ _ j hj => absurd hj (by omega)⟩
  · intro i hi
    rw [augZ_len] at hi
    rw [augZ_at hi]
    obtain ⟨h1, h2⟩ := hr i hi
    refine ⟨by simp [h1], fun x hx => ?_⟩
    rcases List.mem_append.1 hx with hx | hx
    · exact h2 x hx
    · rw [List.mem_singleton.1 hx]; exact nums_atZ hn i
  · intro i hi
    rw [augZ_len] at hi
    rw [augZ_at hi, rowX, List.range_succ, sumZ_append, sumZ_cons, sumZ_nil]
    obtain ⟨h1, _⟩ := hr i hi
    have e1 : sumZ (fun j => atZ (atL rows i ++ [atZ right i]) j * (if j < n then b j else -1)) (List.range n) = sumZ (fun j => atZ (atL rows i) j * b j) (List.range n) := sumZ_congr fun j hj => by
      have hj : j < n := by simpa using hj
      rw [if_pos hj]
      unfold atZ
      rw [List.getElem?_append_left (by omega)]
    have e2 : atZ (atL rows i ++ [atZ right i]) n = atZ right i := by
      unfold atZ
      rw [List.getElem?_append_right (by omega), h1]
      simp
    rw [e1, e2, if_neg (by omega), res_add (hb i hi) (d := atZ right i * -1) (by simp)]
    simp [resZ]
    omega
def powR (cs : List Int) (k : Nat) : List Int := cs.map fun c => powZ c k
theorem powR_nums (cs : List Int) (k : Nat) : Nums (powR cs k) := fun x hx => by
  obtain ⟨c, _, rfl⟩ := List.mem_map.1 hx
  exact powZ_bd _ _
def powRows (cs : List Int) : List (List Int) := (List.range cs.length).map (powR cs)
theorem powRows_ok (cs : List Int) : ∀ i, i < (powRows cs).length → (atL (powRows cs) i).length = cs.length ∧ Nums (atL (powRows cs) i) := fun i hi => by
  have h1 : i < cs.length := by simpa [powRows] using hi
  have : atL (powRows cs) i = powR cs i := by simp [powRows, atL, h1]
  rw [this]
  exact ⟨by simp [powR], powR_nums _ _⟩
/-- Different nodes: there are weights. -/
theorem powRows_solv {cs right : List Int} (hn : Nums cs) (hd : cs.Nodup) : Solv cs.length (powRows cs) right := by
  obtain ⟨b, hb⟩ := powers_solved cs hn hd (fun k => atZ right k)
  refine ⟨b, fun i hi => ?_⟩
  have h1 : i < cs.length := by simpa [powRows] using hi
  have e : atL (powRows cs) i = powR cs i := by simp [powRows, atL, h1]
  rw [e, ← hb i h1]
  refine res_sum fun j hj => ?_
  have hj : j < cs.length := by simpa using hj
  have e2 : atZ (powR cs i) j = atZ cs j ^ i % 1000000271 := by
    simp [powR, atZ, hj, powZ]
    intro h
    omega
  rw [e2]
  unfold resZ
  rw [modl, Int.mul_comm]
/-- Two equations: what ExplicitFour asks. -/
theorem two_solv {b2 b3 c2 c3 : Int} (h2 : b2 % 1000000271 ≠ 0) (h3 : b3 % 1000000271 ≠ 0) (hc : c2 % 1000000271 ≠ 0) (hd : (c3 - 1) % 1000000271 ≠ 0) (right : List Int) :
    Solv 2 [[b2, b3], [timesZ b2 (timesZ c3 c2), timesZ b3 c2]] right := by
  obtain ⟨u, hu⟩ : ∃ u, (b2 * u) % 1000000271 = 1 := ⟨_, inv_one h2⟩
  obtain ⟨v, hv⟩ : ∃ u, (b3 * u) % 1000000271 = 1 := ⟨_, inv_one h3⟩
  obtain ⟨x, hx⟩ : ∃ u, (c2 * u) % 1000000271 = 1 := ⟨_, inv_one hc⟩
  obtain ⟨y, hy⟩ : ∃ u, ((c3 - 1) * u) % 1000000271 = 1 := ⟨_, inv_one hd⟩
  have one : ∀ {a : Int}, a % 1000000271 = 1 → ∃ k, a = 1 + 1000000271 * k := fun {a} h => ⟨a / 1000000271, by omega⟩
  obtain ⟨ku, hu⟩ := one hu
  obtain ⟨kv, hv⟩ := one hv
  obtain ⟨kx, hx⟩ := one hx
  obtain ⟨ky, hy⟩ := one hy
  have same : ∀ {a b : Int}, (∃ k, a = b + 1000000271 * k) → resZ a = resZ b := fun {a b} ⟨k, h⟩ => by rw [h]; unfold resZ; omega
  generalize hr0 : atZ right 0 = r0
  generalize hr1 : atZ right 1 = r1
  let X0 := (r1 - c2 * r0) * u * x * y
  let X1 := (r0 - b2 * X0) * v
  refine ⟨fun j => if j = 0 then X0 else X1, fun i hi => ?_⟩
  have hi : i = 0 ∨ i = 1 := by simp at hi; omega
  rcases hi with rfl | rfl
  · rw [hr0]
    simp only [List.range_succ, List.range_zero, List.nil_append, List.cons_append, sumZ_cons, sumZ_nil, atL, atZ, List.getElem?_cons_zero, List.getElem?_cons_succ, Option.getD_some, if_true]
    refine same ⟨(r0 - b2 * X0) * kv, ?_⟩
    show b2 * X0 + (b3 * ((r0 - b2 * X0) * v) + 0) = _
    grind
  · rw [hr1]
    simp only [List.range_succ, List.range_zero, List.nil_append, List.cons_append, sumZ_cons, sumZ_nil, atL, atZ, List.getElem?_cons_zero, List.getElem?_cons_succ, Option.getD_some, if_true]
    have e : resZ (timesZ b2 (timesZ c3 c2) * X0 + (timesZ b3 c2 * X1 + 0)) = resZ (b2 * (c3 * c2) * X0 + (b3 * c2 * X1 + 0)) := by
      refine res_add ?_ (res_add ?_ rfl)
      · unfold timesZ resZ; rw [modl, ← modl, modr, modl]
      · unfold timesZ resZ; rw [modl]
    refine Eq.trans (by exact e) (same ⟨?_, ?_⟩)
    · exact (r0 - b2 * X0) * kv * c2 + (r1 - c2 * r0) * (ku * (c2 * x) * ((c3 - 1) * y) + kx * ((c3 - 1) * y) + ky)
    · show b2 * (c3 * c2) * X0 + (b3 * c2 * ((r0 - b2 * X0) * v) + 0) = _
      have e1 : b3 * c2 * ((r0 - b2 * X0) * v) = c2 * (r0 - b2 * X0) * (1 + 1000000271 * kv) := by rw [← hv]; grind
      have e2 : b2 * (c3 * c2) * X0 - c2 * b2 * X0 = (r1 - c2 * r0) * ((b2 * u) * (c2 * x) * ((c3 - 1) * y)) := by show _ * ((r1 - c2 * r0) * u * x * y) - _ * ((r1 - c2 * r0) * u * x * y) = _; grind
      have e3 : (b2 * u) * (c2 * x) * ((c3 - 1) * y) = 1 + 1000000271 * (ku * (c2 * x) * ((c3 - 1) * y) + kx * ((c3 - 1) * y) + ky) := by
        have : (b2 * u) * (c2 * x) * ((c3 - 1) * y) = (1 + 1000000271 * ku) * (c2 * x) * ((c3 - 1) * y) := by rw [hu]
        rw [this]
        have h1 : (c2 * x) * ((c3 - 1) * y) = (1 + 1000000271 * kx) * ((c3 - 1) * y) := by rw [hx]
        grind
      rw [e1]
      rw [e3] at e2
      grind
end Go.Proofs.YtbcjhpgkodeoeaaGreatDoor

/- Rows brought to a reduced form, as a function; systems solved by it. Plain: no program's step stands here. -/
namespace Go.Proofs.YtbcjhpgkodeoeaaGreatDoor

/-- the first row from r on that is not zero in the column k -/
def pivO (m : List (List Int)) (r k : Nat) : Option Nat := (List.range m.length).find? fun i => decide (r ≤ i) && decide (atZ (atL m i) k ≠ 0)
theorem pivO_none {m : List (List Int)} {r k : Nat} (h : ∀ i, r ≤ i → i < m.length → atZ (atL m i) k = 0) : pivO m r k = none := by
  rw [pivO, List.find?_eq_none]
  intro i hi
  have hi : i < m.length := by simpa using hi
  simp only [Bool.and_eq_true, decide_eq_true_eq, not_and, ne_eq, Decidable.not_not]
  exact fun hr => h i hr hi
theorem pivO_some {m : List (List Int)} {r k i : Nat} (h1 : r ≤ i) (h2 : i < m.length) (h3 : atZ (atL m i) k ≠ 0) (h4 : ∀ j, r ≤ j → j < i → atZ (atL m j) k = 0) : pivO m r k = some i := by
  rw [pivO, List.find?_range_eq_some]
  refine ⟨by simp [h1, h3], by simpa using h2, fun j hj => ?_⟩
  by_cases hr : r ≤ j
  · simp [h4 j hr hj]
  · simp [hr]
/-- k columns are looked at: the rows, and where the pivots are -/
def redS (m : List (List Int)) : Nat → List (List Int) × List Nat
  | 0 => (m, [])
  | k + 1 => match pivO (redS m k).1 (redS m k).2.length k with
    | none => redS m k
    | some i => (stepR (redS m k).1 i (redS m k).2.length k, (redS m k).2 ++ [k])
theorem redS_none {m : List (List Int)} {k : Nat} (h : pivO (redS m k).1 (redS m k).2.length k = none) : redS m (k + 1) = redS m k := by rw [redS, h]
theorem redS_some {m : List (List Int)} {k i : Nat} (h : pivO (redS m k).1 (redS m k).2.length k = some i) : redS m (k + 1) = (stepR (redS m k).1 i (redS m k).2.length k, (redS m k).2 ++ [k]) := by rw [redS, h]
theorem redS_full {m : List (List Int)} {k : Nat} (h : (redS m k).1.length ≤ (redS m k).2.length) : ∀ j, k ≤ j → redS m j = redS m k
  | 0, hj => by rw [show k = 0 by omega]
  | j + 1, hj => by
    by_cases hk : k = j + 1
    · rw [hk]
    · have ih := redS_full h j (by omega)
      rw [redS_none (by rw [ih]; exact pivO_none fun i h1 h2 => by omega), ih]
theorem stepR_len (m : List (List Int)) (i r k : Nat) : (stepR m i r k).length = m.length := by simp [stepR, elimA_len, scaleA, swapR_len]
theorem pivO_spec {m : List (List Int)} {r k i : Nat} (h : pivO m r k = some i) : r ≤ i ∧ i < m.length ∧ atZ (atL m i) k ≠ 0 := by
  rw [pivO, List.find?_range_eq_some] at h
  obtain ⟨h1, h2, _⟩ := h
  simp only [Bool.and_eq_true, decide_eq_true_eq] at h1
  exact ⟨h1.1, by simpa using h2, h1.2⟩
theorem pivO_miss {m : List (List Int)} {r k : Nat} (h : pivO m r k = none) : ∀ i, r ≤ i → i < m.length → atZ (atL m i) k = 0 := fun i h1 h2 => by
  rw [pivO, List.find?_eq_none] at h
  have := h i (by simpa using h2)
  simp only [Bool.and_eq_true, decide_eq_true_eq, not_and, ne_eq, Decidable.not_not] at this
  exact this h1
/-- rows of one length, of numbers -/
def RowsOk (c : Nat) (m : List (List Int)) : Prop := ∀ i, i < m.length → (atL m i).length = c ∧ Nums (atL m i)
theorem RowsOk.swap {c i r : Nat} {m : List (List Int)} (h : RowsOk c m) (hi : i < m.length) (hr : r < m.length) : RowsOk c (swapR m i r) := fun q hq => by
  rw [swapR_len] at hq
  rw [swapR_at hi hr]
  split
  · exact h i hi
  · split
    · exact h r hr
    · exact h q hq
theorem RowsOk.scale {c r k : Nat} {m : List (List Int)} (h : RowsOk c m) (hr : r < m.length) : RowsOk c (scaleA m r k) := fun q hq => by
  have hl : (scaleA m r k).length = m.length := by simp [scaleA]
  rw [scaleA, atL_set hr]
  split
  · exact ⟨by rw [scaleR, List.length_map]; exact (h r hr).1, nums_scale _ _⟩
  · exact h q (by omega)
theorem RowsOk.elim {c r k t : Nat} {m : List (List Int)} (h : RowsOk c m) (ht : t ≤ m.length) : RowsOk c (elimA m r k t) := fun q hq => by
  rw [elimA_len] at hq
  rw [elimA_at q t ht]
  split
  · exact ⟨by simp [elimR, (h q hq).1], nums_elim _ _ _⟩
  · exact h q hq
theorem RowsOk.step {c i r k : Nat} {m : List (List Int)} (h : RowsOk c m) (hi : i < m.length) (hr : r < m.length) : RowsOk c (stepR m i r k) := by
  have h1 := (h.swap hi hr).scale (k := k) (by rw [swapR_len]; exact hr)
  have hl : (scaleA (swapR m i r) r k).length = m.length := by simp [scaleA, swapR_len]
  exact h1.elim (by rw [hl]; exact Nat.le_refl _)
theorem redS_ok {c : Nat} {m : List (List Int)} (h : RowsOk c m) : ∀ k, RowsOk c (redS m k).1 ∧ (redS m k).1.length = m.length ∧ (redS m k).2.length ≤ k ∧ (redS m k).2.length ≤ m.length ∧ ∀ x ∈ (redS m k).2, x < k
  | 0 => ⟨h, rfl, Nat.le_refl _, Nat.zero_le _, by simp [redS]⟩
  | k + 1 => by
    obtain ⟨h1, h2, h3, h4, h5⟩ := redS_ok h k
    cases hp : pivO (redS m k).1 (redS m k).2.length k with
    | none =>
      rw [redS_none hp]
      exact ⟨h1, h2, by omega, h4, fun x hx => by have := h5 x hx; omega⟩
    | some i =>
      obtain ⟨g1, g2, _⟩ := pivO_spec hp
      rw [redS_some hp]
      refine ⟨h1.step g2 (by omega), by simp only [stepR_len]; exact h2, by simp; omega, by simp; omega, fun x hx => ?_⟩
      simp at hx
      rcases hx with hx | rfl
      · have := h5 x hx; omega
      · omega
/-- What is kept by it. -/
theorem redS_inv {X : Nat → Int} {c : Nat} {m : List (List Int)} (h : RedInv X c 0 0 m) : ∀ k, k ≤ c → RedInv X c k (redS m k).2.length (redS m k).1
  | 0, _ => h
  | k + 1, hk => by
    have ih := redS_inv h k (by omega)
    cases hp : pivO (redS m k).1 (redS m k).2.length k with
    | none => rw [redS_none hp]; exact ih.skip (pivO_miss hp)
    | some i =>
      obtain ⟨g1, g2, g3⟩ := pivO_spec hp
      rw [redS_some hp]
      have := (ih.step g2 g1 (by omega) g3).1
      simpa using this

/-- a row whose first j numbers are new -/
def preR (f : Nat → Int → Int) (row : List Int) (j : Nat) : List Int := (List.range row.length).map fun i => if i < j then f i (atZ row i) else atZ row i
theorem preR_len (f : Nat → Int → Int) (row : List Int) (j : Nat) : (preR f row j).length = row.length := by simp [preR]
theorem preR_get {f : Nat → Int → Int} {row : List Int} {j i : Nat} (h : i < row.length) : (preR f row j)[i]? = some (if i < j then f i (atZ row i) else atZ row i) := by simp [preR, h]
theorem preR_zero (f : Nat → Int → Int) (row : List Int) : preR f row 0 = row := by
  refine List.ext_getElem? fun i => ?_
  by_cases h : i < row.length
  · rw [preR_get h, if_neg (by omega), atZ_get (List.getElem?_eq_getElem h), List.getElem?_eq_getElem h]
  · rw [List.getElem?_eq_none (by rw [preR_len]; omega), List.getElem?_eq_none (by omega)]
theorem preR_next {f : Nat → Int → Int} {row : List Int} {j : Nat} (h : j < row.length) : (preR f row j).set j (f j (atZ row j)) = preR f row (j + 1) := by
  refine List.ext_getElem? fun i => ?_
  by_cases hi : i < row.length
  · rw [preR_get hi]
    by_cases hij : i = j
    · subst hij
      rw [List.getElem?_set_self (by rw [preR_len]; exact hi), if_pos (by omega)]
    · rw [List.getElem?_set_ne (fun h => hij h.symm), preR_get hi]
      by_cases h2 : i < j
      · rw [if_pos h2, if_pos (by omega)]
      · rw [if_neg h2, if_neg (by omega)]
  · rw [List.getElem?_eq_none (by rw [List.length_set, preR_len]; omega), List.getElem?_eq_none (by rw [preR_len]; omega)]
theorem preR_scale (row : List Int) (x : Int) : preR (fun _ a => timesZ a x) row row.length = scaleR row x := by
  refine List.ext_getElem? fun i => ?_
  by_cases hi : i < row.length
  · rw [preR_get hi, if_pos hi]
    simp [scaleR, atZ, hi]
  · rw [List.getElem?_eq_none (by rw [preR_len]; omega), List.getElem?_eq_none (by simp [scaleR]; omega)]
theorem preR_elim (row pr : List Int) (y : Int) : preR (fun j a => minusZ a (timesZ y (atZ pr j))) row row.length = elimR row pr y := by
  refine List.ext_getElem? fun i => ?_
  by_cases hi : i < row.length
  · rw [preR_get hi, if_pos hi]
    simp [elimR, hi]
  · rw [List.getElem?_eq_none (by rw [preR_len]; omega), List.getElem?_eq_none (by simp [elimR]; omega)]
end Go.Proofs.YtbcjhpgkodeoeaaGreatDoor

/- The tests on tableaus, of the program and of the reference: what they return. Conditions: none. -/
namespace Go.Proofs.YtbcjhpgkodeoeaaGreatDoor
open Go.RowKit Go.Sort

def stB (s : Int) : Bool := decide (0 ≤ s ∧ s ≤ 8)
def tabOkB (t : TabZ) : Bool := stB t.stages && decide ((t.A.length : Int) = t.stages * t.stages) && decide ((t.B.length : Int) = t.stages) && t.A.all isNumB && t.B.all isNumB
theorem tab_st {t : TabZ} (h : stB t.stages = false) : tabOkB t = false := by simp [tabOkB, h]
theorem tab_A {t : TabZ} (h : (t.A.length : Int) ≠ t.stages * t.stages) : tabOkB t = false := by simp [tabOkB, h]
theorem tab_B {t : TabZ} (h : (t.B.length : Int) ≠ t.stages) : tabOkB t = false := by simp [tabOkB, h]
theorem tab_nA {t : TabZ} (h : t.A.all isNumB = false) : tabOkB t = false := by rw [tabOkB, h]; simp
theorem tab_nB {t : TabZ} (h : t.B.all isNumB = false) : tabOkB t = false := by rw [tabOkB, h]; simp
theorem tab_yes {t : TabZ} (h0 : stB t.stages = true) (h1 : (t.A.length : Int) = t.stages * t.stages) (h2 : (t.B.length : Int) = t.stages) (h3 : t.A.all isNumB = true) (h4 : t.B.all isNumB = true) : tabOkB t = true := by
  rw [tabOkB, h0, h3, h4, decide_eq_true h1, decide_eq_true h2]; rfl
theorem sq_bd {s : Int} (h0 : 0 ≤ s) (h1 : s ≤ 8) : 0 ≤ s * s ∧ s * s ≤ 64 := by
  have := Int.mul_nonneg h0 h0
  have := Int.mul_le_mul h1 h1 h0 (by omega : (0:Int) ≤ 8)
  omega
theorem allNumbers_eq {b : Bool} (v : Value) (xs : List Int) (w : World) (h : RdI w v xs) (hb : xs.all isNumB = b) :
    Calls Tryz.prog 116 #[v] w fun e w' => e = .returned (.bool b) ∧ w = w' := hb ▸ allNumbers_any v xs w h
theorem l1All_eq {b : Bool} (v : Value) (xs : List Int) (w : World) (h : RdI w v xs) (hb : xs.all isNumB = b) :
    Calls Tryz.prog 184 #[v] w fun e w' => e = .returned (.bool b) ∧ w = w' := hb ▸ l1All_any v xs w h
theorem l1In_eq' {n lo hi : Int} {b : Bool} (h : inB n lo hi = b) (w : World) : Calls Tryz.prog 131 #[.int .i64 n, .int .i64 lo, .int .i64 hi] w fun e w' => e = .returned (.bool b) ∧ w = w' := h ▸ l1In_any n lo hi w

set_option maxHeartbeats 1600000 in
theorem tabOk_any (v : Value) (t : TabZ) (w : World) (h : RdTab w v t) :
    Calls Tryz.prog 57 #[v] w fun e w' => e = .returned (.bool (tabOkB t)) ∧ Below w.heap.size w w' := by
  obtain ⟨vA, vB, rfl, hI, hA, hB⟩ := h
  have hb0 : Below w.heap.size w (w.alloc (.cells #[.int .i64 t.stages, vA, vB] 37)) := (Below.refl _ _).alloc (Nat.le_refl _) _
  have gA := rdI_mono hb0 hA
  have gB := rdI_mono hb0 hB
  obtain ⟨aA, nA, cA, rfl, lA, _, _, _⟩ := rdS_open hA
  obtain ⟨aB, nB, cB, rfl, lB, _, _, _⟩ := rdS_open hB
  have LA := Lib.hid lA
  have LB := Lib.hid lB
  clear hA hB lA lB
  by_cases h0 : 0 ≤ t.stages
  case neg =>
    have HT := Lib.hid (tab_st (t := t) (by simp [stB]; omega))
    go_enter Tryz.func57, Tryz.ntmps57
    go_wp2
    go_ret
    exact ⟨ret_bool (by rw [HT.out]), hb0⟩
  by_cases h8 : t.stages ≤ 8
  case neg =>
    have HT := Lib.hid (tab_st (t := t) (by simp [stB]; omega))
    go_enter Tryz.func57, Tryz.ntmps57
    go_wp2
    go_ret
    exact ⟨ret_bool (by rw [HT.out]), hb0⟩
  have HS := Lib.hid (show stB t.stages = true by simp [stB]; omega)
  obtain ⟨q0, q1⟩ := sq_bd h0 h8
  by_cases hAl : (nA : Int) = t.stages * t.stages
  case neg =>
    have HT := Lib.hid (tab_A (t := t) (by rw [LA.out]; exact hAl))
    have hAb : ((nA : Int) == t.stages * t.stages) = false := by simpa using hAl
    clear hAl
    go_enter Tryz.func57, Tryz.ntmps57
    go_wp2
    go_ret
    exact ⟨ret_bool (by rw [HT.out]), hb0⟩
  have HA := Lib.hid hAl
  have hAb : ((nA : Int) == t.stages * t.stages) = true := by simpa using hAl
  clear hAl
  by_cases hBl : (nB : Int) = t.stages
  case neg =>
    have HT := Lib.hid (tab_B (t := t) (by rw [LB.out]; exact hBl))
    have hBb : ((nB : Int) == t.stages) = false := by simpa using hBl
    clear hBl
    go_enter Tryz.func57, Tryz.ntmps57
    go_wp2
    go_ret
    exact ⟨ret_bool (by rw [HT.out]), hb0⟩
  have HB := Lib.hid hBl
  have hBb : ((nB : Int) == t.stages) = true := by simpa using hBl
  clear hBl
  cases hnA : t.A.all isNumB with
  | false =>
    have HT := Lib.hid (tab_nA hnA)
    go_enter Tryz.func57, Tryz.ntmps57
    go_wp2_with (go_at_call 116; ((with_reducible refine (allNumbers_eq _ t.A _ gA hnA).mono ?_); rintro e w' ⟨rfl, rfl⟩))
    go_ret
    exact ⟨ret_bool (by rw [HT.out]), hb0⟩
  | true =>
  cases hnB : t.B.all isNumB with
  | false =>
    have HT := Lib.hid (tab_nB hnB)
    go_enter Tryz.func57, Tryz.ntmps57
    go_wp2_with fail
    refine (allNumbers_eq _ t.A _ gA hnA).mono ?_
    rintro e w' ⟨rfl, rfl⟩
    go_wp2_with fail
    refine (allNumbers_eq _ t.B _ gB hnB).mono ?_
    rintro e w' ⟨rfl, rfl⟩
    go_wp2
    go_ret
    exact ⟨ret_bool (by rw [HT.out]), hb0⟩
  | true =>
    have HT := Lib.hid (tab_yes HS.out (by rw [LA.out]; exact HA.out) (by rw [LB.out]; exact HB.out) hnA hnB)
    go_enter Tryz.func57, Tryz.ntmps57
    go_wp2_with fail
    refine (allNumbers_eq _ t.A _ gA hnA).mono ?_
    rintro e w' ⟨rfl, rfl⟩
    go_wp2_with fail
    refine (allNumbers_eq _ t.B _ gB hnB).mono ?_
    rintro e w' ⟨rfl, rfl⟩
    go_wp2
    go_ret
    exact ⟨ret_bool (by rw [HT.out]), hb0⟩
theorem tabOk_eq {b : Bool} (v : Value) (t : TabZ) (w : World) (h : RdTab w v t) (hb : tabOkB t = b) :
    Calls Tryz.prog 57 #[v] w fun e w' => e = .returned (.bool b) ∧ Below w.heap.size w w' := hb ▸ tabOk_any v t w h

set_option maxHeartbeats 1600000 in
theorem sTabOk_any (v : Value) (t : TabZ) (w : World) (h : RdTab w v t) :
    Calls Tryz.prog 174 #[v] w fun e w' => e = .returned (.bool (tabOkB t)) ∧ Below w.heap.size w w' := by
  obtain ⟨vA, vB, rfl, hI, hA, hB⟩ := h
  have hb0 : Below w.heap.size w (w.alloc (.cells #[.int .i64 t.stages, vA, vB] 37)) := (Below.refl _ _).alloc (Nat.le_refl _) _
  have gA := rdI_mono hb0 hA
  have gB := rdI_mono hb0 hB
  obtain ⟨aA, nA, cA, rfl, lA, _, _, _⟩ := rdS_open hA
  obtain ⟨aB, nB, cB, rfl, lB, _, _, _⟩ := rdS_open hB
  have LA := Lib.hid lA
  have LB := Lib.hid lB
  clear hA hB lA lB
  cases hst : stB t.stages with
  | false =>
    have hstI : inB t.stages 0 8 = false := hst
    have HT := Lib.hid (tab_st hst)
    go_enter Tryz.func174, Tryz.ntmps174
    go_wp2_with (go_at_call 131; ((with_reducible refine (l1In_eq' hstI _).mono ?_); rintro e w' ⟨rfl, rfl⟩))
    go_ret
    exact ⟨ret_bool (by rw [HT.out]), hb0⟩
  | true =>
  have hstI : inB t.stages 0 8 = true := hst
  have h08 : 0 ≤ t.stages ∧ t.stages ≤ 8 := by simpa [stB] using hst
  obtain ⟨h0, h8⟩ := h08
  obtain ⟨q0, q1⟩ := sq_bd h0 h8
  by_cases hAl : (nA : Int) = t.stages * t.stages
  case neg =>
    have HT := Lib.hid (tab_A (t := t) (by rw [LA.out]; exact hAl))
    have hAb : ((nA : Int) == t.stages * t.stages) = false := by simpa using hAl
    clear hAl
    go_enter Tryz.func174, Tryz.ntmps174
    go_wp2_with (go_at_call 131; ((with_reducible refine (l1In_eq' hstI _).mono ?_); rintro e w' ⟨rfl, rfl⟩))
    go_ret
    exact ⟨ret_bool (by rw [HT.out]), hb0⟩
  have HA := Lib.hid hAl
  have hAb : ((nA : Int) == t.stages * t.stages) = true := by simpa using hAl
  clear hAl
  by_cases hBl : (nB : Int) = t.stages
  case neg =>
    have HT := Lib.hid (tab_B (t := t) (by rw [LB.out]; exact hBl))
    have hBb : ((nB : Int) == t.stages) = false := by simpa using hBl
    clear hBl
    go_enter Tryz.func174, Tryz.ntmps174
    go_wp2_with (go_at_call 131; ((with_reducible refine (l1In_eq' hstI _).mono ?_); rintro e w' ⟨rfl, rfl⟩))
    go_ret
    exact ⟨ret_bool (by rw [HT.out]), hb0⟩
  have HB := Lib.hid hBl
  have hBb : ((nB : Int) == t.stages) = true := by simpa using hBl
  clear hBl
  cases hnA : t.A.all isNumB with
  | false =>
    have HT := Lib.hid (tab_nA hnA)
    go_enter Tryz.func174, Tryz.ntmps174
    go_wp2_with (first | (go_at_call 131; ((with_reducible refine (l1In_eq' hstI _).mono ?_); rintro e w' ⟨rfl, rfl⟩)) | (go_at_call 184; ((with_reducible refine (l1All_eq _ t.A _ gA hnA).mono ?_); rintro e w' ⟨rfl, rfl⟩)))
    go_ret
    exact ⟨ret_bool (by rw [HT.out]), hb0⟩
  | true =>
  cases hnB : t.B.all isNumB with
  | false =>
    have HT := Lib.hid (tab_nB hnB)
    go_enter Tryz.func174, Tryz.ntmps174
    go_wp2_with (go_at_call 131; ((with_reducible refine (l1In_eq' hstI _).mono ?_); rintro e w' ⟨rfl, rfl⟩))
    refine (l1All_eq _ t.A _ gA hnA).mono ?_
    rintro e w' ⟨rfl, rfl⟩
    go_wp2_with fail
    refine (l1All_eq _ t.B _ gB hnB).mono ?_
    rintro e w' ⟨rfl, rfl⟩
    go_wp2
    go_ret
    exact ⟨ret_bool (by rw [HT.out]), hb0⟩
  | true =>
    have HT := Lib.hid (tab_yes hst (by rw [LA.out]; exact HA.out) (by rw [LB.out]; exact HB.out) hnA hnB)
    go_enter Tryz.func174, Tryz.ntmps174
    go_wp2_with fail
    refine (l1In_eq' hstI _).mono ?_
    rintro e w' ⟨rfl, rfl⟩
    go_wp2_with fail
    refine (l1All_eq _ t.A _ gA hnA).mono ?_
    rintro e w' ⟨rfl, rfl⟩
    go_wp2_with fail
    refine (l1All_eq _ t.B _ gB hnB).mono ?_
    rintro e w' ⟨rfl, rfl⟩
    go_wp2
    go_ret
    exact ⟨ret_bool (by rw [HT.out]), hb0⟩
theorem sTabOk_eq {b : Bool} (v : Value) (t : TabZ) (w : World) (h : RdTab w v t) (hb : tabOkB t = b) :
    Calls Tryz.prog 174 #[v] w fun e w' => e = .returned (.bool b) ∧ Below w.heap.size w w' := hb ▸ sTabOk_any v t w h
theorem idx_lt {n i j : Nat} (hi : i < n) (hj : j < n) : i * n + j < n * n := by
  have : (i + 1) * n ≤ n * n := Nat.mul_le_mul_right n hi
  rw [Nat.succ_mul] at this
  omega
theorem idx_bd {n i j : Nat} (hi : i < n) (hj : j < n) (hn : n ≤ 8) : 0 ≤ (i : Int) * n ∧ (i : Int) * n ≤ 64 ∧ 0 ≤ (i : Int) * n + j ∧ (i : Int) * n + j ≤ 72 ∧ ((i : Int) * n + j).toNat = i * n + j := by
  have h1 : i * n ≤ 8 * 8 := Nat.mul_le_mul (by omega) hn
  have h2 : ((i * n : Nat) : Int) = (i : Int) * n := by simp
  omega
/-- What a fine tableau is, in numbers. -/
theorem tabOk_num {t : TabZ} (h : tabOkB t = true) : t.stages = (t.B.length : Int) ∧ t.A.length = t.B.length * t.B.length ∧ t.B.length ≤ 8 := by
  simp only [tabOkB, stB, Bool.and_eq_true, decide_eq_true_eq] at h
  obtain ⟨⟨⟨⟨⟨h0, h8⟩, hA⟩, hB⟩, _⟩, _⟩ := h
  refine ⟨hB.symm, ?_, by omega⟩
  rw [← hB] at hA
  have : ((t.B.length * t.B.length : Nat) : Int) = (t.B.length : Int) * t.B.length := by simp
  omega
end Go.Proofs.YtbcjhpgkodeoeaaGreatDoor
