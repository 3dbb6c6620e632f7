/- The texts LinP, LinQ, RedP, Swap in one: each says at its head what it proves. Conditions: as said there. -/
import Derived.Test.YtbcjhpgkodeoeaaGreatDoorN20
import Derived.Test.YtbcjhpgkodeoeaaGreatDoorN04
set_option linter.unusedSimpArgs false
set_option linter.unusedVariables false
/- Rows brought to a reduced form: what stays true, and why equations with powers of different nodes have an answer. Plain: no program's step stands here. -/
namespace Go.Proofs.YtbcjhpgkodeoeaaGreatDoor

theorem nums_atZ {l : List Int} (h : Nums l) (k : Nat) : 0 ≤ atZ l k ∧ atZ l k ≤ 1000000270 := by
  unfold atZ
  by_cases hk : k < l.length
  · rw [List.getElem?_eq_getElem hk]; exact h _ (List.getElem_mem _)
  · rw [List.getElem?_eq_none (by omega)]; exact ⟨by simp, by simp⟩
def scaleR (row : List Int) (x : Int) : List Int := row.map fun a => timesZ a x
def elimR (row pr : List Int) (y : Int) : List Int := (List.range row.length).map fun j => minusZ (atZ row j) (timesZ y (atZ pr j))
/-- the rows below t, but for the row r, with the column k cleared -/
def elimA (m : List (List Int)) (r k : Nat) : Nat → List (List Int)
  | 0 => m
  | i + 1 => if i = r then elimA m r k i else (elimA m r k i).set i (elimR (atL (elimA m r k i) i) (atL (elimA m r k i) r) (atZ (atL (elimA m r k i) i) k))
def swapR (m : List (List Int)) (i r : Nat) : List (List Int) := (m.set i (atL m r)).set r (atL m i)
def scaleA (m : List (List Int)) (r k : Nat) : List (List Int) := m.set r (scaleR (atL m r) (powZ (atZ (atL m r) k) 1000000269))
def stepR (m : List (List Int)) (i r k : Nat) : List (List Int) := elimA (scaleA (swapR m i r) r k) r k m.length

theorem atL_set {m : List (List Int)} {i q : Nat} {x : List Int} (h : i < m.length) : atL (m.set i x) q = if q = i then x else atL m q := by
  unfold atL
  by_cases hq : q = i
  · subst hq; rw [List.getElem?_set_self h, if_pos rfl]; rfl
  · rw [List.getElem?_set_ne (fun h => hq h.symm), if_neg hq]
theorem elimA_len (m : List (List Int)) (r k t : Nat) : (elimA m r k t).length = m.length := by
  induction t with
  | zero => rfl
  | succ t ih => rw [elimA]; split; exact ih; rw [List.length_set, ih]
theorem elimA_at {m : List (List Int)} {r k : Nat} (q : Nat) : ∀ t, t ≤ m.length → atL (elimA m r k t) q = if q < t ∧ q ≠ r then elimR (atL m q) (atL m r) (atZ (atL m q) k) else atL m q
  | 0, _ => by rw [elimA, if_neg (by omega)]
  | t + 1, h => by
    have ih := fun q => elimA_at (m := m) (r := r) (k := k) q t (by omega)
    rw [elimA]
    by_cases ht : t = r
    · rw [if_pos ht, ih]
      by_cases hq : q < t ∧ q ≠ r
      · rw [if_pos hq, if_pos (by omega)]
      · rw [if_neg hq, if_neg (by omega)]
    · rw [if_neg ht, atL_set (by rw [elimA_len]; omega)]
      by_cases hq : q = t
      · subst hq
        rw [if_pos rfl, if_pos (by omega), ih, ih, if_neg (by omega), if_neg (by omega)]
      · rw [if_neg hq, ih]
        by_cases hq2 : q < t ∧ q ≠ r
        · rw [if_pos hq2, if_pos (by omega)]
        · rw [if_neg hq2, if_neg (by omega)]

def rowX (X : Nat → Int) (c : Nat) (row : List Int) : Int := sumZ (fun j => atZ row j * X j) (List.range c)
theorem scaleR_at (row : List Int) (x : Int) (j : Nat) : atZ (scaleR row x) j = timesZ (atZ row j) x := by
  unfold scaleR atZ
  rw [List.getElem?_map]
  cases row[j]? <;> simp [timesZ]
theorem elimR_at {row pr : List Int} {y : Int} {j : Nat} (h : j < row.length) : atZ (elimR row pr y) j = minusZ (atZ row j) (timesZ y (atZ pr j)) := by simp [elimR, atZ, h]
theorem scaleR_sol {X : Nat → Int} {c : Nat} {row : List Int} {x : Int} (h : resZ (rowX X c row) = 0) : resZ (rowX X c (scaleR row x)) = 0 := by
  have : resZ (rowX X c (scaleR row x)) = resZ (x * rowX X c row) := by
    unfold rowX
    rw [← sumZ_mul]
    refine res_sum fun j _ => ?_
    rw [scaleR_at, timesZ]
    unfold resZ
    rw [modl]
    congr 1
    grind
  rw [this, ← res_mul (a := resZ (rowX X c row)) (res_res _), h]
  simp [resZ]
theorem elimR_sol {X : Nat → Int} {c : Nat} {row pr : List Int} {y : Int} (hl : row.length = c) (h : resZ (rowX X c row) = 0) (hp : resZ (rowX X c pr) = 0) : resZ (rowX X c (elimR row pr y)) = 0 := by
  have : resZ (rowX X c (elimR row pr y)) = resZ (rowX X c row + (-y) * rowX X c pr) := by
    unfold rowX
    rw [← sumZ_mul, ← sumZ_add]
    refine res_sum fun j hj => ?_
    rw [elimR_at (by rw [hl]; simpa using hj), minusZ, timesZ]
    unfold resZ
    rw [modl, Int.sub_mul, Int.sub_emod, modl, ← Int.sub_emod]
    congr 1
    grind
  rw [this, res_add (b := 0) h (d := 0) (by rw [← res_mul (a := resZ (rowX X c pr)) (res_res _), hp]; simp [resZ])]
  rfl

/-- what a reduction keeps: a rows are done, k columns are looked at -/
structure RedInv (X : Nat → Int) (c k a : Nat) (m : List (List Int)) : Prop where
  row : ∀ i, i < m.length → (atL m i).length = c ∧ Nums (atL m i)
  sol : ∀ i, i < m.length → resZ (rowX X c (atL m i)) = 0
  zero : ∀ i, a ≤ i → i < m.length → ∀ j, j < k → atZ (atL m i) j = 0
theorem RedInv.skip {X : Nat → Int} {c k a : Nat} {m : List (List Int)} (h : RedInv X c k a m) (hz : ∀ i, a ≤ i → i < m.length → atZ (atL m i) k = 0) : RedInv X c (k + 1) a m :=
  ⟨h.row, h.sol, fun i h1 h2 j hj => by
    rcases (by omega : j < k ∨ j = k) with hj | rfl
    · exact h.zero i h1 h2 j hj
    · exact hz i h1 h2⟩
theorem swapR_at {m : List (List Int)} {i r : Nat} (hi : i < m.length) (hr : r < m.length) (q : Nat) : atL (swapR m i r) q = if q = r then atL m i else if q = i then atL m r else atL m q := by
  unfold swapR
  rw [atL_set (by simpa using hr), atL_set hi]
theorem swapR_len (m : List (List Int)) (i r : Nat) : (swapR m i r).length = m.length := by simp [swapR]
theorem RedInv.swap {X : Nat → Int} {c k a i : Nat} {m : List (List Int)} (h : RedInv X c k a m) (hi : i < m.length) (ha : a ≤ i) : RedInv X c k a (swapR m i a) := by
  have hal : a < m.length := by omega
  have hq : ∀ q, q < m.length → ∃ q', q' < m.length ∧ (a ≤ q → a ≤ q') ∧ atL (swapR m i a) q = atL m q' := fun q hq => by
    rw [swapR_at hi hal]
    by_cases h1 : q = a
    · exact ⟨i, hi, fun _ => ha, by rw [if_pos h1]⟩
    · rw [if_neg h1]
      by_cases h2 : q = i
      · exact ⟨a, hal, fun _ => Nat.le_refl _, by rw [if_pos h2]⟩
      · exact ⟨q, hq, id, by rw [if_neg h2]⟩
  refine ⟨fun q hq' => ?_, fun q hq' => ?_, fun q h1 h2 j hj => ?_⟩
  · obtain ⟨q', h1, _, h3⟩ := hq q (by rwa [swapR_len] at hq'); rw [h3]; exact h.row q' h1
  · obtain ⟨q', h1, _, h3⟩ := hq q (by rwa [swapR_len] at hq'); rw [h3]; exact h.sol q' h1
  · obtain ⟨q', g1, g2, g3⟩ := hq q (by rwa [swapR_len] at h2); rw [g3]; exact h.zero q' (g2 h1) g1 j hj
theorem nums_scale (row : List Int) (x : Int) : Nums (scaleR row x) := fun y hy => by
  obtain ⟨a, _, rfl⟩ := List.mem_map.1 hy
  exact timesZ_bd _ _
theorem nums_elim (row pr : List Int) (y : Int) : Nums (elimR row pr y) := fun z hz => by
  obtain ⟨a, _, rfl⟩ := List.mem_map.1 hz
  exact minusZ_bd _ _
theorem RedInv.scale {X : Nat → Int} {c k a : Nat} {m : List (List Int)} (h : RedInv X c k a m) (ha : a < m.length) : RedInv X c k a (scaleA m a k) := by
  have hl : (scaleA m a k).length = m.length := by simp [scaleA]
  have hq : ∀ q, atL (scaleA m a k) q = if q = a then scaleR (atL m a) (powZ (atZ (atL m a) k) 1000000269) else atL m q := fun q => atL_set ha
  refine ⟨fun q hq' => ?_, fun q hq' => ?_, fun q h1 h2 j hj => ?_⟩
  · rw [hq]
    split
    · exact ⟨by rw [scaleR, List.length_map]; exact (h.row a ha).1, nums_scale _ _⟩
    · exact h.row q (by omega)
  · rw [hq]
    split
    · exact scaleR_sol (h.sol a ha)
    · exact h.sol q (by omega)
  · rw [hq]
    split
    · rw [scaleR_at, h.zero a (Nat.le_refl _) ha j hj]; simp [timesZ]
    · exact h.zero q h1 (by omega) j hj
theorem scaleA_one {m : List (List Int)} {a k : Nat} (ha : a < m.length) (h : atZ (atL m a) k % 1000000271 ≠ 0) : atZ (atL (scaleA m a k) a) k = 1 := by
  rw [scaleA, atL_set ha, if_pos rfl, scaleR_at]
  exact inv_one h
theorem RedInv.elim {X : Nat → Int} {c k a : Nat} {m : List (List Int)} (h : RedInv X c k a m) (ha : a < m.length) (hk : k < c) (h1 : atZ (atL m a) k = 1) : RedInv X c (k + 1) (a + 1) (elimA m a k m.length) := by
  have hq := fun q => elimA_at (m := m) (r := a) (k := k) q m.length (Nat.le_refl _)
  refine ⟨fun q hq' => ?_, fun q hq' => ?_, fun q g1 g2 j hj => ?_⟩
  · rw [elimA_len] at hq'
    rw [hq]
    split
    · exact ⟨by simp [elimR, (h.row q hq').1], nums_elim _ _ _⟩
    · exact h.row q hq'
  · rw [elimA_len] at hq'
    rw [hq]
    split
    · exact elimR_sol (h.row q hq').1 (h.sol q hq') (h.sol a ha)
    · exact h.sol q hq'
  · rw [elimA_len] at g2
    have hlen := (h.row q g2).1
    rw [hq, if_pos (by omega), elimR_at (by omega)]
    rcases (by omega : j < k ∨ j = k) with hj | rfl
    · rw [h.zero q (by omega) g2 j hj, h.zero a (Nat.le_refl _) ha j hj]
      simp [minusZ, timesZ]
    · rw [h1]
      have hn : 0 ≤ atZ (atL m q) j ∧ atZ (atL m q) j ≤ 1000000270 := by
        have hx : (atL m q)[j]? = some (atL m q)[j] := List.getElem?_eq_getElem (by omega)
        rw [atZ_get hx]
        exact (h.row q g2).2 _ (List.getElem_mem _)
      unfold minusZ timesZ
      omega
/-- One column with a row that is not zero there. -/
theorem RedInv.step {X : Nat → Int} {c k a i : Nat} {m : List (List Int)} (h : RedInv X c k a m) (hi : i < m.length) (ha : a ≤ i) (hk : k < c) (hz : atZ (atL m i) k ≠ 0) : RedInv X c (k + 1) (a + 1) (stepR m i a k) ∧ (stepR m i a k).length = m.length := by
  have hal : a < m.length := by omega
  have h1 := h.swap hi ha
  have h2 := h1.scale (by rw [swapR_len]; exact hal)
  have hsl : (scaleA (swapR m i a) a k).length = m.length := by simp [scaleA, swapR_len]
  have hn := nums_atZ (h.row i hi).2 k
  have h3 : atZ (atL (scaleA (swapR m i a) a k) a) k = 1 := scaleA_one (by rw [swapR_len]; exact hal) (by
    rw [swapR_at hi hal, if_pos rfl]
    omega)
  refine ⟨?_, by rw [stepR, elimA_len, hsl]⟩
  have := h2.elim (by rw [hsl]; exact hal) hk h3
  rw [hsl] at this
  exact this
/-- A row that is done has nothing to say. -/
theorem RedInv.last {X : Nat → Int} {n a : Nat} {m : List (List Int)} (h : RedInv X (n + 1) n a m) (hX : X n = -1) {i : Nat} (ha : a ≤ i) (hi : i < m.length) : atZ (atL m i) n = 0 := by
  have h1 := h.sol i hi
  have h2 : rowX X (n + 1) (atL m i) = - atZ (atL m i) n := by
    unfold rowX
    rw [List.range_succ, sumZ_append, sumZ_cons, sumZ_nil, hX]
    have : sumZ (fun j => atZ (atL m i) j * X j) (List.range n) = sumZ (fun _ => 0) (List.range n) := sumZ_congr fun j hj => by rw [h.zero i ha hi j (by simpa using hj)]; simp
    rw [this, sumZ_zero]
    omega
  have hn := nums_atZ (h.row i hi).2 n
  rw [h2] at h1
  unfold resZ at h1
  omega

end Go.Proofs.YtbcjhpgkodeoeaaGreatDoor

/- The two systems of equations that the draws solve have an answer. Plain: no program's step stands here. -/
namespace Go.Proofs.YtbcjhpgkodeoeaaGreatDoor

/-- the rows with the right sides behind them -/
def augZ (rows : List (List Int)) (right : List Int) : List (List Int) := (List.range rows.length).map fun i => atL rows i ++ [atZ right i]
theorem augZ_at {rows : List (List Int)} {right : List Int} {i : Nat} (h : i < rows.length) : atL (augZ rows right) i = atL rows i ++ [atZ right i] := by simp [augZ, atL, h]
theorem augZ_len (rows : List (List Int)) (right : List Int) : (augZ rows right).length = rows.length := by simp [augZ]
def powR (cs : List Int) (k : Nat) : List Int := cs.map fun c => powZ c k
def powRows (cs : List Int) : List (List Int) := (List.range cs.length).map (powR cs)
end Go.Proofs.YtbcjhpgkodeoeaaGreatDoor

/- Rows brought to a reduced form, as a function; systems solved by it. Plain: no program's step stands here. -/
namespace Go.Proofs.YtbcjhpgkodeoeaaGreatDoor

/-- the first row from r on that is not zero in the column k -/
def pivO (m : List (List Int)) (r k : Nat) : Option Nat := (List.range m.length).find? fun i => decide (r ≤ i) && decide (atZ (atL m i) k ≠ 0)
theorem pivO_none {m : List (List Int)} {r k : Nat} (h : ∀ i, r ≤ i → i < m.length → atZ (atL m i) k = 0) : pivO m r k = none := by
  rw [pivO, List.find?_eq_none]
  intro i hi
  have hi : i < m.length := by simpa using hi
  simp only [Bool.and_eq_true, decide_eq_true_eq, not_and, ne_eq, Decidable.not_not]
  exact fun hr => h i hr hi
theorem pivO_some {m : List (List Int)} {r k i : Nat} (h1 : r ≤ i) (h2 : i < m.length) (h3 : atZ (atL m i) k ≠ 0) (h4 : ∀ j, r ≤ j → j < i → atZ (atL m j) k = 0) : pivO m r k = some i := by
  rw [pivO, List.find?_range_eq_some]
  refine ⟨by simp [h1, h3], by simpa using h2, fun j hj => ?_⟩
  by_cases hr : r ≤ j
  · simp [h4 j hr hj]
  · simp [hr]
/-- k columns are looked at: the rows, and where the pivots are -/
def redS (m : List (List Int)) : Nat → List (List Int) × List Nat
  | 0 => (m, [])
  | k + 1 => match pivO (redS m k).1 (redS m k).2.length k with
    | none => redS m k
    | some i => (stepR (redS m k).1 i (redS m k).2.length k, (redS m k).2 ++ [k])
theorem redS_none {m : List (List Int)} {k : Nat} (h : pivO (redS m k).1 (redS m k).2.length k = none) : redS m (k + 1) = redS m k := by rw [redS, h]
theorem redS_some {m : List (List Int)} {k i : Nat} (h : pivO (redS m k).1 (redS m k).2.length k = some i) : redS m (k + 1) = (stepR (redS m k).1 i (redS m k).2.length k, (redS m k).2 ++ [k]) := by rw [redS, h]
theorem stepR_len (m : List (List Int)) (i r k : Nat) : (stepR m i r k).length = m.length := by simp [stepR, elimA_len, scaleA, swapR_len]
theorem pivO_spec {m : List (List Int)} {r k i : Nat} (h : pivO m r k = some i) : r ≤ i ∧ i < m.length ∧ atZ (atL m i) k ≠ 0 := by
  rw [pivO, List.find?_range_eq_some] at h
  obtain ⟨h1, h2, _⟩ := h
  simp only [Bool.and_eq_true, decide_eq_true_eq] at h1
  exact ⟨h1.1, by simpa using h2, h1.2⟩
/-- rows of one length, of numbers -/
def RowsOk (c : Nat) (m : List (List Int)) : Prop := ∀ i, i < m.length → (atL m i).length = c ∧ Nums (atL m i)
theorem RowsOk.swap {c i r : Nat} {m : List (List Int)} (h : RowsOk c m) (hi : i < m.length) (hr : r < m.length) : RowsOk c (swapR m i r) := fun q hq => by
  rw [swapR_len] at hq
  rw [swapR_at hi hr]
  split
  · exact h i hi
  · split
    · exact h r hr
    · exact h q hq
theorem RowsOk.scale {c r k : Nat} {m : List (List Int)} (h : RowsOk c m) (hr : r < m.length) : RowsOk c (scaleA m r k) := fun q hq => by
  have hl : (scaleA m r k).length = m.length := by simp [scaleA]
  rw [scaleA, atL_set hr]
  split
  · exact ⟨by rw [scaleR, List.length_map]; exact (h r hr).1, nums_scale _ _⟩
  · exact h q (by omega)
theorem RowsOk.elim {c r k t : Nat} {m : List (List Int)} (h : RowsOk c m) (ht : t ≤ m.length) : RowsOk c (elimA m r k t) := fun q hq => by
  rw [elimA_len] at hq
  rw [elimA_at q t ht]
  split
  · exact ⟨by simp [elimR, (h q hq).1], nums_elim _ _ _⟩
  · exact h q hq
theorem RowsOk.step {c i r k : Nat} {m : List (List Int)} (h : RowsOk c m) (hi : i < m.length) (hr : r < m.length) : RowsOk c (stepR m i r k) := by
  have h1 := (h.swap hi hr).scale (k := k) (by rw [swapR_len]; exact hr)
  have hl : (scaleA (swapR m i r) r k).length = m.length := by simp [scaleA, swapR_len]
  exact h1.elim (by rw [hl]; exact Nat.le_refl _)
theorem redS_ok {c : Nat} {m : List (List Int)} (h : RowsOk c m) : ∀ k, RowsOk c (redS m k).1 ∧ (redS m k).1.length = m.length ∧ (redS m k).2.length ≤ k ∧ (redS m k).2.length ≤ m.length ∧ ∀ x ∈ (redS m k).2, x < k
  | 0 => ⟨h, rfl, Nat.le_refl _, Nat.zero_le _, by simp [redS]⟩
  | k + 1 => by
    obtain ⟨h1, h2, h3, h4, h5⟩ := redS_ok h k
    cases hp : pivO (redS m k).1 (redS m k).2.length k with
    | none =>
      rw [redS_none hp]
      exact ⟨h1, h2, by omega, h4, fun x hx => by have := h5 x hx; omega⟩
    | some i =>
      obtain ⟨g1, g2, _⟩ := pivO_spec hp
      rw [redS_some hp]
      refine ⟨h1.step g2 (by omega), by simp only [stepR_len]; exact h2, by simp; omega, by simp; omega, fun x hx => ?_⟩
      simp at hx
      rcases hx with hx | rfl
      · have := h5 x hx; omega
      · omega
/-- a row whose first j numbers are new -/
def preR (f : Nat → Int → Int) (row : List Int) (j : Nat) : List Int := (List.range row.length).map fun i => if i < j then f i (atZ row i) else atZ row i
theorem preR_len (f : Nat → Int → Int) (row : List Int) (j : Nat) : (preR f row j).length = row.length := by simp [preR]
theorem preR_get {f : Nat → Int → Int} {row : List Int} {j i : Nat} (h : i < row.length) : (preR f row j)[i]? = some (if i < j then f i (atZ row i) else atZ row i) := by simp [preR, h]
theorem preR_zero (f : Nat → Int → Int) (row : List Int) : preR f row 0 = row := by
  refine List.ext_getElem? fun i => ?_
  by_cases h : i < row.length
  · rw [preR_get h, if_neg (by omega), atZ_get (List.getElem?_eq_getElem h), List.getElem?_eq_getElem h]
  · rw [List.getElem?_eq_none (by rw [preR_len]; omega), List.getElem?_eq_none (by omega)]
theorem preR_next {f : Nat → Int → Int} {row : List Int} {j : Nat} (h : j < row.length) : (preR f row j).set j (f j (atZ row j)) = preR f row (j + 1) := by
  refine List.ext_getElem? fun i => ?_
  by_cases hi : i < row.length
  · rw [preR_get hi]
    by_cases hij : i = j
    · subst hij
      rw [List.getElem?_set_self (by rw [preR_len]; exact hi), if_pos (by omega)]
    · rw [List.getElem?_set_ne (fun h => hij h.symm), preR_get hi]
      by_cases h2 : i < j
      · rw [if_pos h2, if_pos (by omega)]
      · rw [if_neg h2, if_neg (by omega)]
  · rw [List.getElem?_eq_none (by rw [List.length_set, preR_len]; omega), List.getElem?_eq_none (by rw [preR_len]; omega)]
theorem preR_scale (row : List Int) (x : Int) : preR (fun _ a => timesZ a x) row row.length = scaleR row x := by
  refine List.ext_getElem? fun i => ?_
  by_cases hi : i < row.length
  · rw [preR_get hi, if_pos hi]
    simp [scaleR, atZ, hi]
  · rw [List.getElem?_eq_none (by rw [preR_len]; omega), List.getElem?_eq_none (by simp [scaleR]; omega)]
theorem preR_elim (row pr : List Int) (y : Int) : preR (fun j a => minusZ a (timesZ y (atZ pr j))) row row.length = elimR row pr y := by
  refine List.ext_getElem? fun i => ?_
  by_cases hi : i < row.length
  · rw [preR_get hi, if_pos hi]
    simp [elimR, hi]
  · rw [List.getElem?_eq_none (by rw [preR_len]; omega), List.getElem?_eq_none (by simp [elimR]; omega)]
end Go.Proofs.YtbcjhpgkodeoeaaGreatDoor

/- Two rows of a slice of rows are swapped. Conditions: none. -/
namespace Go.Proofs.YtbcjhpgkodeoeaaGreatDoor
open Go.RowKit

theorem ownEls_pt {α : Type} {El : World → List Value → α → List Nat → Prop} {w : World} {us : List (List Value)} : ∀ {xs : List α} {fp : List Nat}, OwnEls El w us xs fp →
    ∃ F : List (List Nat), F.length = us.length ∧ us.length = xs.length ∧ fp = F.flatten ∧ ∀ (k : Nat) u x f, us[k]? = some u → xs[k]? = some x → F[k]? = some f → El w u x f := by
  induction us with
  | nil =>
    intro xs fp h
    cases xs with
    | nil => exact ⟨[], rfl, rfl, by simpa [OwnEls] using h, by simp⟩
    | cons x xs => simp [OwnEls] at h
  | cons u us ih =>
    intro xs fp h
    cases xs with
    | nil => simp [OwnEls] at h
    | cons x xs =>
      obtain ⟨f, fs, rfl, h1, h2⟩ := h
      obtain ⟨F, g1, g2, rfl, g4⟩ := ih h2
      refine ⟨f :: F, by simp [g1], by simp [g2], by simp, fun k u' x' f' hu hx hf => ?_⟩
      cases k with
      | zero =>
        simp at hu hx hf
        subst hu hx hf
        exact h1
      | succ k => exact g4 k u' x' f' (by simpa using hu) (by simpa using hx) (by simpa using hf)
theorem pt_ownEls {α : Type} {El : World → List Value → α → List Nat → Prop} {w : World} {us : List (List Value)} : ∀ {xs : List α} {F : List (List Nat)}, F.length = us.length → us.length = xs.length →
    (∀ (k : Nat) u x f, us[k]? = some u → xs[k]? = some x → F[k]? = some f → El w u x f) → OwnEls El w us xs F.flatten := by
  induction us with
  | nil =>
    intro xs F h1 h2 _
    obtain rfl := List.eq_nil_of_length_eq_zero h1
    obtain rfl := List.eq_nil_of_length_eq_zero h2.symm
    rfl
  | cons u us ih =>
    intro xs F h1 h2 h3
    cases xs with
    | nil => simp at h2
    | cons x xs =>
      cases F with
      | nil => simp at h1
      | cons f F => exact ⟨f, F.flatten, by simp, h3 0 u x f rfl rfl rfl, ih (by simpa using h1) (by simpa using h2) (fun k u' x' f' hu hx hf => h3 (k + 1) u' x' f' (by simpa using hu) (by simpa using hx) (by simpa using hf))⟩
theorem swap_get {α : Type} {l : List α} {i r : Nat} {x y : α} (hx : l[i]? = some x) (hy : l[r]? = some y) (k : Nat) : ((l.set i y).set r x)[k]? = l[if k = r then i else if k = i then r else k]? := by
  have h1 := (List.getElem?_eq_some_iff.1 hx).1
  have h2 := (List.getElem?_eq_some_iff.1 hy).1
  by_cases hk : k = r
  · subst hk
    rw [if_pos rfl, List.getElem?_set_self (by simpa using h2), hx]
  · rw [if_neg hk, List.getElem?_set_ne (fun h => hk h.symm)]
    by_cases hi : k = i
    · subst hi
      rw [if_pos rfl, List.getElem?_set_self h1, hy]
    · rw [if_neg hi, List.getElem?_set_ne (fun h => hi h.symm)]
theorem swap_perm {α : Type} {l : List α} {i r : Nat} {x y : α} (hx : l[i]? = some x) (hy : l[r]? = some y) : ((l.set i y).set r x).Perm l := by
  obtain ⟨h1, rfl⟩ := List.getElem?_eq_some_iff.1 hx
  obtain ⟨h2, rfl⟩ := List.getElem?_eq_some_iff.1 hy
  exact List.set_set_perm h1 h2
theorem ownII_swap {e1 e : Nat} {w : World} {g n cap : Nat} {xs : List (List Int)} {fp : List Nat} (h : OwnII e1 e w (.slice (some ⟨g, 0, none⟩) n cap) xs fp) {i r : Nat} {x y : List Int} (hx : xs[i]? = some x) (hy : xs[r]? = some y) :
    ∃ adx lx cx ady ly cy, w.cell? ⟨g, i, none⟩ = some (.slice adx lx cx) ∧ w.cell? ⟨g, r, none⟩ = some (.slice ady ly cy) ∧ w.frozen? ⟨g, i, none⟩ = false ∧ w.frozen? ⟨g, r, none⟩ = false ∧ g ∈ fp ∧
      ∃ fp', OwnII e1 e ((w.setCell ⟨g, i, none⟩ (.slice ady ly cy)).setCell ⟨g, r, none⟩ (.slice adx lx cx)) (.slice (some ⟨g, 0, none⟩) n cap) ((xs.set i y).set r x) fp' ∧ ∀ b ∈ fp', b ∈ fp := by
  obtain ⟨us, fs, hown, hone, hels, rfl, hnd⟩ := h
  obtain ⟨F, g1, g2, rfl, g4⟩ := ownEls_pt hels
  have hi := (List.getElem?_eq_some_iff.1 hx).1
  have hr := (List.getElem?_eq_some_iff.1 hy).1
  obtain ⟨ui, hui⟩ : ∃ u, us[i]? = some u := ⟨_, List.getElem?_eq_getElem (by omega)⟩
  obtain ⟨ur, hur⟩ : ∃ u, us[r]? = some u := ⟨_, List.getElem?_eq_getElem (by omega)⟩
  obtain ⟨fi, hfi⟩ : ∃ u, F[i]? = some u := ⟨_, List.getElem?_eq_getElem (by omega)⟩
  obtain ⟨fr, hfr⟩ : ∃ u, F[r]? = some u := ⟨_, List.getElem?_eq_getElem (by omega)⟩
  obtain ⟨pi, rfl, hpi⟩ := g4 i ui x fi hui hx hfi
  obtain ⟨pr, rfl, hpr⟩ := g4 r ur y fr hur hy hfr
  obtain ⟨adx, lx, cx, rfl, _⟩ := ownI_open hpi
  obtain ⟨ady, ly, cy, rfl, _⟩ := ownI_open hpr
  obtain ⟨ad', cap', he, _, _, _⟩ := row_open hown
  injection he with e1' e2' e3'
  subst e2'
  have hfl1 := flat_get hone hui (j := 0) rfl
  have hfl2 := flat_get hone hur (j := 0) rfl
  simp only [Nat.mul_one, Nat.add_zero] at hfl1 hfl2
  have hs := (hown.stored i (.slice ady ly cy)).1
  have hs2 := (hs.stored r (.slice adx lx cx)).1
  have hset : (us.flatten.set i (.slice ady ly cy)).set r (.slice adx lx cx) = ((us.set i [.slice ady ly cy]).set r [.slice adx lx cx]).flatten := by
    have a1 := flat_set (n := 1) (k := i) (j := 0) hone hui (by omega) (Value.slice ady ly cy)
    rw [Nat.mul_one, Nat.add_zero] at a1
    have hone2 : ∀ u ∈ us.set i [Value.slice ady ly cy], u.length = 1 := fun u hu => by
      rcases List.mem_or_eq_of_mem_set hu with hu | rfl
      · exact hone u hu
      · rfl
    obtain ⟨u2, hu2⟩ : ∃ u, (us.set i [Value.slice ady ly cy])[r]? = some u := ⟨_, List.getElem?_eq_getElem (by rw [List.length_set]; omega)⟩
    have a2 := flat_set (n := 1) (k := r) (j := 0) hone2 hu2 (by omega) (Value.slice adx lx cx)
    rw [Nat.mul_one, Nat.add_zero] at a2
    have hl2 : u2.length = 1 := hone2 u2 (List.mem_of_getElem? hu2)
    rw [a1]
    show ((us.set i [Value.slice ady ly cy]).flatten).set r _ = _
    rw [a2]
    congr 2
    cases u2 with
    | nil => simp at hl2
    | cons a u2 => simp at hl2; subst hl2; rfl
  rw [hset] at hs2
  have hperm := swap_perm hfi hfr
  have hpf : ((F.set i fr).set r fi).flatten.Perm F.flatten := by
    have := hperm.flatMap_right id
    simpa [List.flatMap_id] using this
  have hgb : (Value.slice (some ⟨g, 0, none⟩) xs.length cap).ownBlock.toList = [g] := by simp [Value.ownBlock]
  rw [hgb] at hnd ⊢
  have hgn : g ∉ F.flatten := (List.nodup_cons.1 hnd).1
  have hO : Only [g] w ((w.setCell ⟨g, i, none⟩ (.slice ady ly cy)).setCell ⟨g, r, none⟩ (.slice adx lx cx)) := ((Only.refl _ _).setCell (by simp) _).setCell (by simp) _
  have hels2 : OwnEls (OElII e) w ((us.set i [.slice ady ly cy]).set r [.slice adx lx cx]) ((xs.set i y).set r x) ((F.set i fr).set r fi).flatten :=
    pt_ownEls (by simp [g1]) (by simp [g2]) (fun k u x' f' hu hx' hf => by
      rw [swap_get hui hur] at hu
      rw [swap_get hx hy] at hx'
      rw [swap_get hfi hfr] at hf
      exact g4 _ u x' f' hu hx' hf)
  refine ⟨adx, lx, cx, ady, ly, cy, ?_, ?_, hown.frozenAt i, hown.frozenAt r, by simp, g :: ((F.set i fr).set r fi).flatten, ⟨(us.set i [.slice ady ly cy]).set r [.slice adx lx cx], _, ?_, ?_, ?_, by rw [hgb]; rfl, ?_⟩, ?_⟩
  · rw [hown.cellAt i (by omega), hfl1]
  · rw [hown.cellAt r (by omega), hfl2]
  · simpa using hs2
  · intro u hu
    rcases List.mem_or_eq_of_mem_set hu with hu | rfl
    · rcases List.mem_or_eq_of_mem_set hu with hu | rfl
      · exact hone u hu
      · rfl
    · rfl
  · exact ownEls_only (fun u x f h hd => oelII_only h hO hd) hels2 (fun b hb hm => hgn (by rw [← List.mem_singleton.1 hm]; exact hpf.mem_iff.1 hb))
  · rw [List.nodup_cons]
    exact ⟨fun hm => hgn (hpf.mem_iff.1 hm), hpf.nodup_iff.2 (List.nodup_cons.1 hnd).2⟩
  · intro b hb
    simp only [List.mem_cons] at hb
    simp only [List.cons_append, List.nil_append, List.mem_cons]
    rcases hb with rfl | hb
    · exact .inl rfl
    · exact .inr (hpf.mem_iff.1 hb)
end Go.Proofs.YtbcjhpgkodeoeaaGreatDoor
