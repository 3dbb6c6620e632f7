/- The texts StepP, PAlong in one: each says at its head what it proves. Conditions: as said there. -/
import Derived.Test.YtbcjhpgkodeoeaaG20
import Derived.Test.YtbcjhpgkodeoeaaG03
import Derived.Test.YtbcjhpgkodeoeaaG47
import Derived.Test.YtbcjhpgkodeoeaaG10
set_option linter.unusedSimpArgs false
set_option linter.unusedVariables false
/- The rounds of a step along a path reach the same from any start; exact paths by rounds and by powers. In plain lists. Conditions: numbers. -/
namespace Go.Proofs.Ytbcjhpgkodeoeaa
open Go.RowKit Go.Sort

/-- a field's value along jets -/
def fldJ (parts : List (List MonZ)) (y : List (List Int)) : List (List Int) := parts.map fun p => dervL p y []
theorem fldJ_len (parts : List (List MonZ)) (y : List (List Int)) : (fldJ parts y).length = parts.length := by simp [fldJ]
theorem fldJ_at {parts : List (List MonZ)} {p : List MonZ} {i : Nat} (h : parts[i]? = some p) (y : List (List Int)) : atL (fldJ parts y) i = dervL p y [] := by simp [fldJ, atL, h]

def laterJ (x : List Int) : List Int := (0 :: x).take x.length
theorem laterJ_len (x : List Int) : (laterJ x).length = x.length := by simp [laterJ]
theorem laterJ_at {x : List Int} {k : Nat} (h : k < x.length) : atZ (laterJ x) k = if k = 0 then 0 else atZ x (k - 1) := by
  unfold laterJ atZ
  rw [List.getElem?_take_of_lt h]
  cases k with
  | zero => rfl
  | succ k => simp
theorem agree_later {r : Nat} {x x' : List Int} (h : Agree r x x') (h1 : r + 1 ≤ x.length) (h2 : r + 1 ≤ x'.length) : Agree (r + 1) (laterJ x) (laterJ x') := by
  refine ⟨by rw [laterJ_len]; exact h1, by rw [laterJ_len]; exact h2, fun k hk => ?_⟩
  rw [laterJ_at (by omega), laterJ_at (by omega)]
  by_cases h0 : k = 0
  · rw [if_pos h0, if_pos h0]
  · rw [if_neg h0, if_neg h0, h.2.2 (k - 1) (by omega)]

/-- a coordinate moved by the stages' values -/
def atRow (ys : List (List Int)) (vals : List (List (List Int))) (row : List Int) (i : Nat) : Nat → List Int
  | 0 => atL ys i
  | s + 1 => addJ (atRow ys vals row i s) (laterJ (atL (atLL vals s) i)) (atZ row s)
theorem atRow_len (ys : List (List Int)) (vals : List (List (List Int))) (row : List Int) (i s : Nat) : (atRow ys vals row i s).length = (atL ys i).length := by
  induction s with
  | zero => rfl
  | succ s ih => rw [atRow, addJ_len, ih]
def atAll (ys : List (List Int)) (vals : List (List (List Int))) (row : List Int) (st : Nat) : List (List Int) := (List.range ys.length).map fun i => atRow ys vals row i st
theorem atAll_at {ys : List (List Int)} {i : Nat} (h : i < ys.length) (vals : List (List (List Int))) (row : List Int) (st : Nat) : atL (atAll ys vals row st) i = atRow ys vals row i st := by simp [atAll, atL, h]
theorem atAll_len (ys : List (List Int)) (vals : List (List (List Int))) (row : List Int) (st : Nat) : (atAll ys vals row st).length = ys.length := by simp [atAll]
def roundZ (parts : List (List MonZ)) (ys : List (List Int)) (rows : Nat → List Int) (st : Nat) (vals : List (List (List Int))) : List (List (List Int)) := (List.range st).map fun s => fldJ parts (atAll ys vals (rows s) st)
def roundsZ (parts : List (List MonZ)) (ys : List (List Int)) (rows : Nat → List Int) (st : Nat) (start : List (List (List Int))) : Nat → List (List (List Int))
  | 0 => start
  | r + 1 => roundZ parts ys rows st (roundsZ parts ys rows st start r)
/-- all jets of all stages are of this size -/
def Cube (st n size : Nat) (v : List (List (List Int))) : Prop := v.length = st ∧ ∀ s i, s < st → i < n → (atL (atLL v s) i).length = size
theorem roundZ_at {parts : List (List MonZ)} {ys : List (List Int)} {rows : Nat → List Int} {st : Nat} {vals : List (List (List Int))} {s : Nat} (h : s < st) : atLL (roundZ parts ys rows st vals) s = fldJ parts (atAll ys vals (rows s) st) := by
  simp [roundZ, atLL, h]
theorem hdL_at {y : List (List Int)} : hdL y = (atL y 0).length := by
  unfold hdL atL
  cases y <;> rfl
theorem roundZ_cube {parts : List (List MonZ)} {ys : List (List Int)} {rows : Nat → List Int} {st n size : Nat} {vals : List (List (List Int))} (hy : ys.length = n) (hp : parts.length = n) (hn : 0 < n) (hs : ∀ i, i < n → (atL ys i).length = size) : Cube st n size (roundZ parts ys rows st vals) := by
  refine ⟨by simp [roundZ], fun s i hs' hi => ?_⟩
  have hx : parts[i]? = some parts[i] := List.getElem?_eq_getElem (by omega)
  rw [roundZ_at hs', fldJ_at hx, dervL, dervP_len, hdL_at, atAll_at (by omega), atRow_len, hs 0 hn]
theorem roundsZ_cube {parts : List (List MonZ)} {ys : List (List Int)} {rows : Nat → List Int} {st n size : Nat} {start : List (List (List Int))} (hy : ys.length = n) (hp : parts.length = n) (hn : 0 < n) (hs : ∀ i, i < n → (atL ys i).length = size) (h0 : Cube st n size start) :
    ∀ r, Cube st n size (roundsZ parts ys rows st start r)
  | 0 => h0
  | r + 1 => roundZ_cube hy hp hn hs
theorem agree_atRow {ys : List (List Int)} {v v' : List (List (List Int))} {row : List Int} {st n size r i : Nat} (hr : r + 1 ≤ size) (hi : i < n) (hs : ∀ i, i < n → (atL ys i).length = size) (hv : Cube st n size v) (hv' : Cube st n size v')
    (h : ∀ s i, s < st → i < n → Agree r (atL (atLL v s) i) (atL (atLL v' s) i)) : ∀ s, s ≤ st → Agree (r + 1) (atRow ys v row i s) (atRow ys v' row i s)
  | 0, _ => Agree.refl (by rw [atRow, hs i hi]; exact hr)
  | s + 1, hs' => (agree_atRow hr hi hs hv hv' h s (by omega)).add _ (agree_later (h s i (by omega) hi) (by rw [hv.2 s i (by omega) hi]; exact hr) (by rw [hv'.2 s i (by omega) hi]; exact hr))
/-- What the rounds have reached after r of them is the same up to the power r, whatever the start. -/
theorem rounds_agree {parts : List (List MonZ)} {ys : List (List Int)} {rows : Nat → List Int} {st n size : Nat} {a b : List (List (List Int))} (hy : ys.length = n) (hp : parts.length = n) (hn : 0 < n) (hs : ∀ i, i < n → (atL ys i).length = size) (ha : Cube st n size a) (hb : Cube st n size b)
    (hm : ∀ p ∈ parts, ∀ m ∈ p, m.pows.length ≤ n) : ∀ r, r ≤ size → ∀ s i, s < st → i < n → Agree r (atL (atLL (roundsZ parts ys rows st a r) s) i) (atL (atLL (roundsZ parts ys rows st b r) s) i)
  | 0, _ => fun s i _ _ => ⟨Nat.zero_le _, Nat.zero_le _, fun k hk => absurd hk (by omega)⟩
  | r + 1, hr => fun s i hs' hi => by
    have ih := rounds_agree (rows := rows) hy hp hn hs ha hb hm r (by omega)
    have hx : parts[i]? = some parts[i] := List.getElem?_eq_getElem (by omega)
    have hL : AgreeL (r + 1) (atAll ys (roundsZ parts ys rows st a r) (rows s) st) (atAll ys (roundsZ parts ys rows st b r) (rows s) st) := by
      refine ⟨by rw [atAll_len, atAll_len], fun j hj => ?_⟩
      rw [atAll_len] at hj
      rw [atAll_at hj, atAll_at hj]
      exact agree_atRow hr (by omega) hs (roundsZ_cube hy hp hn hs ha r) (roundsZ_cube hy hp hn hs hb r) ih st (Nat.le_refl _)
    rw [roundsZ, roundsZ, roundZ_at hs', roundZ_at hs', fldJ_at hx, fldJ_at hx]
    refine agree_dervL hL ?_ ?_ (fun m hm' => by rw [atAll_len, hy]; exact hm _ (List.getElem_mem _) m hm')
    · rw [hdL_at, atAll_at (by omega), atRow_len, hs 0 hn]; exact hr
    · rw [hdL_at, atAll_at (by omega), atRow_len, hs 0 hn]; exact hr
theorem list_ext_atL {a b : List (List Int)} (hl : a.length = b.length) (h : ∀ i, i < a.length → atL a i = atL b i) : a = b := by
  refine List.ext_getElem? fun i => ?_
  by_cases hi : i < a.length
  · have := h i hi
    unfold atL at this
    rw [List.getElem?_eq_getElem hi, List.getElem?_eq_getElem (by omega)] at this ⊢
    exact congrArg some this
  · rw [List.getElem?_eq_none (by omega), List.getElem?_eq_none (by omega)]
/-- the last row after all rounds -/
theorem rounds_row {parts : List (List MonZ)} {ys : List (List Int)} {rows : Nat → List Int} {st n size : Nat} {a b : List (List (List Int))} (hy : ys.length = n) (hp : parts.length = n) (hn : 0 < n) (hs : ∀ i, i < n → (atL ys i).length = size) (ha : Cube st n size a) (hb : Cube st n size b)
    (hm : ∀ p ∈ parts, ∀ m ∈ p, m.pows.length ≤ n) (row : List Int) : atAll ys (roundsZ parts ys rows st a size) row st = atAll ys (roundsZ parts ys rows st b size) row st := by
  have heq : ∀ s i, s < st → i < n → atL (atLL (roundsZ parts ys rows st a size) s) i = atL (atLL (roundsZ parts ys rows st b size) s) i := fun s i hs' hi =>
    (rounds_agree hy hp hn hs ha hb hm size (Nat.le_refl _) s i hs' hi).eq ((roundsZ_cube hy hp hn hs ha size).2 s i hs' hi) ((roundsZ_cube hy hp hn hs hb size).2 s i hs' hi)
  refine list_ext_atL (by rw [atAll_len, atAll_len]) fun i hi => ?_
  rw [atAll_len] at hi
  rw [atAll_at hi, atAll_at hi]
  have : ∀ k, k ≤ st → atRow ys (roundsZ parts ys rows st a size) row i k = atRow ys (roundsZ parts ys rows st b size) row i k := by
    intro k
    induction k with
    | zero => intro _; rfl
    | succ k ih => intro hk; rw [atRow, atRow, ih (by omega), heq k i (by omega) (by omega)]
  exact this st (Nat.le_refl _)

-- exact paths
/-- the program's rounds: j numbers of each coordinate are known, and one more -/
def exI (parts : List (List MonZ)) (y : List Int) (order : Nat) (t : Int) : Nat → List (List Int)
  | 0 => y.map fun c => oneAt c (order + 1)
  | j + 1 => (List.range y.length).map fun i => (atL (exI parts y order t j) i).set (j + 1) (fracZ (timesZ t (atZ (atL (fldJ parts (exI parts y order t j)) i) j)) ((j : Int) + 1))
/-- the reference's points -/
def exS (parts : List (List MonZ)) (y : List Int) : Nat → List (List Int)
  | 0 => [y]
  | n + 1 => exS parts y n ++ [(List.range y.length).map fun i => fracZ (atZ (atL (fldJ parts (turnZ (exS parts y n) y.length)) i) n) ((n : Int) + 1)]
def exSt (parts : List (List MonZ)) (y : List Int) (order : Nat) (t : Int) : List (List Int) := (List.range (order + 1)).map fun j => (List.range y.length).map fun i => timesZ (atZ (atL (exS parts y order) j) i) (powZ t j)
theorem exS_len (parts : List (List MonZ)) (y : List Int) (n : Nat) : (exS parts y n).length = n + 1 := by
  induction n with
  | zero => rfl
  | succ n ih => rw [exS, List.length_append, ih]; rfl
theorem exS_row (parts : List (List MonZ)) (y : List Int) (n : Nat) : ∀ x ∈ exS parts y n, x.length = y.length := by
  induction n with
  | zero => intro x hx; simp [exS] at hx; rw [hx]
  | succ n ih =>
    intro x hx
    rw [exS, List.mem_append] at hx
    rcases hx with hx | hx
    · exact ih x hx
    · simp at hx; rw [hx]; simp
theorem exS_nums {parts : List (List MonZ)} {y : List Int} (hy : Nums y) (n : Nat) : ∀ x ∈ exS parts y n, Nums x := by
  induction n with
  | zero => intro x hx; simp [exS] at hx; rw [hx]; exact hy
  | succ n ih =>
    intro x hx
    rw [exS, List.mem_append] at hx
    rcases hx with hx | hx
    · exact ih x hx
    · simp at hx
      rw [hx]
      intro z hz
      simp only [List.mem_map] at hz
      obtain ⟨i, _, rfl⟩ := hz
      exact fracZ_bd _ _
theorem exS_pre (parts : List (List MonZ)) (y : List Int) {j n : Nat} (h : j ≤ n) : ∀ k, k ≤ j → atL (exS parts y n) k = atL (exS parts y j) k := by
  induction n with
  | zero => intro k _; rw [show j = 0 by omega]
  | succ n ih =>
    intro k hk
    by_cases hj : j = n + 1
    · rw [hj]
    · rw [← ih (by omega) k hk, exS, atL, atL, List.getElem?_append_left (by rw [exS_len]; omega)]
theorem exI_len (parts : List (List MonZ)) (y : List Int) (order : Nat) (t : Int) (j : Nat) : (exI parts y order t j).length = y.length := by
  cases j <;> simp [exI]
theorem exI_row (parts : List (List MonZ)) (y : List Int) (order : Nat) (t : Int) (j : Nat) : ∀ i, i < y.length → (atL (exI parts y order t j) i).length = order + 1 := by
  induction j with
  | zero => intro i hi; simp [exI, atL, hi, oneAt]
  | succ j ih => intro i hi; rw [exI]; simp [atL, hi]; exact ih i hi
theorem turn_at {xs : List (List Int)} {n i : Nat} (h : i < n) : atL (turnZ xs n) i = colZ xs i := by rw [atL, turnZ_get xs h]; rfl
theorem col_at {xs : List (List Int)} {i k : Nat} (h : k < xs.length) : atZ (colZ xs i) k = atZ (atL xs k) i := by
  simp [colZ, atZ, atL, h]
theorem res_num {a : Int} (h : 0 ≤ a ∧ a ≤ 1000000270) : resZ a = a := by unfold resZ; omega
theorem numsZ_at {y : List Int} (h : Nums y) (i : Nat) : 0 ≤ atZ y i ∧ atZ y i ≤ 1000000270 := by
  unfold atZ
  cases hx : y[i]? with
  | none => simp
  | some x => exact nums_at h hx
theorem exact_scaled {parts : List (List MonZ)} {y : List Int} {order : Nat} {t : Int} (hy : Nums y) (hn : 0 < y.length) (hp : parts.length = y.length) (hm : ∀ p ∈ parts, ∀ m ∈ p, m.pows.length ≤ y.length) :
    ∀ j, j ≤ order → ScaledL (j + 1) t (turnZ (exS parts y j) y.length) (exI parts y order t j)
  | 0, _ => by
    refine ⟨by rw [turnZ_len, exI_len], fun i hi => ?_⟩
    rw [turnZ_len] at hi
    refine ⟨by rw [turn_at hi, colZ_len, exS_len]; exact Nat.le_refl _, by rw [exI_row _ _ _ _ _ _ hi]; omega, fun k hk => ?_⟩
    obtain rfl : k = 0 := by omega
    have e1 : atZ (atL (exI parts y order t 0) i) 0 = atZ y i := by
      rw [exI, atL, List.getElem?_map, List.getElem?_eq_getElem hi]
      simp [atZ, oneAt, List.getElem?_eq_getElem hi]
    rw [e1, turn_at hi, col_at (by rw [exS_len]; omega), exS]
    simp only [Int.pow_zero, Int.one_mul]
    rw [show atL [y] 0 = y from rfl, res_num (numsZ_at hy i)]
  | j + 1, hj => by
    have ih := exact_scaled (order := order) (t := t) hy hn hp hm j (by omega)
    refine ⟨by rw [turnZ_len, exI_len], fun i hi => ?_⟩
    rw [turnZ_len] at hi
    refine ⟨by rw [turn_at hi, colZ_len, exS_len]; exact Nat.le_refl _, by rw [exI_row _ _ _ _ _ _ hi]; omega, fun k hk => ?_⟩
    have hI : atL (exI parts y order t (j + 1)) i = (atL (exI parts y order t j) i).set (j + 1) (fracZ (timesZ t (atZ (atL (fldJ parts (exI parts y order t j)) i) j)) ((j : Int) + 1)) := by
      rw [exI]; simp [atL, hi]
    have hlen := exI_row parts y order t j i hi
    rw [hI, atZ_set (by omega), turn_at hi, col_at (by rw [exS_len]; omega)]
    by_cases hkj : k = j + 1
    · subst hkj
      rw [if_pos rfl]
      have hS : atL (exS parts y (j + 1)) (j + 1) = (List.range y.length).map fun i => fracZ (atZ (atL (fldJ parts (turnZ (exS parts y j) y.length)) i) j) ((j : Int) + 1) := by
        rw [exS, atL, List.getElem?_append_right (by rw [exS_len]; omega), exS_len, Nat.sub_self]
        rfl
      have hSi : atZ (atL (exS parts y (j + 1)) (j + 1)) i = fracZ (atZ (atL (fldJ parts (turnZ (exS parts y j) y.length)) i) j) ((j : Int) + 1) := by
        rw [hS]; simp [atZ, hi]
      have hx : parts[i]? = some parts[i] := List.getElem?_eq_getElem (by omega)
      have hd := scaled_dervL (p := parts[i]) ih (by rw [hdL_at, turn_at hn, colZ_len, exS_len]; exact Nat.le_refl _) (by rw [hdL_at, exI_row _ _ _ _ _ _ hn]; omega) (fun m hm' => by rw [turnZ_len]; exact hm _ (List.getElem_mem _) m hm')
      rw [hSi, fldJ_at hx, fldJ_at hx, hd.2.2 j (by omega)]
      simp only [fracZ, timesZ, resZ, modl, modr]
      congr 1
      rw [Int.pow_succ]
      grind
    · rw [if_neg hkj]
      have h := (ih.2 i (by rw [turnZ_len]; exact hi)).2.2 k (by omega)
      rw [h, turn_at hi, col_at (k := k) (by rw [exS_len]; omega), exS_pre parts y (j := j) (n := j + 1) (by omega) k (by omega)]
theorem exact_same {parts : List (List MonZ)} {y : List Int} {order : Nat} {t : Int} (hy : Nums y) (hn : 0 < y.length) (hp : parts.length = y.length) (hm : ∀ p ∈ parts, ∀ m ∈ p, m.pows.length ≤ y.length) :
    turnZ (exI parts y order t order) (order + 1) = exSt parts y order t := by
  have h := exact_scaled (t := t) hy hn hp hm order (Nat.le_refl _)
  refine list_ext_atL (by simp [turnZ, exSt]) fun j hj => ?_
  rw [turnZ_len] at hj
  rw [turn_at hj]
  have e1 : atL (exSt parts y order t) j = (List.range y.length).map fun i => timesZ (atZ (atL (exS parts y order) j) i) (powZ t j) := by simp [exSt, atL, hj]
  rw [e1]
  have hl := exI_len parts y order t order
  refine List.ext_getElem? fun i => ?_
  by_cases hi : i < y.length
  · have hs := (h.2 i (by rw [turnZ_len]; exact hi)).2.2 j hj
    rw [turn_at hi, col_at (by rw [exS_len]; omega)] at hs
    have e2 : (colZ (exI parts y order t order) j)[i]? = some (atZ (atL (exI parts y order t order) i) j) := by
      simp [colZ, atZ, atL, hl, hi]
    rw [e2, hs]
    simp only [List.getElem?_map, List.getElem?_range hi, Option.map_some, Option.some.injEq]
    simp only [timesZ, resZ, powZ]
    rw [if_neg (by omega), modr, Int.mul_comm]
    rfl
  · rw [List.getElem?_eq_none (by rw [colZ_len, hl]; omega), List.getElem?_eq_none (by simp; omega)]
end Go.Proofs.Ytbcjhpgkodeoeaa

/- PolynomialAlong of the program and of the reference. Conditions: lengths of slices up to 2^20. -/
namespace Go.Proofs.Ytbcjhpgkodeoeaa
open Go.RowKit Go.Sort

def paOkB (p : List MonZ) (xs : List (List Int)) : Bool := decide (xs.length ≠ 0) && (pathOkB xs (hdL xs) && polyOkB p (hdL xs))
def polyAlongL (p : List MonZ) (xs : List (List Int)) : List Int := if paOkB p xs then dervL p (turnZ xs (hdL xs)) [] else []

theorem turn_ok {xs : List (List Int)} {n : Nat} (h : pathOkB xs n = true) : AllJ xs.length (turnZ xs n) := by
  intro x hx
  simp only [turnZ, List.mem_map] at hx
  obtain ⟨i, _, rfl⟩ := hx
  exact ⟨colZ_len _ _, colZ_nums (pathOk_facts h).2.2.2 i⟩
theorem hdL_turn {xs : List (List Int)} {n : Nat} (h : 0 < n) : hdL (turnZ xs n) = xs.length := by rw [hdL_at, turn_at h, colZ_len]
theorem fine_coef {p : List MonZ} {n : Nat} (h : ∀ m ∈ p, MonFine n m) : ∀ m ∈ p, 0 ≤ m.coef ∧ m.coef ≤ 1000000270 ∧ 0 ≤ degZ m.pows := fun m hm => ⟨(h m hm).1.1, (h m hm).1.2, (h m hm).2.2.1⟩

end Go.Proofs.Ytbcjhpgkodeoeaa
