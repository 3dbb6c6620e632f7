/- The texts StepP, PAlong, VAlong, Open, Shut in one: each says at its head what it proves. Conditions: as said there. -/
import Derived.ProofKit
import Derived.OpenShut
import Derived.Deep.Slices
import Derived.Deep.Fields
import Derived.Lib.SmallJoins
import Derived.Test.YtbcjhpgkodeoeaaGreatDoorRows
import Derived.Test.YtbcjhpgkodeoeaaGreatDoorG14
import Derived.Test.YtbcjhpgkodeoeaaGreatDoorG02
import Derived.Test.YtbcjhpgkodeoeaaGreatDoorG46
import Derived.Test.YtbcjhpgkodeoeaaGreatDoorG07
import Derived.Test.YtbcjhpgkodeoeaaGreatDoorG01
set_option linter.unusedSimpArgs false
set_option linter.unusedVariables false
/- The rounds of a step along a path reach the same from any start; exact paths by rounds and by powers. In plain lists. Conditions: numbers. -/
namespace Go.Proofs.YtbcjhpgkodeoeaaGreatDoor
open Go.RowKit Go.Sort

/-- a field's value along jets -/
def fldJ (parts : List (List MonZ)) (y : List (List Int)) : List (List Int) := parts.map fun p => dervL p y []
theorem fldJ_len (parts : List (List MonZ)) (y : List (List Int)) : (fldJ parts y).length = parts.length := by simp [fldJ]
theorem fldJ_at {parts : List (List MonZ)} {p : List MonZ} {i : Nat} (h : parts[i]? = some p) (y : List (List Int)) : atL (fldJ parts y) i = dervL p y [] := by simp [fldJ, atL, h]

def laterJ (x : List Int) : List Int := (0 :: x).take x.length
theorem laterJ_len (x : List Int) : (laterJ x).length = x.length := by simp [laterJ]
theorem laterJ_at {x : List Int} {k : Nat} (h : k < x.length) : atZ (laterJ x) k = if k = 0 then 0 else atZ x (k - 1) := by
  unfold laterJ atZ
  rw [List.getElem?_take_of_lt h]
  cases k with
  | zero => rfl
  | succ k => simp
theorem agree_later {r : Nat} {x x' : List Int} (h : Agree r x x') (h1 : r + 1 ≤ x.length) (h2 : r + 1 ≤ x'.length) : Agree (r + 1) (laterJ x) (laterJ x') := by
  refine ⟨by rw [laterJ_len]; exact h1, by rw [laterJ_len]; exact h2, fun k hk => ?_⟩
  rw [laterJ_at (by omega), laterJ_at (by omega)]
  by_cases h0 : k = 0
  · rw [if_pos h0, if_pos h0]
  · rw [if_neg h0, if_neg h0, h.2.2 (k - 1) (by omega)]

/-- a coordinate moved by the stages' values -/
def atRow (ys : List (List Int)) (vals : List (List (List Int))) (row : List Int) (i : Nat) : Nat → List Int
  | 0 => atL ys i
  | s + 1 => addJ (atRow ys vals row i s) (laterJ (atL (atLL vals s) i)) (atZ row s)
theorem atRow_len (ys : List (List Int)) (vals : List (List (List Int))) (row : List Int) (i s : Nat) : (atRow ys vals row i s).length = (atL ys i).length := by
  induction s with
  | zero => rfl
  | succ s ih => rw [atRow, addJ_len, ih]
def atAll (ys : List (List Int)) (vals : List (List (List Int))) (row : List Int) (st : Nat) : List (List Int) := (List.range ys.length).map fun i => atRow ys vals row i st
theorem atAll_at {ys : List (List Int)} {i : Nat} (h : i < ys.length) (vals : List (List (List Int))) (row : List Int) (st : Nat) : atL (atAll ys vals row st) i = atRow ys vals row i st := by simp [atAll, atL, h]
theorem atAll_len (ys : List (List Int)) (vals : List (List (List Int))) (row : List Int) (st : Nat) : (atAll ys vals row st).length = ys.length := by simp [atAll]
def roundZ (parts : List (List MonZ)) (ys : List (List Int)) (rows : Nat → List Int) (st : Nat) (vals : List (List (List Int))) : List (List (List Int)) := (List.range st).map fun s => fldJ parts (atAll ys vals (rows s) st)
def roundsZ (parts : List (List MonZ)) (ys : List (List Int)) (rows : Nat → List Int) (st : Nat) (start : List (List (List Int))) : Nat → List (List (List Int))
  | 0 => start
  | r + 1 => roundZ parts ys rows st (roundsZ parts ys rows st start r)
/-- all jets of all stages are of this size -/
def Cube (st n size : Nat) (v : List (List (List Int))) : Prop := v.length = st ∧ ∀ s i, s < st → i < n → (atL (atLL v s) i).length = size
theorem roundZ_at {parts : List (List MonZ)} {ys : List (List Int)} {rows : Nat → List Int} {st : Nat} {vals : List (List (List Int))} {s : Nat} (h : s < st) : atLL (roundZ parts ys rows st vals) s = fldJ parts (atAll ys vals (rows s) st) := by
  simp [roundZ, atLL, h]
theorem hdL_at {y : List (List Int)} : hdL y = (atL y 0).length := by
  unfold hdL atL
  cases y <;> rfl
theorem roundZ_cube {parts : List (List MonZ)} {ys : List (List Int)} {rows : Nat → List Int} {st n size : Nat} {vals : List (List (List Int))} (hy : ys.length = n) (hp : parts.length = n) (hn : 0 < n) (hs : ∀ i, i < n → (atL ys i).length = size) : Cube st n size (roundZ parts ys rows st vals) := by
  refine ⟨by simp [roundZ], fun s i hs' hi => ?_⟩
  have hx : parts[i]? = some parts[i] := List.getElem?_eq_getElem (by omega)
  rw [roundZ_at hs', fldJ_at hx, dervL, dervP_len, hdL_at, atAll_at (by omega), atRow_len, hs 0 hn]
theorem roundsZ_cube {parts : List (List MonZ)} {ys : List (List Int)} {rows : Nat → List Int} {st n size : Nat} {start : List (List (List Int))} (hy : ys.length = n) (hp : parts.length = n) (hn : 0 < n) (hs : ∀ i, i < n → (atL ys i).length = size) (h0 : Cube st n size start) :
    ∀ r, Cube st n size (roundsZ parts ys rows st start r)
  | 0 => h0
  | r + 1 => roundZ_cube hy hp hn hs
theorem agree_atRow {ys : List (List Int)} {v v' : List (List (List Int))} {row : List Int} {st n size r i : Nat} (hr : r + 1 ≤ size) (hi : i < n) (hs : ∀ i, i < n → (atL ys i).length = size) (hv : Cube st n size v) (hv' : Cube st n size v')
    (h : ∀ s i, s < st → i < n → Agree r (atL (atLL v s) i) (atL (atLL v' s) i)) : ∀ s, s ≤ st → Agree (r + 1) (atRow ys v row i s) (atRow ys v' row i s)
  | 0, _ => Agree.refl (by rw [atRow, hs i hi]; exact hr)
  | s + 1, hs' => (agree_atRow hr hi hs hv hv' h s (by omega)).add _ (agree_later (h s i (by omega) hi) (by rw [hv.2 s i (by omega) hi]; exact hr) (by rw [hv'.2 s i (by omega) hi]; exact hr))
/-- What the rounds have reached after r of them is the same up to the power r, whatever the start. -/
theorem rounds_agree {parts : List (List MonZ)} {ys : List (List Int)} {rows : Nat → List Int} {st n size : Nat} {a b : List (List (List Int))} (hy : ys.length = n) (hp : parts.length = n) (hn : 0 < n) (hs : ∀ i, i < n → (atL ys i).length = size) (ha : Cube st n size a) (hb : Cube st n size b)
    (hm : ∀ p ∈ parts, ∀ m ∈ p, m.pows.length ≤ n) : ∀ r, r ≤ size → ∀ s i, s < st → i < n → Agree r (atL (atLL (roundsZ parts ys rows st a r) s) i) (atL (atLL (roundsZ parts ys rows st b r) s) i)
  | 0, _ => fun s i _ _ => ⟨Nat.zero_le _, Nat.zero_le _, fun k hk => absurd hk (by omega)⟩
  | r + 1, hr => fun s i hs' hi => by
    have ih := rounds_agree (rows := rows) hy hp hn hs ha hb hm r (by omega)
    have hx : parts[i]? = some parts[i] := List.getElem?_eq_getElem (by omega)
    have hL : AgreeL (r + 1) (atAll ys (roundsZ parts ys rows st a r) (rows s) st) (atAll ys (roundsZ parts ys rows st b r) (rows s) st) := by
      refine ⟨by rw [atAll_len, atAll_len], fun j hj => ?_⟩
      rw [atAll_len] at hj
      rw [atAll_at hj, atAll_at hj]
      exact agree_atRow hr (by omega) hs (roundsZ_cube hy hp hn hs ha r) (roundsZ_cube hy hp hn hs hb r) ih st (Nat.le_refl _)
    rw [roundsZ, roundsZ, roundZ_at hs', roundZ_at hs', fldJ_at hx, fldJ_at hx]
    refine agree_dervL hL ?_ ?_ (fun m hm' => by rw [atAll_len, hy]; exact hm _ (List.getElem_mem _) m hm')
    · rw [hdL_at, atAll_at (by omega), atRow_len, hs 0 hn]; exact hr
    · rw [hdL_at, atAll_at (by omega), atRow_len, hs 0 hn]; exact hr
theorem list_ext_atL {a b : List (List Int)} (hl : a.length = b.length) (h : ∀ i, i < a.length → atL a i = atL b i) : a = b := by
  refine List.ext_getElem? fun i => ?_
  by_cases hi : i < a.length
  · have := h i hi
    unfold atL at this
    rw [List.getElem?_eq_getElem hi, List.getElem?_eq_getElem (by omega)] at this ⊢
    exact congrArg some this
  · rw [List.getElem?_eq_none (by omega), List.getElem?_eq_none (by omega)]
/-- the last row after all rounds -/
theorem rounds_row {parts : List (List MonZ)} {ys : List (List Int)} {rows : Nat → List Int} {st n size : Nat} {a b : List (List (List Int))} (hy : ys.length = n) (hp : parts.length = n) (hn : 0 < n) (hs : ∀ i, i < n → (atL ys i).length = size) (ha : Cube st n size a) (hb : Cube st n size b)
    (hm : ∀ p ∈ parts, ∀ m ∈ p, m.pows.length ≤ n) (row : List Int) : atAll ys (roundsZ parts ys rows st a size) row st = atAll ys (roundsZ parts ys rows st b size) row st := by
  have heq : ∀ s i, s < st → i < n → atL (atLL (roundsZ parts ys rows st a size) s) i = atL (atLL (roundsZ parts ys rows st b size) s) i := fun s i hs' hi =>
    (rounds_agree hy hp hn hs ha hb hm size (Nat.le_refl _) s i hs' hi).eq ((roundsZ_cube hy hp hn hs ha size).2 s i hs' hi) ((roundsZ_cube hy hp hn hs hb size).2 s i hs' hi)
  refine list_ext_atL (by rw [atAll_len, atAll_len]) fun i hi => ?_
  rw [atAll_len] at hi
  rw [atAll_at hi, atAll_at hi]
  have : ∀ k, k ≤ st → atRow ys (roundsZ parts ys rows st a size) row i k = atRow ys (roundsZ parts ys rows st b size) row i k := by
    intro k
    induction k with
    | zero => intro _; rfl
    | succ k ih => intro hk; rw [atRow, atRow, ih (by omega), heq k i (by omega) (by omega)]
  exact this st (Nat.le_refl _)

-- exact paths
/-- the program's rounds: j numbers of each coordinate are known, and one more -/
def exI (parts : List (List MonZ)) (y : List Int) (order : Nat) (t : Int) : Nat → List (List Int)
  | 0 => y.map fun c => oneAt c (order + 1)
  | j + 1 => (List.range y.length).map fun i => (atL (exI parts y order t j) i).set (j + 1) (fracZ (timesZ t (atZ (atL (fldJ parts (exI parts y order t j)) i) j)) ((j : Int) + 1))
/-- the reference's points -/
def exS (parts : List (List MonZ)) (y : List Int) : Nat → List (List Int)
  | 0 => [y]
  | n + 1 => exS parts y n ++ [(List.range y.length).map fun i => fracZ (atZ (atL (fldJ parts (turnZ (exS parts y n) y.length)) i) n) ((n : Int) + 1)]
def exSt (parts : List (List MonZ)) (y : List Int) (order : Nat) (t : Int) : List (List Int) := (List.range (order + 1)).map fun j => (List.range y.length).map fun i => timesZ (atZ (atL (exS parts y order) j) i) (powZ t j)
theorem exS_len (parts : List (List MonZ)) (y : List Int) (n : Nat) : (exS parts y n).length = n + 1 := by
  induction n with
  | zero => rfl
  | succ n ih => rw [exS, List.length_append, ih]; rfl
theorem exS_row (parts : List (List MonZ)) (y : List Int) (n : Nat) : ∀ x ∈ exS parts y n, x.length = y.length := by
  induction n with
  | zero => intro x hx; simp [exS] at hx; rw [hx]
  | succ n ih =>
    intro x hx
    rw [exS, List.mem_append] at hx
    rcases hx with hx | hx
    · exact ih x hx
    · simp at hx; rw [hx]; simp
theorem exS_nums {parts : List (List MonZ)} {y : List Int} (hy : Nums y) (n : Nat) : ∀ x ∈ exS parts y n, Nums x := by
  induction n with
  | zero => intro x hx; simp [exS] at hx; rw [hx]; exact hy
  | succ n ih =>
    intro x hx
    rw [exS, List.mem_append] at hx
    rcases hx with hx | hx
    · exact ih x hx
    · simp at hx
      rw [hx]
      intro z hz
      simp only [List.mem_map] at hz
      obtain ⟨i, _, rfl⟩ := hz
      exact fracZ_bd _ _
theorem exS_pre (parts : List (List MonZ)) (y : List Int) {j n : Nat} (h : j ≤ n) : ∀ k, k ≤ j → atL (exS parts y n) k = atL (exS parts y j) k := by
  induction n with
  | zero => intro k _; rw [show j = 0 by omega]
  | succ n ih =>
    intro k hk
    by_cases hj : j = n + 1
    · rw [hj]
    · rw [← ih (by omega) k hk, exS, atL, atL, List.getElem?_append_left (by rw [exS_len]; omega)]
theorem exI_len (parts : List (List MonZ)) (y : List Int) (order : Nat) (t : Int) (j : Nat) : (exI parts y order t j).length = y.length := by
  cases j <;> simp [exI]
theorem exI_row (parts : List (List MonZ)) (y : List Int) (order : Nat) (t : Int) (j : Nat) : ∀ i, i < y.length → (atL (exI parts y order t j) i).length = order + 1 := by
  induction j with
  | zero => intro i hi; simp [exI, atL, hi, oneAt]
  | succ j ih => intro i hi; rw [exI]; simp [atL, hi]; exact ih i hi
theorem turn_at {xs : List (List Int)} {n i : Nat} (h : i < n) : atL (turnZ xs n) i = colZ xs i := by rw [atL, turnZ_get xs h]; rfl
theorem col_at {xs : List (List Int)} {i k : Nat} (h : k < xs.length) : atZ (colZ xs i) k = atZ (atL xs k) i := by
  simp [colZ, atZ, atL, h]
theorem res_num {a : Int} (h : 0 ≤ a ∧ a ≤ 1000000270) : resZ a = a := by unfold resZ; omega
theorem numsZ_at {y : List Int} (h : Nums y) (i : Nat) : 0 ≤ atZ y i ∧ atZ y i ≤ 1000000270 := by
  unfold atZ
  cases hx : y[i]? with
  | none => simp
  | some x => exact nums_at h hx
theorem exact_scaled {parts : List (List MonZ)} {y : List Int} {order : Nat} {t : Int} (hy : Nums y) (hn : 0 < y.length) (hp : parts.length = y.length) (hm : ∀ p ∈ parts, ∀ m ∈ p, m.pows.length ≤ y.length) :
    ∀ j, j ≤ order → ScaledL (j + 1) t (turnZ (exS parts y j) y.length) (exI parts y order t j)
  | 0, _ => by
    refine ⟨by rw [turnZ_len, exI_len], fun i hi => ?_⟩
    rw [turnZ_len] at hi
    refine ⟨by rw [turn_at hi, colZ_len, exS_len]; exact Nat.le_refl _, by rw [exI_row _ _ _ _ _ _ hi]; omega, fun k hk => ?_⟩
    obtain rfl : k = 0 := by omega
    have e1 : atZ (atL (exI parts y order t 0) i) 0 = atZ y i := by
      rw [exI, atL, List.getElem?_map, List.getElem?_eq_getElem hi]
      simp [atZ, oneAt, List.getElem?_eq_getElem hi]
    rw [e1, turn_at hi, col_at (by rw [exS_len]; omega), exS]
    simp only [Int.pow_zero, Int.one_mul]
    rw [show atL [y] 0 = y from rfl, res_num (numsZ_at hy i)]
  | j + 1, hj => by
    have ih := exact_scaled (order := order) (t := t) hy hn hp hm j (by omega)
    refine ⟨by rw [turnZ_len, exI_len], fun i hi => ?_⟩
    rw [turnZ_len] at hi
    refine ⟨by rw [turn_at hi, colZ_len, exS_len]; exact Nat.le_refl _, by rw [exI_row _ _ _ _ _ _ hi]; omega, fun k hk => ?_⟩
    have hI : atL (exI parts y order t (j + 1)) i = (atL (exI parts y order t j) i).set (j + 1) (fracZ (timesZ t (atZ (atL (fldJ parts (exI parts y order t j)) i) j)) ((j : Int) + 1)) := by
      rw [exI]; simp [atL, hi]
    have hlen := exI_row parts y order t j i hi
    rw [hI, atZ_set (by omega), turn_at hi, col_at (by rw [exS_len]; omega)]
    by_cases hkj : k = j + 1
    · subst hkj
      rw [if_pos rfl]
      have hS : atL (exS parts y (j + 1)) (j + 1) = (List.range y.length).map fun i => fracZ (atZ (atL (fldJ parts (turnZ (exS parts y j) y.length)) i) j) ((j : Int) + 1) := by
        rw [exS, atL, List.getElem?_append_right (by rw [exS_len]; omega), exS_len, Nat.sub_self]
        rfl
      have hSi : atZ (atL (exS parts y (j + 1)) (j + 1)) i = fracZ (atZ (atL (fldJ parts (turnZ (exS parts y j) y.length)) i) j) ((j : Int) + 1) := by
        rw [hS]; simp [atZ, hi]
      have hx : parts[i]? = some parts[i] := List.getElem?_eq_getElem (by omega)
      have hd := scaled_dervL (p := parts[i]) ih (by rw [hdL_at, turn_at hn, colZ_len, exS_len]; exact Nat.le_refl _) (by rw [hdL_at, exI_row _ _ _ _ _ _ hn]; omega) (fun m hm' => by rw [turnZ_len]; exact hm _ (List.getElem_mem _) m hm')
      rw [hSi, fldJ_at hx, fldJ_at hx, hd.2.2 j (by omega)]
      simp only [fracZ, timesZ, resZ, modl, modr]
      congr 1
      rw [Int.pow_succ]
      grind
    · rw [if_neg hkj]
      have h := (ih.2 i (by rw [turnZ_len]; exact hi)).2.2 k (by omega)
      rw [h, turn_at hi, col_at (k := k) (by rw [exS_len]; omega), exS_pre parts y (j := j) (n := j + 1) (by omega) k (by omega)]
theorem exact_same {parts : List (List MonZ)} {y : List Int} {order : Nat} {t : Int} (hy : Nums y) (hn : 0 < y.length) (hp : parts.length = y.length) (hm : ∀ p ∈ parts, ∀ m ∈ p, m.pows.length ≤ y.length) :
    turnZ (exI parts y order t order) (order + 1) = exSt parts y order t := by
  have h := exact_scaled (t := t) hy hn hp hm order (Nat.le_refl _)
  refine list_ext_atL (by simp [turnZ, exSt]) fun j hj => ?_
  rw [turnZ_len] at hj
  rw [turn_at hj]
  have e1 : atL (exSt parts y order t) j = (List.range y.length).map fun i => timesZ (atZ (atL (exS parts y order) j) i) (powZ t j) := by simp [exSt, atL, hj]
  rw [e1]
  have hl := exI_len parts y order t order
  refine List.ext_getElem? fun i => ?_
  by_cases hi : i < y.length
  · have hs := (h.2 i (by rw [turnZ_len]; exact hi)).2.2 j hj
    rw [turn_at hi, col_at (by rw [exS_len]; omega)] at hs
    have e2 : (colZ (exI parts y order t order) j)[i]? = some (atZ (atL (exI parts y order t order) i) j) := by
      simp [colZ, atZ, atL, hl, hi]
    rw [e2, hs]
    simp only [List.getElem?_map, List.getElem?_range hi, Option.map_some, Option.some.injEq]
    simp only [timesZ, resZ, powZ]
    rw [if_neg (by omega), modr, Int.mul_comm]
    rfl
  · rw [List.getElem?_eq_none (by rw [colZ_len, hl]; omega), List.getElem?_eq_none (by simp; omega)]
end Go.Proofs.YtbcjhpgkodeoeaaGreatDoor

/- PolynomialAlong of the program and of the reference. Conditions: lengths of slices up to 2^20. -/
namespace Go.Proofs.YtbcjhpgkodeoeaaGreatDoor
open Go.RowKit Go.Sort

def paOkB (p : List MonZ) (xs : List (List Int)) : Bool := decide (xs.length ≠ 0) && (pathOkB xs (hdL xs) && polyOkB p (hdL xs))
def polyAlongL (p : List MonZ) (xs : List (List Int)) : List Int := if paOkB p xs then dervL p (turnZ xs (hdL xs)) [] else []

theorem turn_ok {xs : List (List Int)} {n : Nat} (h : pathOkB xs n = true) : AllJ xs.length (turnZ xs n) := by
  intro x hx
  simp only [turnZ, List.mem_map] at hx
  obtain ⟨i, _, rfl⟩ := hx
  exact ⟨colZ_len _ _, colZ_nums (pathOk_facts h).2.2.2 i⟩
theorem hdL_turn {xs : List (List Int)} {n : Nat} (h : 0 < n) : hdL (turnZ xs n) = xs.length := by rw [hdL_at, turn_at h, colZ_len]
theorem fine_coef {p : List MonZ} {n : Nat} (h : ∀ m ∈ p, MonFine n m) : ∀ m ∈ p, 0 ≤ m.coef ∧ m.coef ≤ 1000000270 ∧ 0 ≤ degZ m.pows := fun m hm => ⟨(h m hm).1.1, (h m hm).1.2, (h m hm).2.2.1⟩

set_option maxRecDepth 100000 in
set_option maxHeartbeats 1600000 in
theorem pAlong_any (vp vx : Value) (p : List MonZ) (xs : List (List Int)) (w : World) (hp : RdMs w vp p) (hx : RdII w vx xs) (hfit : ∀ m ∈ p, Fit_Mon m) (hh : hdL xs ≤ 1048576) :
    Calls Tryz.prog 24 #[vp, vx] w (Gives (fun w' v fp => OwnI 3 w' v (polyAlongL p xs) fp) w) := by
  have hnone : ∀ W, Below w.heap.size w W → paOkB p xs = false → Gives (fun w' v fp => OwnI 3 w' v (polyAlongL p xs) fp) w (.returned (.slice none 0 0)) W := by
    intro W hW hd
    refine ⟨_, [], rfl, ?_, by simp, hW⟩
    rw [polyAlongL, hd]
    exact ⟨World.ownsRow_nil _ _ _ _, rfl, by simp⟩
  obtain ⟨ad1, len1, cap1, rfl, hl1, hlc1, hcm1, h1'⟩ := rdS_open hp
  obtain ⟨ad, len, cap, rfl, hl, hlc, hcm, h'⟩ := rdS_open hx
  clear hp hx
  by_cases hz : len = 0
  · subst hz
    have HN := Lib.hid (hnone w (Below.refl _ _) (by rw [List.eq_nil_of_length_eq_zero hl]; rfl))
    clear hnone hl hl1
    go_enter Tryz.func24, Tryz.ntmps24
    go_wp2
    go_ret
    exact HN.out
  obtain ⟨b, off, ad', n, cap', x0, rfl, hx0, hcc, h6, h7, h8, h9, hbs⟩ := rdII_get h' (k := 0) (by omega)
  have hhd : hdL xs = n := by
    cases xs with
    | nil => simp at hx0
    | cons y ys =>
      simp only [List.getElem?_cons_zero, Option.some.injEq] at hx0
      subst hx0
      exact h6
  have hdd : paOkB p xs = (pathOkB xs n && polyOkB p n) := by simp [paOkB, hl, hz, hhd]
  have hzb : ((len : Int) == 0) = false := by simp; omega
  have hzp : (0 : Int) < len := by omega
  simp only [Nat.add_zero] at hcc
  rw [hhd] at hh
  have HL := Lib.hid hl
  have HL1 := Lib.hid hl1
  have HDD := Lib.hid hdd
  have HHD := Lib.hid hhd
  clear hl hl1 hdd hhd hx0 h6
  cases hok : pathOkB xs n with
  | false =>
    have HN := Lib.hid (hnone w (Below.refl _ _) (by rw [HDD.out, hok]; rfl))
    clear hnone
    go_enter Tryz.func24, Tryz.ntmps24
    go_wp2_with (go_at_call 67; ((with_reducible refine (pathOk_any _ xs _ _ h').mono ?_); rintro e w' ⟨rfl, rfl⟩; rw [hok]))
    go_ret
    exact HN.out
  | true =>
  cases hpk : polyOkB p n with
  | false =>
    have HN := Lib.hid (fun W hW => hnone W hW (by rw [HDD.out, hok, hpk]; rfl))
    clear hnone
    go_enter Tryz.func24, Tryz.ntmps24
    go_wp2_with (first
      | (go_at_call 67; ((with_reducible refine (pathOk_any _ xs _ _ h').mono ?_); rintro e w' ⟨rfl, rfl⟩; rw [hok]))
      | (go_at_call 44; ((with_reducible refine (polyOk_eq _ p _ _ h1' hfit hpk).mono ?_); rintro e w1 ⟨rfl, hb1⟩)))
    go_ret
    exact HN.out _ hb1
  | true =>
  obtain ⟨q1, q2, q3, q4⟩ := pathOk_facts hok
  obtain ⟨r1, r2, r3, r4⟩ := polyOk_facts hpk
  have htok := turn_ok hok
  rw [HL.out] at q1 q2 htok
  have hE : polyAlongL p xs = derL p (turnZ xs n) [] len := by
    rw [polyAlongL, HDD.out, hok, hpk, HHD.out, derL_nil (by rw [hdL_turn (by omega), HL.out]) (fine_coef r4)]
    rfl
  have HE := Lib.hid hE
  have Q3 := Lib.hid q3
  have R4 := Lib.hid r4
  have TOK := Lib.hid htok
  clear hnone hE q3 q4 r4 htok
  go_enter Tryz.func24, Tryz.ntmps24
  go_wp2_with (first
    | (go_at_call 67; ((with_reducible refine (pathOk_any _ xs _ _ h').mono ?_); rintro e w' ⟨rfl, rfl⟩; rw [hok]))
    | (go_at_call 44; ((with_reducible refine (polyOk_eq _ p _ _ h1' hfit hpk).mono ?_); rintro e w1 ⟨rfl, hb1⟩; have hcc1 := cell_below hb1 hcc))
    | (go_at_call 61; ((with_reducible refine (jets_any _ xs n _ (rdII_mono hb1 h') (by omega) (by rw [HL.out]; omega) Q3.out).mono ?_); rintro e w2 ⟨vy, fy, rfl, hoy, hfy, hby⟩; have hb2 := hb1.trans (hby.mono hb1.size)))
    | (go_at_call 83; ((with_reducible refine (derived_any _ _ _ p (turnZ xs n) [] n len _ (rdMs_mono hb2 h1') (ownII_rd hoy) (rdIII_nil _) r3 R4.out r1 r2 q1 q2 (turnZ_len _ _) TOK.out (by simp) (by simp)).mono ?_); rintro e w3 ⟨vr, fr, rfl, hor, hfr, hbr⟩; have hb3 := hb2.trans (hbr.mono hb2.size))))
  go_ret
  exact ⟨_, fr, rfl, by rw [HE.out]; exact hor, fun b hb => by { have := hfr b hb; have := hb2.size; omega }, hb3⟩

end Go.Proofs.YtbcjhpgkodeoeaaGreatDoor

/- ValueAlong of the program and of the reference. Conditions: lengths of slices up to 2^20. -/
namespace Go.Proofs.YtbcjhpgkodeoeaaGreatDoor
open Go.RowKit Go.Sort

def fpOkB (f : FldZ) (xs : List (List Int)) : Bool := fldOkB f && pathOkB xs f.dim
theorem pathOk_lit {w : World} {xs : List (List Int)} {d : Int} {b : Bool} {v : Value} (h : RdII w v xs) (hb : pathOkB xs d = b) : Calls Tryz.prog 67 #[v, .int .i64 d] w fun e w' => e = .returned (.bool b) ∧ w = w' := hb ▸ pathOk_any v xs d w h
theorem sPathOk_lit {w : World} {xs : List (List Int)} {d : Int} {b : Bool} {v : Value} (h : RdII w v xs) (hb : pathOkB xs d = b) : Calls Tryz.prog 151 #[v, .int .i64 d] w fun e w' => e = .returned (.bool b) ∧ w = w' := hb ▸ sPathOk_any v xs d w h

set_option maxHeartbeats 1600000 in
theorem fpOk_any (vf vx : Value) (f : FldZ) (xs : List (List Int)) (w : World) (hf : RdFld w vf f) (hx : RdII w vx xs) (hfit : ∀ p ∈ f.parts, ∀ m ∈ p, Fit_Mon m) :
    Calls Tryz.prog 56 #[vf, vx] w fun e w' => e = .returned (.bool (fpOkB f xs)) ∧ Below w.heap.size w w' := by
  obtain ⟨vP, rfl, hI, hp⟩ := hf
  obtain ⟨ad1, len1, cap1, rfl, hl1, hlc1, hcm1, h1'⟩ := rdS_open hx
  obtain ⟨adp, lenp, capp, rfl, hlp, hlcp, hcmp, hp'⟩ := rdS_open hp
  obtain ⟨W, hW⟩ : ∃ W, W = w.alloc (.cells #[.int .i64 f.dim, .slice adp lenp capp] 30) := ⟨_, rfl⟩
  have hb0 : Below w.heap.size w W := hW ▸ (Below.refl _ _).alloc (Nat.le_refl _) _
  have hd0 : W.cell? ⟨w.heap.size, 0, none⟩ = some (.int .i64 f.dim) := by rw [hW]; simp
  have hd1 : W.cell? ⟨w.heap.size, 1, none⟩ = some (.slice adp lenp capp) := by rw [hW]; simp
  have HW := Lib.hid hW
  have hfW : RdFld W (.agg #[.int .i64 f.dim, .slice adp lenp capp]) f := ⟨_, rfl, hI, rdMss_mono hb0 hp'⟩
  clear hW hx hp hl1 hlp
  cases hk : fldOkB f with
  | false =>
    have HR := Lib.hid (show fpOkB f xs = false by rw [fpOkB, hk]; rfl)
    go_enter Tryz.func56, Tryz.ntmps56
    go_wp2_with fail
    rw [← HW.out]
    refine (fldOk_eq _ f W hfW hfit hk).mono ?_
    rintro e w1 ⟨rfl, hb1⟩
    have hd0a := cell_below hb1 hd0
    go_wp2
    go_ret
    exact ⟨ret_bool HR.out.symm, hb0.trans (hb1.mono hb0.size)⟩
  | true =>
    obtain ⟨b, hb⟩ : ∃ b, pathOkB xs f.dim = b := ⟨_, rfl⟩
    have HR := Lib.hid (show fpOkB f xs = b by rw [fpOkB, hk, hb]; rfl)
    go_enter Tryz.func56, Tryz.ntmps56
    go_wp2_with fail
    rw [← HW.out]
    refine (fldOk_eq _ f W hfW hfit hk).mono ?_
    rintro e w1 ⟨rfl, hb1⟩
    have hd0a := cell_below hb1 hd0
    have hbb := hb0.trans (hb1.mono hb0.size)
    have hxr := rdII_mono hbb h1'
    go_wp2_with (go_at_call 67; ((with_reducible refine (pathOk_lit hxr hb).mono ?_); rintro e w2 ⟨rfl, rfl⟩))
    go_ret
    exact ⟨ret_bool HR.out.symm, hbb⟩

set_option maxHeartbeats 1600000 in
theorem sFpOk_any (vf vx : Value) (f : FldZ) (xs : List (List Int)) (w : World) (hf : RdFld w vf f) (hx : RdII w vx xs) :
    Calls Tryz.prog 99 #[vf, vx] w fun e w' => e = .returned (.bool (fpOkB f xs)) ∧ Below w.heap.size w w' := by
  obtain ⟨vP, rfl, hI, hp⟩ := hf
  obtain ⟨ad1, len1, cap1, rfl, hl1, hlc1, hcm1, h1'⟩ := rdS_open hx
  obtain ⟨adp, lenp, capp, rfl, hlp, hlcp, hcmp, hp'⟩ := rdS_open hp
  obtain ⟨W, hW⟩ : ∃ W, W = w.alloc (.cells #[.int .i64 f.dim, .slice adp lenp capp] 30) := ⟨_, rfl⟩
  have hb0 : Below w.heap.size w W := hW ▸ (Below.refl _ _).alloc (Nat.le_refl _) _
  have hd0 : W.cell? ⟨w.heap.size, 0, none⟩ = some (.int .i64 f.dim) := by rw [hW]; simp
  have hd1 : W.cell? ⟨w.heap.size, 1, none⟩ = some (.slice adp lenp capp) := by rw [hW]; simp
  have HW := Lib.hid hW
  have hfW : RdFld W (.agg #[.int .i64 f.dim, .slice adp lenp capp]) f := ⟨_, rfl, hI, rdMss_mono hb0 hp'⟩
  clear hW hx hp hl1 hlp
  cases hk : fldOkB f with
  | false =>
    have HR := Lib.hid (show fpOkB f xs = false by rw [fpOkB, hk]; rfl)
    go_enter Tryz.func99, Tryz.ntmps99
    go_wp2_with fail
    rw [← HW.out]
    refine (sFldOk_eq _ f W hfW hk).mono ?_
    rintro e w1 ⟨rfl, hb1⟩
    have hd0a := cell_below hb1 hd0
    go_wp2
    go_ret
    exact ⟨ret_bool HR.out.symm, hb0.trans (hb1.mono hb0.size)⟩
  | true =>
    obtain ⟨b, hb⟩ : ∃ b, pathOkB xs f.dim = b := ⟨_, rfl⟩
    have HR := Lib.hid (show fpOkB f xs = b by rw [fpOkB, hk, hb]; rfl)
    go_enter Tryz.func99, Tryz.ntmps99
    go_wp2_with fail
    rw [← HW.out]
    refine (sFldOk_eq _ f W hfW hk).mono ?_
    rintro e w1 ⟨rfl, hb1⟩
    have hd0a := cell_below hb1 hd0
    have hbb := hb0.trans (hb1.mono hb0.size)
    have hxr := rdII_mono hbb h1'
    go_wp2_with (go_at_call 151; ((with_reducible refine (sPathOk_lit hxr hb).mono ?_); rintro e w2 ⟨rfl, rfl⟩))
    go_ret
    exact ⟨ret_bool HR.out.symm, hbb⟩
theorem fpOk_eq {b : Bool} (vf vx : Value) (f : FldZ) (xs : List (List Int)) (w : World) (hf : RdFld w vf f) (hx : RdII w vx xs) (hfit : ∀ p ∈ f.parts, ∀ m ∈ p, Fit_Mon m) (h : fpOkB f xs = b) :
    Calls Tryz.prog 56 #[vf, vx] w fun e w' => e = .returned (.bool b) ∧ Below w.heap.size w w' := h ▸ fpOk_any vf vx f xs w hf hx hfit
theorem sFpOk_eq {b : Bool} (vf vx : Value) (f : FldZ) (xs : List (List Int)) (w : World) (hf : RdFld w vf f) (hx : RdII w vx xs) (h : fpOkB f xs = b) :
    Calls Tryz.prog 99 #[vf, vx] w fun e w' => e = .returned (.bool b) ∧ Below w.heap.size w w' := h ▸ sFpOk_any vf vx f xs w hf hx

def valueL (f : FldZ) (xs : List (List Int)) : List (List Int) := if fpOkB f xs then turnZ (fldE f.parts (turnZ xs f.dim.toNat) []) xs.length else []
theorem fpOk_facts {f : FldZ} {xs : List (List Int)} (h : fpOkB f xs = true) : ∃ n : Nat, f.dim = n ∧ f.parts.length = n ∧ 1 ≤ n ∧ n ≤ 6 ∧ (∀ p ∈ f.parts, p.length ≤ 12 ∧ ∀ m ∈ p, MonFine n m) ∧ pathOkB xs n = true := by
  simp only [fpOkB, Bool.and_eq_true] at h
  obtain ⟨n, h1, h2, h3, h4, h5⟩ := fldOk_facts h.1
  exact ⟨n, h1, h2, h3, h4, h5, h1 ▸ h.2⟩
theorem fldE_row {parts : List (List MonZ)} {ys : List (List Int)} {vs : List (List (List Int))} : ∀ y ∈ fldE parts ys vs, y.length = hdL ys := fun y hy => by
  simp only [fldE, List.mem_map] at hy
  obtain ⟨p, _, rfl⟩ := hy
  exact dervP_len _ _ _ _
theorem fldD_nil {parts : List (List MonZ)} {ys : List (List Int)} {size n : Nat} (hs : size = hdL ys) (h : ∀ p ∈ parts, p.length ≤ 12 ∧ ∀ m ∈ p, MonFine n m) : fldD parts ys [] size = fldE parts ys [] := by
  refine List.map_congr_left fun p hp => ?_
  exact derL_nil hs (fine_coef (h p hp).2)

set_option maxRecDepth 100000 in
set_option maxHeartbeats 3200000 in
theorem vAlong_any (vf vx : Value) (f : FldZ) (xs : List (List Int)) (w : World) (hf : RdFld w vf f) (hx : RdII w vx xs) (hfit : ∀ p ∈ f.parts, ∀ m ∈ p, Fit_Mon m) :
    Calls Tryz.prog 38 #[vf, vx] w (Gives (fun w' v fp => OwnII 35 3 w' v (valueL f xs) fp) w) := by
  obtain ⟨vP, rfl, hI, hp⟩ := hf
  obtain ⟨ad1, len, cap, rfl, hl, hlc1, hcm1, h1'⟩ := rdS_open hx
  obtain ⟨adp, lenp, capp, rfl, hlp, hlcp, hcmp, hp'⟩ := rdS_open hp
  obtain ⟨W, hW⟩ : ∃ W, W = w.alloc (.cells #[.int .i64 f.dim, .slice adp lenp capp] 30) := ⟨_, rfl⟩
  have hb0 : Below w.heap.size w W := hW ▸ (Below.refl _ _).alloc (Nat.le_refl _) _
  have hd0 : W.cell? ⟨w.heap.size, 0, none⟩ = some (.int .i64 f.dim) := by rw [hW]; simp
  have hd1 : W.cell? ⟨w.heap.size, 1, none⟩ = some (.slice adp lenp capp) := by rw [hW]; simp
  have HW := Lib.hid hW
  have hfW : RdFld W (.agg #[.int .i64 f.dim, .slice adp lenp capp]) f := ⟨_, rfl, hI, rdMss_mono hb0 hp'⟩
  have hxW := rdII_mono hb0 h1'
  have HL := Lib.hid hl
  clear hW hx hp hl hlp
  cases hk : fpOkB f xs with
  | false =>
    have HR := Lib.hid (show valueL f xs = [] by rw [valueL, hk]; rfl)
    go_enter Tryz.func38, Tryz.ntmps38
    go_wp2_with fail
    rw [← HW.out]
    refine (fpOk_eq _ _ f xs W hfW hxW hfit hk).mono ?_
    rintro e w1 ⟨rfl, hb1⟩
    go_wp2
    go_ret
    exact ⟨_, [], rfl, by rw [HR.out]; exact ⟨[], [], World.ownsRow_nil _ _ _ _, by simp, rfl, rfl, by simp⟩, by simp, hb0.trans (hb1.mono hb0.size)⟩
  | true =>
    obtain ⟨n, f1, f2, f3, f4, f5, f6⟩ := fpOk_facts hk
    obtain ⟨q1, q2, q3, q4⟩ := pathOk_facts f6
    have htok := turn_ok f6
    rw [HL.out] at q1 q2 htok
    have hth : hdL (turnZ xs n) = len := by rw [hdL_turn (by omega), HL.out]
    have hR : valueL f xs = turnZ (fldD f.parts (turnZ xs n) [] len) len := by
      rw [valueL, hk, f1, HL.out, fldD_nil hth.symm f5]; rfl
    have hdl : (fldD f.parts (turnZ xs n) [] len).length = n := by simp [fldD, f2]
    have hdr0 : ∀ y ∈ fldD f.parts (turnZ xs n) [] len, y.length = len := fun y hy => by
      rw [fldD_nil hth.symm f5] at hy
      rw [fldE_row y hy, hth]
    have HR := Lib.hid hR
    have F2 := Lib.hid f2
    have F5 := Lib.hid f5
    have Q3 := Lib.hid q3
    have TOK := Lib.hid htok
    have HDL := Lib.hid hdl
    have HDR := Lib.hid hdr0
    have hd0n : W.cell? ⟨w.heap.size, 0, none⟩ = some (.int .i64 (n : Int)) := by rw [← f1]; exact hd0
    have F1 := Lib.hid f1
    clear hR f2 f5 f6 q3 q4 htok hdl hdr0 hth hd0 f1
    go_enter Tryz.func38, Tryz.ntmps38
    go_wp2_with fail
    rw [← HW.out]
    refine (fpOk_eq _ _ f xs W hfW hxW hfit hk).mono ?_
    rintro e w1 ⟨rfl, hb1⟩
    have hd0a := cell_below hb1 hd0n
    have hd1a := cell_below hb1 hd1
    have hbb := hb0.trans (hb1.mono hb0.size)
    have hdr : Below w1.heap.size w1 w1.drew := (Below.refl _ _).drew
    have hbd := hbb.trans (hdr.mono hbb.size)
    have hfd : RdFld w1.drew (.agg #[.int .i64 (n : Int), .slice adp lenp capp]) f := ⟨_, by rw [F1.out], hI, rdMss_mono hbd hp'⟩
    have J1 := Lib.hid (jets_any _ xs n w1.drew (rdII_mono hbd h1') (by omega) (by rw [HL.out]; exact q2) Q3.out)
    have HBB := Lib.hid hbb
    have HFD := Lib.hid hfd
    clear hd0n hd1 hbd hxW hfW hfd hbb
    go_wp2
    go_region_law (go_simp; first | (go_at_call 61; (with_reducible refine (J1.out).mono ?_); rintro e wa ⟨p1, fp1, rfl, hop1, hfp1, hba⟩; have hra := hdr.trans (hba.mono hdr.size); have hd0b := cell_below hra hd0a; have hd1b := cell_below hra hd1a) | (go_at_call 64; have A1 := fieldAlong_any _ _ (.slice none 0 0) f (turnZ xs n) [] n len _ (rdFld_mono hba HFD.out) (ownII_rd hop1) (rdIII_nil _) F2.out F5.out f3 f4 q1 q2 (turnZ_len _ _) TOK.out (by simp) (by simp); (with_reducible refine A1.mono ?_); rintro e wb ⟨p2, fp2, rfl, hop2, hfp2, hbb⟩) | (go_at_call 58; have A2 := points_any _ (fldD f.parts (turnZ xs n) [] len) len _ (ownII_rd hop2) q2 (by rw [HDL.out]; omega) HDR.out; (with_reducible refine A2.mono ?_); rintro e wc ⟨p3, fp3, rfl, hop3, hfp3, hbc⟩))
    all_goals (
      have hrc := hra.trans ((hbb.trans (hbc.mono hbb.size)).mono hra.size)
      have hrw := HBB.out.trans (hrc.mono HBB.out.size)
      have hn3 : ∀ b ∈ fp3, w.heap.size ≤ b := fun b hb' => by { have := hfp3 b hb'; have := hbb.size; have := hra.size; have := HBB.out.size; omega }
      have HO3 := Lib.hid hop3
      have HRW := Lib.hid hrw
      have HN3 := Lib.hid hn3
      clear hop1 hop2 hop3 hba hbb hbc hra hrc hrw A1 A2 hfp1 hfp2 hfp3 hn3 hd0a hd1a hd0b hd1b
      go_wp2
      go_ret
      exact ⟨_, fp3, rfl, by rw [HR.out]; exact HO3.out, HN3.out, HRW.out⟩)

set_option maxRecDepth 100000 in
set_option maxHeartbeats 3200000 in
theorem sVAlong_any (vf vx : Value) (f : FldZ) (xs : List (List Int)) (w : World) (hf : RdFld w vf f) (hx : RdII w vx xs) :
    Calls Tryz.prog 39 #[vf, vx] w (Gives (fun w' v fp => OwnII 35 3 w' v (valueL f xs) fp) w) := by
  obtain ⟨vP, rfl, hI, hp⟩ := hf
  obtain ⟨ad1, len, cap, rfl, hl, hlc1, hcm1, h1'⟩ := rdS_open hx
  obtain ⟨adp, lenp, capp, rfl, hlp, hlcp, hcmp, hp'⟩ := rdS_open hp
  obtain ⟨W, hW⟩ : ∃ W, W = w.alloc (.cells #[.int .i64 f.dim, .slice adp lenp capp] 30) := ⟨_, rfl⟩
  have hb0 : Below w.heap.size w W := hW ▸ (Below.refl _ _).alloc (Nat.le_refl _) _
  have hd0 : W.cell? ⟨w.heap.size, 0, none⟩ = some (.int .i64 f.dim) := by rw [hW]; simp
  have hd1 : W.cell? ⟨w.heap.size, 1, none⟩ = some (.slice adp lenp capp) := by rw [hW]; simp
  have HW := Lib.hid hW
  have hfW : RdFld W (.agg #[.int .i64 f.dim, .slice adp lenp capp]) f := ⟨_, rfl, hI, rdMss_mono hb0 hp'⟩
  have hxW := rdII_mono hb0 h1'
  have HL := Lib.hid hl
  clear hW hx hp hl hlp
  cases hk : fpOkB f xs with
  | false =>
    have HR := Lib.hid (show valueL f xs = [] by rw [valueL, hk]; rfl)
    go_enter Tryz.func39, Tryz.ntmps39
    go_wp2_with fail
    rw [← HW.out]
    refine (sFpOk_eq _ _ f xs W hfW hxW hk).mono ?_
    rintro e w1 ⟨rfl, hb1⟩
    go_wp2
    go_ret
    exact ⟨_, [], rfl, by rw [HR.out]; exact ⟨[], [], World.ownsRow_nil _ _ _ _, by simp, rfl, rfl, by simp⟩, by simp, hb0.trans (hb1.mono hb0.size)⟩
  | true =>
    obtain ⟨n, f1, f2, f3, f4, f5, f6⟩ := fpOk_facts hk
    obtain ⟨q1, q2, q3, q4⟩ := pathOk_facts f6
    have htok := turn_ok f6
    rw [HL.out] at q1 q2 htok
    have hth : hdL (turnZ xs n) = len := by rw [hdL_turn (by omega), HL.out]
    have hR : valueL f xs = turnZ (fldE f.parts (turnZ xs n) []) len := by rw [valueL, hk, f1, HL.out]; rfl
    have hdl : (fldE f.parts (turnZ xs n) []).length = n := by simp [fldE, f2]
    have hdr0 : ∀ y ∈ fldE f.parts (turnZ xs n) [], y.length = len := fun y hy => by rw [fldE_row y hy, hth]
    have HR := Lib.hid hR
    have F2 := Lib.hid f2
    have F5 := Lib.hid f5
    have Q3 := Lib.hid q3
    have TOK := Lib.hid htok
    have HDL := Lib.hid hdl
    have HDR := Lib.hid hdr0
    have hd0n : W.cell? ⟨w.heap.size, 0, none⟩ = some (.int .i64 (n : Int)) := by rw [← f1]; exact hd0
    have F1 := Lib.hid f1
    have hxl : 0 < xs.length := by rw [HL.out]; exact q1
    clear hR f2 f5 f6 q3 q4 htok hdl hdr0 hth hd0 f1
    go_enter Tryz.func39, Tryz.ntmps39
    go_wp2_with fail
    rw [← HW.out]
    refine (sFpOk_eq _ _ f xs W hfW hxW hk).mono ?_
    rintro e w1 ⟨rfl, hb1⟩
    have hd0a := cell_below hb1 hd0n
    have hd1a := cell_below hb1 hd1
    have hbb := hb0.trans (hb1.mono hb0.size)
    have hdr : Below w1.heap.size w1 w1.drew := (Below.refl _ _).drew
    have hbd := hbb.trans (hdr.mono hbb.size)
    have hfd : RdFld w1.drew (.agg #[.int .i64 (n : Int), .slice adp lenp capp]) f := ⟨_, by rw [F1.out], hI, rdMss_mono hbd hp'⟩
    have J1 := Lib.hid (l8Turn_any _ xs n w1.drew (rdII_mono hbd h1') hxl (by omega) (by rw [HL.out]; exact q2) Q3.out)
    have HBB := Lib.hid hbb
    have HFD := Lib.hid hfd
    clear hd0n hd1 hbd hxW hfW hfd hbb hxl
    go_wp2
    go_region_law (go_simp; first | (go_at_call 100; first | ((with_reducible refine (J1.out).mono ?_); rintro e wa ⟨p1, fp1, rfl, hop1, hfp1, hba⟩; have hra := hdr.trans (hba.mono hdr.size); have hd0b := cell_below hra hd0a; have hd1b := cell_below hra hd1a) | (have A2 := l8Turn_any _ (fldE f.parts (turnZ xs n) []) len _ (ownII_rd hop2) (by rw [HDL.out]; omega) (by omega) (by rw [HDL.out]; omega) HDR.out; (with_reducible refine A2.mono ?_); rintro e wc ⟨p3, fp3, rfl, hop3, hfp3, hbc⟩)) | (go_at_call 101; have A1 := l8Der_any _ _ (.slice none 0 0) f (turnZ xs n) [] n len _ (rdFld_mono hba HFD.out) (ownII_rd hop1) (rdIII_nil _) F1.out F2.out F5.out f3 f4 q1 q2 (turnZ_len _ _) TOK.out (by simp); (with_reducible refine A1.mono ?_); rintro e wb ⟨p2, fp2, rfl, hop2, hfp2, hbb⟩))
    all_goals (
      have hrc := hra.trans ((hbb.trans (hbc.mono hbb.size)).mono hra.size)
      have hrw := HBB.out.trans (hrc.mono HBB.out.size)
      have hn3 : ∀ b ∈ fp3, w.heap.size ≤ b := fun b hb' => by { have := hfp3 b hb'; have := hbb.size; have := hra.size; have := HBB.out.size; omega }
      have HO3 := Lib.hid hop3
      have HRW := Lib.hid hrw
      have HN3 := Lib.hid hn3
      clear hop1 hop2 hop3 hba hbb hbc hra hrc hrw A1 A2 hfp1 hfp2 hfp3 hn3 hd0a hd1a hd0b hd1b
      go_wp2
      go_ret
      exact ⟨_, fp3, rfl, by rw [HR.out]; exact HO3.out, HN3.out, HRW.out⟩)
end Go.Proofs.YtbcjhpgkodeoeaaGreatDoor

/- From the form's readings of arguments to the readings of these proofs, over any program. Conditions: none. -/
namespace Go.Proofs.YtbcjhpgkodeoeaaGreatDoor
open Go.ChangeShapes Go.WideShapes Go.ChangeAt Go.RowKit Go.Deep Go.Joins

theorem add_eq (b o j : Nat) : (⟨b, o, none⟩ : Addr).add j = ⟨b, o + j, none⟩ := by
  by_cases h : j = 0 <;> simp [Addr.add, h]

section
variable {H : Type} {enc : TypeId × Value → H} {P : Program} {w : World} {base : Nat} {held : Bool}

theorem rdS_of_trod {α : Type} [Inhabited α] {size : Nat} {El : World → List Value → α → Prop} {t e : TypeId} {fuel : Nat} {cs : List Value} {x : DataW H × List MemPlace}
    (ht : P.underlying t = some (.slice e)) (hC : P.cellsOf e = size) (hs : 0 < size)
    (hel : ∀ n cs' y, DataW.trod enc P w base (fun _ => true) held n e cs' = some y → ∃ x : α, El w cs' x)
    (h : DataW.trod enc P w base (fun _ => true) held fuel t cs = some x) : ∃ v xs, cs = [v] ∧ RdS size El w v xs := by
  rcases open_slice ht h with ⟨h0, _⟩ | ⟨a, len, cap, m, n, D, Pl, hcs, hb, hl, hm, hmm, hx, hi⟩
  · exact ⟨_, [], h0, none, 0, rfl, Nat.le_refl _, by omega, fun hp => by simp at hp⟩
  · simp only [if_true] at hmm
    subst hmm
    rw [hC] at hi
    have each : ∀ i, i < len → ∃ y : List Value × α, y.1.length = size ∧ (∀ j, j < size → w.cell? ((a.add (i * size)).add j) = y.1[j]?) ∧ El w y.1 y.2 := by
      intro i hil
      obtain ⟨cs', hc, ht'⟩ := hi i (by omega)
      obtain ⟨_, hcl, hat⟩ := World.cells?_some hc
      obtain ⟨x, hx⟩ := hel _ _ _ ht'
      exact ⟨(cs', x), hcl, fun j hj => hat j hj, hx⟩
    obtain ⟨f, hf⟩ := choose_lt each
    refine ⟨_, (List.range len).map fun i => (f i).2, hcs, _, m, by rw [List.length_map, List.length_range], by simpa using hl, by unfold maxLen at hm; simpa using hm, fun hp => ?_⟩
    simp at hp
    obtain ⟨b, off, spot⟩ := a
    have hc0 := (hf 0 hp).2.1 0 hs
    have h1 := (hf 0 hp).1
    rw [List.getElem?_eq_getElem (by omega)] at hc0
    have hspot : spot = none := by simpa [Addr.add] using World.cell?_spot hc0
    subst hspot
    refine ⟨b, off, rfl, fun i x hx => ?_⟩
    simp only [List.getElem?_map, Option.map_eq_some_iff] at hx
    obtain ⟨i', hi', rfl⟩ := hx
    obtain ⟨hil, rfl⟩ := List.getElem?_eq_some_iff.1 hi'
    simp only [List.length_range] at hil
    simp only [List.getElem_range]
    obtain ⟨h2, h3, h4⟩ := hf i hil
    refine ⟨_, h2, fun j u hj => ?_, h4⟩
    have := h3 j (by have := (List.getElem?_eq_some_iff.1 hj).1; omega)
    rw [hj] at this
    rwa [add_eq, add_eq] at this

theorem elI_of_trod {e : TypeId} (he : P.underlying e = some (.int .i64)) {spare : Nat → Bool} (n : Nat) (cs : List Value) (y : DataW H × List MemPlace)
    (h : DataW.trod enc P w base spare held n e cs = some y) : ∃ x : Int, ElI w cs x := by
  obtain ⟨x, rfl, _, hw⟩ := DataW.trod_int he h
  exact ⟨x, rfl, bounds_i64 hw⟩

theorem elII_of_trod {t e : TypeId} (ht : P.underlying t = some (.slice e)) (he : P.underlying e = some (.int .i64)) (hC : P.cellsOf e = 1) (n : Nat) (cs : List Value) (y : DataW H × List MemPlace)
    (h : DataW.trod enc P w base (fun _ => true) held n t cs = some y) : ∃ x : List Int, ElII w cs x := by
  obtain ⟨v, xs, rfl, hx⟩ := rdS_of_trod ht hC (by omega) (elI_of_trod he) h
  exact ⟨xs, v, rfl, hx⟩

/-- An argument that is a slice. -/
theorem rdS_of_arg {α : Type} [Inhabited α] {size : Nat} {El : World → List Value → α → Prop} {t e : TypeId} {v : Value} {d : DataW H} {p : List MemPlace} {r : Reach} {b0 : Nat}
    (ht : P.underlying t = some (.slice e)) (hC : P.cellsOf e = size) (hs : 0 < size)
    (hel : ∀ n cs' y, DataW.trod enc P w base (fun _ => true) held n e cs' = some y → ∃ x : α, El w cs' x)
    (hval : Value.okWide P w r b0 t v) (h : DataW.Trod enc P w base (fun _ => true) held t v d p) : ∃ xs, RdS size El w v xs := by
  obtain ⟨a0, len, cap, rfl⟩ := okWide_slice ht hval
  obtain ⟨fuel, hf⟩ := h
  obtain ⟨v, xs, hcs, h⟩ := rdS_of_trod ht hC hs hel hf
  simp [Value.cells] at hcs
  subst hcs
  exact ⟨xs, h⟩

theorem int_of_arg {t : TypeId} {v : Value} {d : DataW H} {p : List MemPlace} {r : Reach} {b0 : Nat} {spare : Nat → Bool}
    (ht : P.underlying t = some (.int .i64)) (hval : Value.okWide P w r b0 t v) (h : DataW.Trod enc P w base spare held t v d p) : ∃ n : Int, v = .int .i64 n ∧ I64 n := by
  obtain ⟨n, rfl, rfl, rfl, hw⟩ := open_int ht hval h
  exact ⟨n, rfl, bounds_i64 hw⟩
end
end Go.Proofs.YtbcjhpgkodeoeaaGreatDoor

/- Closed facts on the program that every row's step wants. Conditions: none. -/
namespace Go.Proofs.YtbcjhpgkodeoeaaGreatDoor
theorem Tryz.own : ownKnob Tryz.prog.godebug = none := by kernel_rfl
theorem Tryz.laidOut : laidOutB Tryz.prog = true := by kernel_rfl
theorem Tryz.cells_int : Tryz.prog.cellsOf 3 = 1 := by kernel_rfl
theorem Tryz.cells_ints : Tryz.prog.cellsOf 35 = 1 := by kernel_rfl
end Go.Proofs.YtbcjhpgkodeoeaaGreatDoor
