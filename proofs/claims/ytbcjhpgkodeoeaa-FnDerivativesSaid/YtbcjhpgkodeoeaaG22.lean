/- The texts RedP, TOk, SolR in one: each says at its head what it proves. Conditions: as said there. -/
import Derived.Test.YtbcjhpgkodeoeaaG21
import Derived.Test.YtbcjhpgkodeoeaaG02
import Derived.Test.YtbcjhpgkodeoeaaG06
import Derived.Test.YtbcjhpgkodeoeaaG05
import Derived.Test.YtbcjhpgkodeoeaaG18
set_option linter.unusedSimpArgs false
set_option linter.unusedVariables false
/- Rows brought to a reduced form, as a function; systems solved by it. Plain: no program's step stands here. -/
namespace Go.Proofs.Ytbcjhpgkodeoeaa

/-- the first row from r on that is not zero in the column k -/
def pivO (m : List (List Int)) (r k : Nat) : Option Nat := (List.range m.length).find? fun i => decide (r ≤ i) && decide (atZ (atL m i) k ≠ 0)
theorem pivO_none {m : List (List Int)} {r k : Nat} (h : ∀ i, r ≤ i → i < m.length → atZ (atL m i) k = 0) : pivO m r k = none := by
  rw [pivO, List.find?_eq_none]
  intro i hi
  have hi : i < m.length := by simpa using hi
  simp only [Bool.and_eq_true, decide_eq_true_eq, not_and, ne_eq, Decidable.not_not]
  exact fun hr => h i hr hi
theorem pivO_some {m : List (List Int)} {r k i : Nat} (h1 : r ≤ i) (h2 : i < m.length) (h3 : atZ (atL m i) k ≠ 0) (h4 : ∀ j, r ≤ j → j < i → atZ (atL m j) k = 0) : pivO m r k = some i := by
  rw [pivO, List.find?_range_eq_some]
  refine ⟨by simp [h1, h3], by simpa using h2, fun j hj => ?_⟩
  by_cases hr : r ≤ j
  · simp [h4 j hr hj]
  · simp [hr]
/-- k columns are looked at: the rows, and where the pivots are -/
def redS (m : List (List Int)) : Nat → List (List Int) × List Nat
  | 0 => (m, [])
  | k + 1 => match pivO (redS m k).1 (redS m k).2.length k with
    | none => redS m k
    | some i => (stepR (redS m k).1 i (redS m k).2.length k, (redS m k).2 ++ [k])
theorem redS_none {m : List (List Int)} {k : Nat} (h : pivO (redS m k).1 (redS m k).2.length k = none) : redS m (k + 1) = redS m k := by rw [redS, h]
theorem redS_some {m : List (List Int)} {k i : Nat} (h : pivO (redS m k).1 (redS m k).2.length k = some i) : redS m (k + 1) = (stepR (redS m k).1 i (redS m k).2.length k, (redS m k).2 ++ [k]) := by rw [redS, h]
theorem redS_full {m : List (List Int)} {k : Nat} (h : (redS m k).1.length ≤ (redS m k).2.length) : ∀ j, k ≤ j → redS m j = redS m k
  | 0, hj => by rw [show k = 0 by omega]
  | j + 1, hj => by
    by_cases hk : k = j + 1
    · rw [hk]
    · have ih := redS_full h j (by omega)
      rw [redS_none (by rw [ih]; exact pivO_none fun i h1 h2 => by omega), ih]
theorem stepR_len (m : List (List Int)) (i r k : Nat) : (stepR m i r k).length = m.length := by simp [stepR, elimA_len, scaleA, swapR_len]
theorem pivO_spec {m : List (List Int)} {r k i : Nat} (h : pivO m r k = some i) : r ≤ i ∧ i < m.length ∧ atZ (atL m i) k ≠ 0 := by
  rw [pivO, List.find?_range_eq_some] at h
  obtain ⟨h1, h2, _⟩ := h
  simp only [Bool.and_eq_true, decide_eq_true_eq] at h1
  exact ⟨h1.1, by simpa using h2, h1.2⟩
theorem pivO_miss {m : List (List Int)} {r k : Nat} (h : pivO m r k = none) : ∀ i, r ≤ i → i < m.length → atZ (atL m i) k = 0 := fun i h1 h2 => by
  rw [pivO, List.find?_eq_none] at h
  have := h i (by simpa using h2)
  simp only [Bool.and_eq_true, decide_eq_true_eq, not_and, ne_eq, Decidable.not_not] at this
  exact this h1
/-- rows of one length, of numbers -/
def RowsOk (c : Nat) (m : List (List Int)) : Prop := ∀ i, i < m.length → (atL m i).length = c ∧ Nums (atL m i)
theorem RowsOk.swap {c i r : Nat} {m : List (List Int)} (h : RowsOk c m) (hi : i < m.length) (hr : r < m.length) : RowsOk c (swapR m i r) := fun q hq => by
  rw [swapR_len] at hq
  rw [swapR_at hi hr]
  split
  · exact h i hi
  · split
    · exact h r hr
    · exact h q hq
theorem RowsOk.scale {c r k : Nat} {m : List (List Int)} (h : RowsOk c m) (hr : r < m.length) : RowsOk c (scaleA m r k) := fun q hq => by
  have hl : (scaleA m r k).length = m.length := by simp [scaleA]
  rw [scaleA, atL_set hr]
  split
  · exact ⟨by rw [scaleR, List.length_map]; exact (h r hr).1, nums_scale _ _⟩
  · exact h q (by omega)
theorem RowsOk.elim {c r k t : Nat} {m : List (List Int)} (h : RowsOk c m) (ht : t ≤ m.length) : RowsOk c (elimA m r k t) := fun q hq => by
  rw [elimA_len] at hq
  rw [elimA_at q t ht]
  split
  · exact ⟨by simp [elimR, (h q hq).1], nums_elim _ _ _⟩
  · exact h q hq
theorem RowsOk.step {c i r k : Nat} {m : List (List Int)} (h : RowsOk c m) (hi : i < m.length) (hr : r < m.length) : RowsOk c (stepR m i r k) := by
  have h1 := (h.swap hi hr).scale (k := k) (by rw [swapR_len]; exact hr)
  have hl : (scaleA (swapR m i r) r k).length = m.length := by simp [scaleA, swapR_len]
  exact h1.elim (by rw [hl]; exact Nat.le_refl _)
theorem redS_ok {c : Nat} {m : List (List Int)} (h : RowsOk c m) : ∀ k, RowsOk c (redS m k).1 ∧ (redS m k).1.length = m.length ∧ (redS m k).2.length ≤ k ∧ (redS m k).2.length ≤ m.length ∧ ∀ x ∈ (redS m k).2, x < k
  | 0 => ⟨h, rfl, Nat.le_refl _, Nat.zero_le _, by simp [redS]⟩
  | k + 1 => by
    obtain ⟨h1, h2, h3, h4, h5⟩ := redS_ok h k
    cases hp : pivO (redS m k).1 (redS m k).2.length k with
    | none =>
      rw [redS_none hp]
      exact ⟨h1, h2, by omega, h4, fun x hx => by have := h5 x hx; omega⟩
    | some i =>
      obtain ⟨g1, g2, _⟩ := pivO_spec hp
      rw [redS_some hp]
      refine ⟨h1.step g2 (by omega), by simp only [stepR_len]; exact h2, by simp; omega, by simp; omega, fun x hx => ?_⟩
      simp at hx
      rcases hx with hx | rfl
      · have := h5 x hx; omega
      · omega
/-- What is kept by it. -/
theorem redS_inv {X : Nat → Int} {c : Nat} {m : List (List Int)} (h : RedInv X c 0 0 m) : ∀ k, k ≤ c → RedInv X c k (redS m k).2.length (redS m k).1
  | 0, _ => h
  | k + 1, hk => by
    have ih := redS_inv h k (by omega)
    cases hp : pivO (redS m k).1 (redS m k).2.length k with
    | none => rw [redS_none hp]; exact ih.skip (pivO_miss hp)
    | some i =>
      obtain ⟨g1, g2, g3⟩ := pivO_spec hp
      rw [redS_some hp]
      have := (ih.step g2 g1 (by omega) g3).1
      simpa using this

/-- a row whose first j numbers are new -/
def preR (f : Nat → Int → Int) (row : List Int) (j : Nat) : List Int := (List.range row.length).map fun i => if i < j then f i (atZ row i) else atZ row i
theorem preR_len (f : Nat → Int → Int) (row : List Int) (j : Nat) : (preR f row j).length = row.length := by simp [preR]
theorem preR_get {f : Nat → Int → Int} {row : List Int} {j i : Nat} (h : i < row.length) : (preR f row j)[i]? = some (if i < j then f i (atZ row i) else atZ row i) := by simp [preR, h]
theorem preR_zero (f : Nat → Int → Int) (row : List Int) : preR f row 0 = row := by
  refine List.ext_getElem? fun i => ?_
  by_cases h : i < row.length
  · rw [preR_get h, if_neg (by omega), atZ_get (List.getElem?_eq_getElem h), List.getElem?_eq_getElem h]
  · rw [List.getElem?_eq_none (by rw [preR_len]; omega), List.getElem?_eq_none (by omega)]
theorem preR_next {f : Nat → Int → Int} {row : List Int} {j : Nat} (h : j < row.length) : (preR f row j).set j (f j (atZ row j)) = preR f row (j + 1) := by
  refine List.ext_getElem? fun i => ?_
  by_cases hi : i < row.length
  · rw [preR_get hi]
    by_cases hij : i = j
    · subst hij
      rw [List.getElem?_set_self (by rw [preR_len]; exact hi), if_pos (by omega)]
    · rw [List.getElem?_set_ne (fun h => hij h.symm), preR_get hi]
      by_cases h2 : i < j
      · rw [if_pos h2, if_pos (by omega)]
      · rw [if_neg h2, if_neg (by omega)]
  · rw [List.getElem?_eq_none (by rw [List.length_set, preR_len]; omega), List.getElem?_eq_none (by rw [preR_len]; omega)]
theorem preR_scale (row : List Int) (x : Int) : preR (fun _ a => timesZ a x) row row.length = scaleR row x := by
  refine List.ext_getElem? fun i => ?_
  by_cases hi : i < row.length
  · rw [preR_get hi, if_pos hi]
    simp [scaleR, atZ, hi]
  · rw [List.getElem?_eq_none (by rw [preR_len]; omega), List.getElem?_eq_none (by simp [scaleR]; omega)]
theorem preR_elim (row pr : List Int) (y : Int) : preR (fun j a => minusZ a (timesZ y (atZ pr j))) row row.length = elimR row pr y := by
  refine List.ext_getElem? fun i => ?_
  by_cases hi : i < row.length
  · rw [preR_get hi, if_pos hi]
    simp [elimR, hi]
  · rw [List.getElem?_eq_none (by rw [preR_len]; omega), List.getElem?_eq_none (by simp [elimR]; omega)]
end Go.Proofs.Ytbcjhpgkodeoeaa

/- The tests on tableaus, of the program and of the reference: what they return. Conditions: none. -/
namespace Go.Proofs.Ytbcjhpgkodeoeaa
open Go.RowKit Go.Sort

def stB (s : Int) : Bool := decide (0 ≤ s ∧ s ≤ 8)
def tabOkB (t : TabZ) : Bool := stB t.stages && decide ((t.A.length : Int) = t.stages * t.stages) && decide ((t.B.length : Int) = t.stages) && t.A.all isNumB && t.B.all isNumB
theorem tab_st {t : TabZ} (h : stB t.stages = false) : tabOkB t = false := by simp [tabOkB, h]
theorem tab_A {t : TabZ} (h : (t.A.length : Int) ≠ t.stages * t.stages) : tabOkB t = false := by simp [tabOkB, h]
theorem tab_B {t : TabZ} (h : (t.B.length : Int) ≠ t.stages) : tabOkB t = false := by simp [tabOkB, h]
theorem tab_nA {t : TabZ} (h : t.A.all isNumB = false) : tabOkB t = false := by rw [tabOkB, h]; simp
theorem tab_nB {t : TabZ} (h : t.B.all isNumB = false) : tabOkB t = false := by rw [tabOkB, h]; simp
theorem tab_yes {t : TabZ} (h0 : stB t.stages = true) (h1 : (t.A.length : Int) = t.stages * t.stages) (h2 : (t.B.length : Int) = t.stages) (h3 : t.A.all isNumB = true) (h4 : t.B.all isNumB = true) : tabOkB t = true := by
  rw [tabOkB, h0, h3, h4, decide_eq_true h1, decide_eq_true h2]; rfl
theorem sq_bd {s : Int} (h0 : 0 ≤ s) (h1 : s ≤ 8) : 0 ≤ s * s ∧ s * s ≤ 64 := by
  have := Int.mul_nonneg h0 h0
  have := Int.mul_le_mul h1 h1 h0 (by omega : (0:Int) ≤ 8)
  omega
theorem allNumbers_eq {b : Bool} (v : Value) (xs : List Int) (w : World) (h : RdI w v xs) (hb : xs.all isNumB = b) :
    Calls Try.prog 34 #[v] w fun e w' => e = .returned (.bool b) ∧ w = w' := hb ▸ allNumbers_any v xs w h
theorem l1All_eq {b : Bool} (v : Value) (xs : List Int) (w : World) (h : RdI w v xs) (hb : xs.all isNumB = b) :
    Calls Try.prog 58 #[v] w fun e w' => e = .returned (.bool b) ∧ w = w' := hb ▸ l1All_any v xs w h
theorem l1In_eq' {n lo hi : Int} {b : Bool} (h : inB n lo hi = b) (w : World) : Calls Try.prog 67 #[.int .i64 n, .int .i64 lo, .int .i64 hi] w fun e w' => e = .returned (.bool b) ∧ w = w' := h ▸ l1In_any n lo hi w

set_option maxHeartbeats 1600000 in
theorem sTabOk_any (v : Value) (t : TabZ) (w : World) (h : RdTab w v t) :
    Calls Try.prog 49 #[v] w fun e w' => e = .returned (.bool (tabOkB t)) ∧ Below w.heap.size w w' := by
  obtain ⟨vA, vB, rfl, hI, hA, hB⟩ := h
  have hb0 : Below w.heap.size w (w.alloc (.cells #[.int .i64 t.stages, vA, vB] 26)) := (Below.refl _ _).alloc (Nat.le_refl _) _
  have gA := rdI_mono hb0 hA
  have gB := rdI_mono hb0 hB
  obtain ⟨aA, nA, cA, rfl, lA, _, _, _⟩ := rdS_open hA
  obtain ⟨aB, nB, cB, rfl, lB, _, _, _⟩ := rdS_open hB
  have LA := Lib.hid lA
  have LB := Lib.hid lB
  clear hA hB lA lB
  cases hst : stB t.stages with
  | false =>
    have hstI : inB t.stages 0 8 = false := hst
    have HT := Lib.hid (tab_st hst)
    go_enter Try.func49, Try.ntmps49
    go_wp2_with (go_at_call 67; ((with_reducible refine (l1In_eq' hstI _).mono ?_); rintro e w' ⟨rfl, rfl⟩))
    go_ret
    exact ⟨ret_bool (by rw [HT.out]), hb0⟩
  | true =>
  have hstI : inB t.stages 0 8 = true := hst
  have h08 : 0 ≤ t.stages ∧ t.stages ≤ 8 := by simpa [stB] using hst
  obtain ⟨h0, h8⟩ := h08
  obtain ⟨q0, q1⟩ := sq_bd h0 h8
  by_cases hAl : (nA : Int) = t.stages * t.stages
  case neg =>
    have HT := Lib.hid (tab_A (t := t) (by rw [LA.out]; exact hAl))
    have hAb : ((nA : Int) == t.stages * t.stages) = false := by simpa using hAl
    clear hAl
    go_enter Try.func49, Try.ntmps49
    go_wp2_with (go_at_call 67; ((with_reducible refine (l1In_eq' hstI _).mono ?_); rintro e w' ⟨rfl, rfl⟩))
    go_ret
    exact ⟨ret_bool (by rw [HT.out]), hb0⟩
  have HA := Lib.hid hAl
  have hAb : ((nA : Int) == t.stages * t.stages) = true := by simpa using hAl
  clear hAl
  by_cases hBl : (nB : Int) = t.stages
  case neg =>
    have HT := Lib.hid (tab_B (t := t) (by rw [LB.out]; exact hBl))
    have hBb : ((nB : Int) == t.stages) = false := by simpa using hBl
    clear hBl
    go_enter Try.func49, Try.ntmps49
    go_wp2_with (go_at_call 67; ((with_reducible refine (l1In_eq' hstI _).mono ?_); rintro e w' ⟨rfl, rfl⟩))
    go_ret
    exact ⟨ret_bool (by rw [HT.out]), hb0⟩
  have HB := Lib.hid hBl
  have hBb : ((nB : Int) == t.stages) = true := by simpa using hBl
  clear hBl
  cases hnA : t.A.all isNumB with
  | false =>
    have HT := Lib.hid (tab_nA hnA)
    go_enter Try.func49, Try.ntmps49
    go_wp2_with (first | (go_at_call 67; ((with_reducible refine (l1In_eq' hstI _).mono ?_); rintro e w' ⟨rfl, rfl⟩)) | (go_at_call 58; ((with_reducible refine (l1All_eq _ t.A _ gA hnA).mono ?_); rintro e w' ⟨rfl, rfl⟩)))
    go_ret
    exact ⟨ret_bool (by rw [HT.out]), hb0⟩
  | true =>
  cases hnB : t.B.all isNumB with
  | false =>
    have HT := Lib.hid (tab_nB hnB)
    go_enter Try.func49, Try.ntmps49
    go_wp2_with (go_at_call 67; ((with_reducible refine (l1In_eq' hstI _).mono ?_); rintro e w' ⟨rfl, rfl⟩))
    refine (l1All_eq _ t.A _ gA hnA).mono ?_
    rintro e w' ⟨rfl, rfl⟩
    go_wp2_with fail
    refine (l1All_eq _ t.B _ gB hnB).mono ?_
    rintro e w' ⟨rfl, rfl⟩
    go_wp2
    go_ret
    exact ⟨ret_bool (by rw [HT.out]), hb0⟩
  | true =>
    have HT := Lib.hid (tab_yes hst (by rw [LA.out]; exact HA.out) (by rw [LB.out]; exact HB.out) hnA hnB)
    go_enter Try.func49, Try.ntmps49
    go_wp2_with fail
    refine (l1In_eq' hstI _).mono ?_
    rintro e w' ⟨rfl, rfl⟩
    go_wp2_with fail
    refine (l1All_eq _ t.A _ gA hnA).mono ?_
    rintro e w' ⟨rfl, rfl⟩
    go_wp2_with fail
    refine (l1All_eq _ t.B _ gB hnB).mono ?_
    rintro e w' ⟨rfl, rfl⟩
    go_wp2
    go_ret
    exact ⟨ret_bool (by rw [HT.out]), hb0⟩
theorem sTabOk_eq {b : Bool} (v : Value) (t : TabZ) (w : World) (h : RdTab w v t) (hb : tabOkB t = b) :
    Calls Try.prog 49 #[v] w fun e w' => e = .returned (.bool b) ∧ Below w.heap.size w w' := hb ▸ sTabOk_any v t w h
theorem idx_lt {n i j : Nat} (hi : i < n) (hj : j < n) : i * n + j < n * n := by
  have : (i + 1) * n ≤ n * n := Nat.mul_le_mul_right n hi
  rw [Nat.succ_mul] at this
  omega
theorem idx_bd {n i j : Nat} (hi : i < n) (hj : j < n) (hn : n ≤ 8) : 0 ≤ (i : Int) * n ∧ (i : Int) * n ≤ 64 ∧ 0 ≤ (i : Int) * n + j ∧ (i : Int) * n + j ≤ 72 ∧ ((i : Int) * n + j).toNat = i * n + j := by
  have h1 : i * n ≤ 8 * 8 := Nat.mul_le_mul (by omega) hn
  have h2 : ((i * n : Nat) : Int) = (i : Int) * n := by simp
  omega
/-- What a fine tableau is, in numbers. -/
theorem tabOk_num {t : TabZ} (h : tabOkB t = true) : t.stages = (t.B.length : Int) ∧ t.A.length = t.B.length * t.B.length ∧ t.B.length ≤ 8 := by
  simp only [tabOkB, stB, Bool.and_eq_true, decide_eq_true_eq] at h
  obtain ⟨⟨⟨⟨⟨h0, h8⟩, hA⟩, hB⟩, _⟩, _⟩ := h
  refine ⟨hB.symm, ?_, by omega⟩
  rw [← hB] at hA
  have : ((t.B.length * t.B.length : Nat) : Int) = (t.B.length : Int) * t.B.length := by simp
  omega
end Go.Proofs.Ytbcjhpgkodeoeaa

/- The reference's test of the rows of a system; their copy. Conditions: none. -/
namespace Go.Proofs.Ytbcjhpgkodeoeaa
open Go.RowKit

def rowB (n : Nat) (r : List Int) : Bool := decide (r.length = n) && r.all isNumB
def rowsB (rows : List (List Int)) : Bool := inB rows.length 1 40 && (inB (atL rows 0).length 1 40 && rows.all (rowB (atL rows 0).length))
theorem rowsB_no1 {rows : List (List Int)} (h : inB rows.length 1 40 = false) : rowsB rows = false := by simp [rowsB, h]
theorem rowsB_no2 {rows : List (List Int)} (h : inB (atL rows 0).length 1 40 = false) : rowsB rows = false := by simp [rowsB, h]
theorem rowsB_no3 {rows : List (List Int)} {k : Nat} {r : List Int} (hr : rows[k]? = some r) (h : rowB (atL rows 0).length r = false) : rowsB rows = false := by
  rw [rowsB, all_false hr h]; simp
theorem rowsB_yes {rows : List (List Int)} (h1 : inB rows.length 1 40 = true) (h2 : inB (atL rows 0).length 1 40 = true) {k : Nat} (hk : rows.length ≤ k) (h3 : (rows.take k).all (rowB (atL rows 0).length) = true) : rowsB rows = true := by
  rw [rowsB, h1, h2, all_done hk h3]; rfl
set_option maxHeartbeats 1600000 in
theorem l1Rows_any (v : Value) (rows : List (List Int)) (w : World) (h : RdII w v rows) : Calls Try.prog 61 #[v] w (Qt (.bool (rowsB rows)) w) := by
  obtain ⟨ad, len, cap, rfl, hl, hlc, hcm, h'⟩ := rdS_open h
  obtain ⟨b1, hb1⟩ : ∃ b, inB (len : Int) 1 40 = b := ⟨_, rfl⟩
  have HL := Lib.hid hl
  clear h hl
  cases b1 with
  | false =>
    have HE := Lib.hid (rowsB_no1 (rows := rows) (by rw [HL.out]; exact hb1))
    have HB1 := Lib.hid hb1
    clear hb1
    go_enter Try.func61, Try.ntmps61
    go_wp2_with (go_at_call 67; ((with_reducible refine (l1In_eq' HB1.out _).mono ?_); rintro e w' ⟨rfl, rfl⟩))
    go_ret
    exact ⟨ret_bool HE.out.symm, 0, rfl⟩
  | true =>
    have h40 : 1 ≤ len ∧ len ≤ 40 := by have := of_decide_eq_true hb1; omega
    obtain ⟨b0, off0, ad0, len0, cap0, r0, rfl, hr0, hc0, h60, h70, h80, h90, _⟩ := rdII_get h' (k := 0) (by omega)
    simp only [Nat.add_zero] at hc0
    have hat : atL rows 0 = r0 := atL_get hr0
    obtain ⟨b2, hb2⟩ : ∃ b, inB (len0 : Int) 1 40 = b := ⟨_, rfl⟩
    have HB1 := Lib.hid hb1
    have HB2 := Lib.hid hb2
    have HAT := Lib.hid (show (atL rows 0).length = len0 from by rw [hat, h60])
    obtain ⟨h401, h402⟩ := h40
    have h0len : 0 < len := by omega
    clear hb1 hr0 hat h60
    cases b2 with
    | false =>
      have HE := Lib.hid (rowsB_no2 (rows := rows) (by rw [HAT.out]; exact HB2.out))
      clear hb2
      go_enter Try.func61, Try.ntmps61
      go_wp2_with (first | (go_at_call 67; ((with_reducible refine (l1In_eq' HB1.out _).mono ?_); rintro e w' ⟨rfl, rfl⟩)) | (go_at_call 67; ((with_reducible refine (l1In_eq' HB2.out _).mono ?_); rintro e w' ⟨rfl, rfl⟩)))
      go_ret
      exact ⟨ret_bool HE.out.symm, 0, rfl⟩
    | true =>
      clear hb2
      go_enter Try.func61, Try.ntmps61
      go_wp2_with (first | (go_at_call 67; ((with_reducible refine (l1In_eq' HB1.out _).mono ?_); rintro e w' ⟨rfl, rfl⟩)) | (go_at_call 67; ((with_reducible refine (l1In_eq' HB2.out _).mono ?_); rintro e w' ⟨rfl, rfl⟩)))
      go_loopw [3] (fun i wr => ∃ k m : Nat, k ≤ len ∧ i = .int .i64 k ∧ (rows.take k).all (rowB len0) = true ∧ wr = w.drewN m) (fun i _ => len - (intOf i).toNat)
      case atStart => exact ⟨0, 0, Nat.zero_le _, rfl, by simp, rfl⟩
      case round =>
        obtain ⟨wk, rfl⟩ : ∃ W, W = wr := ⟨_, rfl⟩
        obtain ⟨k, m, hk, rfl, hall, hwk⟩ := hrel
        have hk' := rdII_drewN m h'
        have hbk : Below w.heap.size w wk := hwk ▸ blw_drewN (Below.refl _ _) m
        rw [← hwk] at hk'
        have HW := Lib.hid hwk
        have HALL := Lib.hid hall
        have hd0 := cell_below hbk hc0
        clear hwk hall
        by_cases hlt : k < len
        case neg =>
          have HE := Lib.hid (rowsB_yes (rows := rows) (k := k) (by rw [HL.out]; exact HB1.out) (by rw [HAT.out]; exact HB2.out) (by rw [HL.out]; omega) (by rw [HAT.out]; exact HALL.out))
          go_wp2
          go_ret
          exact ⟨ret_bool HE.out.symm, m, HW.out⟩
        obtain ⟨b, off, ad1, len1, cap1, r, hbo, hr, hc, h61, h71, h81, h91, _⟩ := rdII_get hk' hlt
        obtain ⟨rfl, rfl⟩ : b0 = b ∧ off0 = off := by simpa using hbo
        by_cases hle : len1 = len0
        · subst hle
          obtain ⟨b3, hb3⟩ : ∃ b, r.all isNumB = b := ⟨_, rfl⟩
          have HB3 := Lib.hid hb3
          have HR := Lib.hid hr
          have HRB := Lib.hid (show rowB len1 r = b3 from by rw [rowB, hb3, h61]; simp)
          clear hb3 hr h61
          cases b3 with
          | false =>
            have HE := Lib.hid (rowsB_no3 HR.out (by rw [HAT.out]; exact HRB.out))
            go_wp2
            go_quiet ((go_at_call 58; exact quiet_same (l1All_eq _ r _ (rdI_drewN _ h91) HB3.out)))
            go_wp2
            go_ret
            exact ⟨ret_bool HE.out.symm, _, by rw [HW.out, World.drewN_drewN]⟩
          | true =>
            have HE := Lib.hid (all_snoc HR.out HALL.out HRB.out)
            go_wp2
            go_quiet ((go_at_call 58; exact quiet_same (l1All_eq _ r _ (rdI_drewN _ h91) HB3.out)))
            go_wp2
            go_roundw
            case rel => exact ⟨k + 1, _, by omega, by go_num, HE.out, by rw [HW.out, World.drewN_drewN]⟩
            case measure => simp [intOf]; omega
        · have hleI : ((len1 : Int) != len0) = true := by simp; omega
          have HE := Lib.hid (rowsB_no3 (rows := rows) hr (show rowB (atL rows 0).length r = false from by rw [HAT.out, rowB, h61]; simp [hle]))
          clear hr h61
          go_wp2
          go_quiet (fail)
          go_wp2
          go_ret
          exact ⟨ret_bool HE.out.symm, _, by rw [HW.out, World.drewN_drewN]⟩
end Go.Proofs.Ytbcjhpgkodeoeaa
