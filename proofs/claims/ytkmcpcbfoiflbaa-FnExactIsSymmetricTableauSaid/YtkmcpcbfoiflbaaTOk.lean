/- The tests on tableaus, of the program and of the reference: what they return. Conditions: none. -/
import Derived.Test.YtkmcpcbfoiflbaaNum
import Derived.Test.YtkmcpcbfoiflbaaTab
set_option linter.unusedSimpArgs false
set_option linter.unusedVariables false
namespace Go.Proofs.Ytkmcpcbfoiflbaa
open Go.RowKit Go.Sort

def stB (s : Int) : Bool := decide (0 ≤ s ∧ s ≤ 8)
def tabOkB (t : TabZ) : Bool := stB t.stages && decide ((t.A.length : Int) = t.stages * t.stages) && decide ((t.B.length : Int) = t.stages) && t.A.all isNumB && t.B.all isNumB
theorem tab_st {t : TabZ} (h : stB t.stages = false) : tabOkB t = false := by simp [tabOkB, h]
theorem tab_A {t : TabZ} (h : (t.A.length : Int) ≠ t.stages * t.stages) : tabOkB t = false := by simp [tabOkB, h]
theorem tab_B {t : TabZ} (h : (t.B.length : Int) ≠ t.stages) : tabOkB t = false := by simp [tabOkB, h]
theorem tab_nA {t : TabZ} (h : t.A.all isNumB = false) : tabOkB t = false := by rw [tabOkB, h]; simp
theorem tab_nB {t : TabZ} (h : t.B.all isNumB = false) : tabOkB t = false := by rw [tabOkB, h]; simp
theorem tab_yes {t : TabZ} (h0 : stB t.stages = true) (h1 : (t.A.length : Int) = t.stages * t.stages) (h2 : (t.B.length : Int) = t.stages) (h3 : t.A.all isNumB = true) (h4 : t.B.all isNumB = true) : tabOkB t = true := by
  rw [tabOkB, h0, h3, h4, decide_eq_true h1, decide_eq_true h2]; rfl
theorem sq_bd {s : Int} (h0 : 0 ≤ s) (h1 : s ≤ 8) : 0 ≤ s * s ∧ s * s ≤ 64 := by
  have := Int.mul_nonneg h0 h0
  have := Int.mul_le_mul h1 h1 h0 (by omega : (0:Int) ≤ 8)
  omega
theorem allNumbers_eq {b : Bool} (v : Value) (xs : List Int) (w : World) (h : RdI w v xs) (hb : xs.all isNumB = b) :
    Calls Try.prog 41 #[v] w fun e w' => e = .returned (.bool b) ∧ w = w' := hb ▸ allNumbers_any v xs w h
theorem l1All_eq {b : Bool} (v : Value) (xs : List Int) (w : World) (h : RdI w v xs) (hb : xs.all isNumB = b) :
    Calls Try.prog 39 #[v] w fun e w' => e = .returned (.bool b) ∧ w = w' := hb ▸ l1All_any v xs w h
theorem l1In_eq' {n lo hi : Int} {b : Bool} (h : inB n lo hi = b) (w : World) : Calls Try.prog 38 #[.int .i64 n, .int .i64 lo, .int .i64 hi] w fun e w' => e = .returned (.bool b) ∧ w = w' := h ▸ l1In_any n lo hi w

set_option maxHeartbeats 1600000 in
theorem tabOk_any (v : Value) (t : TabZ) (w : World) (h : RdTab w v t) :
    Calls Try.prog 53 #[v] w fun e w' => e = .returned (.bool (tabOkB t)) ∧ Below w.heap.size w w' := by
  obtain ⟨vA, vB, rfl, hI, hA, hB⟩ := h
  have hb0 : Below w.heap.size w (w.alloc (.cells #[.int .i64 t.stages, vA, vB] 32)) := (Below.refl _ _).alloc (Nat.le_refl _) _
  have gA := rdI_mono hb0 hA
  have gB := rdI_mono hb0 hB
  obtain ⟨aA, nA, cA, rfl, lA, _, _, _⟩ := rdS_open hA
  obtain ⟨aB, nB, cB, rfl, lB, _, _, _⟩ := rdS_open hB
  have LA := Lib.hid lA
  have LB := Lib.hid lB
  clear hA hB lA lB
  by_cases h0 : 0 ≤ t.stages
  case neg =>
    have HT := Lib.hid (tab_st (t := t) (by simp [stB]; omega))
    go_enter Try.func53, Try.ntmps53
    go_wp2
    go_ret
    exact ⟨ret_bool (by rw [HT.out]), hb0⟩
  by_cases h8 : t.stages ≤ 8
  case neg =>
    have HT := Lib.hid (tab_st (t := t) (by simp [stB]; omega))
    go_enter Try.func53, Try.ntmps53
    go_wp2
    go_ret
    exact ⟨ret_bool (by rw [HT.out]), hb0⟩
  have HS := Lib.hid (show stB t.stages = true by simp [stB]; omega)
  obtain ⟨q0, q1⟩ := sq_bd h0 h8
  by_cases hAl : (nA : Int) = t.stages * t.stages
  case neg =>
    have HT := Lib.hid (tab_A (t := t) (by rw [LA.out]; exact hAl))
    have hAb : ((nA : Int) == t.stages * t.stages) = false := by simpa using hAl
    clear hAl
    go_enter Try.func53, Try.ntmps53
    go_wp2
    go_ret
    exact ⟨ret_bool (by rw [HT.out]), hb0⟩
  have HA := Lib.hid hAl
  have hAb : ((nA : Int) == t.stages * t.stages) = true := by simpa using hAl
  clear hAl
  by_cases hBl : (nB : Int) = t.stages
  case neg =>
    have HT := Lib.hid (tab_B (t := t) (by rw [LB.out]; exact hBl))
    have hBb : ((nB : Int) == t.stages) = false := by simpa using hBl
    clear hBl
    go_enter Try.func53, Try.ntmps53
    go_wp2
    go_ret
    exact ⟨ret_bool (by rw [HT.out]), hb0⟩
  have HB := Lib.hid hBl
  have hBb : ((nB : Int) == t.stages) = true := by simpa using hBl
  clear hBl
  cases hnA : t.A.all isNumB with
  | false =>
    have HT := Lib.hid (tab_nA hnA)
    go_enter Try.func53, Try.ntmps53
    go_wp2_with (go_at_call 41; ((with_reducible refine (allNumbers_eq _ t.A _ gA hnA).mono ?_); rintro e w' ⟨rfl, rfl⟩))
    go_ret
    exact ⟨ret_bool (by rw [HT.out]), hb0⟩
  | true =>
  cases hnB : t.B.all isNumB with
  | false =>
    have HT := Lib.hid (tab_nB hnB)
    go_enter Try.func53, Try.ntmps53
    go_wp2_with fail
    refine (allNumbers_eq _ t.A _ gA hnA).mono ?_
    rintro e w' ⟨rfl, rfl⟩
    go_wp2_with fail
    refine (allNumbers_eq _ t.B _ gB hnB).mono ?_
    rintro e w' ⟨rfl, rfl⟩
    go_wp2
    go_ret
    exact ⟨ret_bool (by rw [HT.out]), hb0⟩
  | true =>
    have HT := Lib.hid (tab_yes HS.out (by rw [LA.out]; exact HA.out) (by rw [LB.out]; exact HB.out) hnA hnB)
    go_enter Try.func53, Try.ntmps53
    go_wp2_with fail
    refine (allNumbers_eq _ t.A _ gA hnA).mono ?_
    rintro e w' ⟨rfl, rfl⟩
    go_wp2_with fail
    refine (allNumbers_eq _ t.B _ gB hnB).mono ?_
    rintro e w' ⟨rfl, rfl⟩
    go_wp2
    go_ret
    exact ⟨ret_bool (by rw [HT.out]), hb0⟩
theorem tabOk_eq {b : Bool} (v : Value) (t : TabZ) (w : World) (h : RdTab w v t) (hb : tabOkB t = b) :
    Calls Try.prog 53 #[v] w fun e w' => e = .returned (.bool b) ∧ Below w.heap.size w w' := hb ▸ tabOk_any v t w h

set_option maxHeartbeats 1600000 in
theorem sTabOk_any (v : Value) (t : TabZ) (w : World) (h : RdTab w v t) :
    Calls Try.prog 42 #[v] w fun e w' => e = .returned (.bool (tabOkB t)) ∧ Below w.heap.size w w' := by
  obtain ⟨vA, vB, rfl, hI, hA, hB⟩ := h
  have hb0 : Below w.heap.size w (w.alloc (.cells #[.int .i64 t.stages, vA, vB] 32)) := (Below.refl _ _).alloc (Nat.le_refl _) _
  have gA := rdI_mono hb0 hA
  have gB := rdI_mono hb0 hB
  obtain ⟨aA, nA, cA, rfl, lA, _, _, _⟩ := rdS_open hA
  obtain ⟨aB, nB, cB, rfl, lB, _, _, _⟩ := rdS_open hB
  have LA := Lib.hid lA
  have LB := Lib.hid lB
  clear hA hB lA lB
  cases hst : stB t.stages with
  | false =>
    have hstI : inB t.stages 0 8 = false := hst
    have HT := Lib.hid (tab_st hst)
    go_enter Try.func42, Try.ntmps42
    go_wp2_with (go_at_call 38; ((with_reducible refine (l1In_eq' hstI _).mono ?_); rintro e w' ⟨rfl, rfl⟩))
    go_ret
    exact ⟨ret_bool (by rw [HT.out]), hb0⟩
  | true =>
  have hstI : inB t.stages 0 8 = true := hst
  have h08 : 0 ≤ t.stages ∧ t.stages ≤ 8 := by simpa [stB] using hst
  obtain ⟨h0, h8⟩ := h08
  obtain ⟨q0, q1⟩ := sq_bd h0 h8
  by_cases hAl : (nA : Int) = t.stages * t.stages
  case neg =>
    have HT := Lib.hid (tab_A (t := t) (by rw [LA.out]; exact hAl))
    have hAb : ((nA : Int) == t.stages * t.stages) = false := by simpa using hAl
    clear hAl
    go_enter Try.func42, Try.ntmps42
    go_wp2_with (go_at_call 38; ((with_reducible refine (l1In_eq' hstI _).mono ?_); rintro e w' ⟨rfl, rfl⟩))
    go_ret
    exact ⟨ret_bool (by rw [HT.out]), hb0⟩
  have HA := Lib.hid hAl
  have hAb : ((nA : Int) == t.stages * t.stages) = true := by simpa using hAl
  clear hAl
  by_cases hBl : (nB : Int) = t.stages
  case neg =>
    have HT := Lib.hid (tab_B (t := t) (by rw [LB.out]; exact hBl))
    have hBb : ((nB : Int) == t.stages) = false := by simpa using hBl
    clear hBl
    go_enter Try.func42, Try.ntmps42
    go_wp2_with (go_at_call 38; ((with_reducible refine (l1In_eq' hstI _).mono ?_); rintro e w' ⟨rfl, rfl⟩))
    go_ret
    exact ⟨ret_bool (by rw [HT.out]), hb0⟩
  have HB := Lib.hid hBl
  have hBb : ((nB : Int) == t.stages) = true := by simpa using hBl
  clear hBl
  cases hnA : t.A.all isNumB with
  | false =>
    have HT := Lib.hid (tab_nA hnA)
    go_enter Try.func42, Try.ntmps42
    go_wp2_with (first | (go_at_call 38; ((with_reducible refine (l1In_eq' hstI _).mono ?_); rintro e w' ⟨rfl, rfl⟩)) | (go_at_call 39; ((with_reducible refine (l1All_eq _ t.A _ gA hnA).mono ?_); rintro e w' ⟨rfl, rfl⟩)))
    go_ret
    exact ⟨ret_bool (by rw [HT.out]), hb0⟩
  | true =>
  cases hnB : t.B.all isNumB with
  | false =>
    have HT := Lib.hid (tab_nB hnB)
    go_enter Try.func42, Try.ntmps42
    go_wp2_with (go_at_call 38; ((with_reducible refine (l1In_eq' hstI _).mono ?_); rintro e w' ⟨rfl, rfl⟩))
    refine (l1All_eq _ t.A _ gA hnA).mono ?_
    rintro e w' ⟨rfl, rfl⟩
    go_wp2_with fail
    refine (l1All_eq _ t.B _ gB hnB).mono ?_
    rintro e w' ⟨rfl, rfl⟩
    go_wp2
    go_ret
    exact ⟨ret_bool (by rw [HT.out]), hb0⟩
  | true =>
    have HT := Lib.hid (tab_yes hst (by rw [LA.out]; exact HA.out) (by rw [LB.out]; exact HB.out) hnA hnB)
    go_enter Try.func42, Try.ntmps42
    go_wp2_with fail
    refine (l1In_eq' hstI _).mono ?_
    rintro e w' ⟨rfl, rfl⟩
    go_wp2_with fail
    refine (l1All_eq _ t.A _ gA hnA).mono ?_
    rintro e w' ⟨rfl, rfl⟩
    go_wp2_with fail
    refine (l1All_eq _ t.B _ gB hnB).mono ?_
    rintro e w' ⟨rfl, rfl⟩
    go_wp2
    go_ret
    exact ⟨ret_bool (by rw [HT.out]), hb0⟩
theorem sTabOk_eq {b : Bool} (v : Value) (t : TabZ) (w : World) (h : RdTab w v t) (hb : tabOkB t = b) :
    Calls Try.prog 42 #[v] w fun e w' => e = .returned (.bool b) ∧ Below w.heap.size w w' := hb ▸ sTabOk_any v t w h
theorem idx_lt {n i j : Nat} (hi : i < n) (hj : j < n) : i * n + j < n * n := by
  have : (i + 1) * n ≤ n * n := Nat.mul_le_mul_right n hi
  rw [Nat.succ_mul] at this
  omega
theorem idx_bd {n i j : Nat} (hi : i < n) (hj : j < n) (hn : n ≤ 8) : 0 ≤ (i : Int) * n ∧ (i : Int) * n ≤ 64 ∧ 0 ≤ (i : Int) * n + j ∧ (i : Int) * n + j ≤ 72 ∧ ((i : Int) * n + j).toNat = i * n + j := by
  have h1 : i * n ≤ 8 * 8 := Nat.mul_le_mul (by omega) hn
  have h2 : ((i * n : Nat) : Int) = (i : Int) * n := by simp
  omega
/-- What a fine tableau is, in numbers. -/
theorem tabOk_num {t : TabZ} (h : tabOkB t = true) : t.stages = (t.B.length : Int) ∧ t.A.length = t.B.length * t.B.length ∧ t.B.length ≤ 8 := by
  simp only [tabOkB, stB, Bool.and_eq_true, decide_eq_true_eq] at h
  obtain ⟨⟨⟨⟨⟨h0, h8⟩, hA⟩, hB⟩, _⟩, _⟩ := h
  refine ⟨hB.symm, ?_, by omega⟩
  rw [← hB] at hA
  have : ((t.B.length * t.B.length : Nat) : Int) = (t.B.length : Int) * t.B.length := by simp
  omega
end Go.Proofs.Ytkmcpcbfoiflbaa
