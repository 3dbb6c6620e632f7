/- The tests on paths, of the program and of the reference: what they return. Conditions: none. -/
import Derived.Test.YtdaaamdighojdaaNum
import Derived.Test.YtdaaamdighojdaaMem
set_option linter.unusedSimpArgs false
set_option linter.unusedVariables false
namespace Go.Proofs.Ytdaaamdighojdaa
open Go.RowKit

def rowOkB (dim : Int) (y : List Int) : Bool := decide ((y.length : Int) = dim) && y.all isNumB
def pathOkB (xs : List (List Int)) (dim : Int) : Bool := decide (1 ≤ xs.length ∧ xs.length ≤ 7) && xs.all (rowOkB dim)

theorem rowOkB_len {dim : Int} {y : List Int} (h : (y.length : Int) ≠ dim) : rowOkB dim y = false := by simp [rowOkB, h]
theorem rowOkB_all {dim : Int} {y : List Int} (h : (y.length : Int) = dim) : rowOkB dim y = y.all isNumB := by simp [rowOkB, h]
theorem pathOkB_len {dim : Int} {xs : List (List Int)} (h : ¬ (1 ≤ xs.length ∧ xs.length ≤ 7)) : pathOkB xs dim = false := by
  unfold pathOkB; rw [decide_eq_false h]; rfl
theorem pathOkB_all {dim : Int} {xs : List (List Int)} (h0 : 1 ≤ xs.length) (h1 : xs.length ≤ 7) : pathOkB xs dim = xs.all (rowOkB dim) := by
  unfold pathOkB; rw [decide_eq_true ⟨h0, h1⟩]; rfl

set_option maxHeartbeats 800000 in
theorem pathOk_any (v : Value) (xs : List (List Int)) (dim : Int) (w : World) (h : RdII w v xs) :
    Calls Try.prog 63 #[v, .int .i64 dim] w fun e w' => e = .returned (.bool (pathOkB xs dim)) ∧ w = w' := by
  obtain ⟨ad, len, cap, rfl, hl, hlc, hcm, h'⟩ := rdS_open h
  have hlen := Lib.hid hl
  clear h hl
  by_cases h0 : len = 0
  · subst h0
    go_enter Try.func63, Try.ntmps63
    go_wp2
    go_ret
    exact ⟨ret_bool (pathOkB_len (by rw [hlen.out]; omega)).symm, rfl⟩
  by_cases h7 : 7 < len
  · go_enter Try.func63, Try.ntmps63
    go_wp2
    go_ret
    exact ⟨ret_bool (pathOkB_len (by rw [hlen.out]; omega)).symm, rfl⟩
  have hgt : 1 ≤ len := by omega
  have hle : len ≤ 7 := by omega
  clear h0 h7
  have HF := Lib.hid (pathOkB_all (dim := dim) (xs := xs) (by rw [hlen.out]; exact hgt) (by rw [hlen.out]; exact hle))
  have hz : ((len : Int) == 0) = false := by simp; omega
  have hz7 : decide (7 < (len : Int)) = false := by simp; omega
  go_enter Try.func63, Try.ntmps63
  go_wp2
  go_loop [17] (fun i => ∃ k : Nat, k ≤ len ∧ i = .int .i64 k ∧ (xs.take k).all (rowOkB dim) = true) (fun i => len - (intOf i).toNat)
  case atStart => exact ⟨0, Nat.zero_le _, rfl, by simp⟩
  case round =>
    obtain ⟨k, hk, rfl, ha⟩ := hrel
    have HA := Lib.hid ha
    clear ha
    by_cases hlt : k < len
    · obtain ⟨b, off, ad', len', cap', x, rfl, hx, hcc, h6, h7, h8, h9, hbs⟩ := rdII_get h' hlt
      have HX := Lib.hid hx
      have H6 := Lib.hid h6
      clear hx h6
      by_cases hd : (len' : Int) = dim
      · have HR := Lib.hid (rowOkB_all (dim := dim) (y := x) (by rw [H6.out]; exact hd))
        subst hd
        cases hp : x.all isNumB
        · have HP := Lib.hid hp
          go_wp2_with (go_at_call 115; ((with_reducible refine (allNumbers_any _ x _ h9).mono ?_); rintro e w' ⟨rfl, rfl⟩))
          go_ret
          exact ⟨ret_bool (by rw [HF.out]; exact (all_false HX.out (HR.out.trans HP.out)).symm), rfl⟩
        · have HP := Lib.hid hp
          go_wp2_with (go_at_call 115; ((with_reducible refine (allNumbers_any _ x _ h9).mono ?_); rintro e w' ⟨rfl, rfl⟩))
          go_round
          case rel => exact ⟨k + 1, by omega, by go_num, all_snoc HX.out HA.out (HR.out.trans HP.out)⟩
          case measure => simp [intOf]; omega
      · have HR := Lib.hid (rowOkB_len (dim := dim) (y := x) (by rw [H6.out]; exact hd))
        go_wp2
        go_ret
        exact ⟨ret_bool (by rw [HF.out]; exact (all_false HX.out HR.out).symm), rfl⟩
    · go_wp2
      go_ret
      exact ⟨ret_bool (by rw [HF.out]; exact (all_done (by rw [hlen.out]; omega) HA.out).symm), rfl⟩

set_option maxHeartbeats 800000 in
theorem sPathOk_any (v : Value) (xs : List (List Int)) (dim : Int) (w : World) (h : RdII w v xs) :
    Calls Try.prog 59 #[v, .int .i64 dim] w fun e w' => e = .returned (.bool (pathOkB xs dim)) ∧ w = w' := by
  obtain ⟨ad, len, cap, rfl, hl, hlc, hcm, h'⟩ := rdS_open h
  have hlen := Lib.hid hl
  clear h hl
  by_cases hin : 1 ≤ len ∧ len ≤ 7
  case neg =>
    have hB : inB len 1 7 = false := by simp [inB]; omega
    go_enter Try.func59, Try.ntmps59
    go_wp2_with (go_at_call 68; ((with_reducible refine (l1In_any _ _ _ _).mono ?_); rintro e w' ⟨rfl, rfl⟩))
    go_ret
    exact ⟨ret_bool (pathOkB_len (by rw [hlen.out]; exact hin)).symm, rfl⟩
  obtain ⟨hgt, hle⟩ := hin
  have hB : inB len 1 7 = true := inB_yes (by omega) (by omega)
  have HF := Lib.hid (pathOkB_all (dim := dim) (xs := xs) (by rw [hlen.out]; exact hgt) (by rw [hlen.out]; exact hle))
  go_enter Try.func59, Try.ntmps59
  go_wp2_with (go_at_call 68; ((with_reducible refine (l1In_any _ _ _ _).mono ?_); rintro e w' ⟨rfl, rfl⟩))
  go_loop [5] (fun i => ∃ k : Nat, k ≤ len ∧ i = .int .i64 k ∧ (xs.take k).all (rowOkB dim) = true) (fun i => len - (intOf i).toNat)
  case atStart => exact ⟨0, Nat.zero_le _, rfl, by simp⟩
  case round =>
    obtain ⟨k, hk, rfl, ha⟩ := hrel
    have HA := Lib.hid ha
    clear ha
    by_cases hlt : k < len
    · obtain ⟨b, off, ad', len', cap', x, rfl, hx, hcc, h6, h7, h8, h9, hbs⟩ := rdII_get h' hlt
      have HX := Lib.hid hx
      have H6 := Lib.hid h6
      clear hx h6
      by_cases hd : (len' : Int) = dim
      · have HR := Lib.hid (rowOkB_all (dim := dim) (y := x) (by rw [H6.out]; exact hd))
        subst hd
        cases hp : x.all isNumB
        · have HP := Lib.hid hp
          go_wp2_with (go_at_call 113; ((with_reducible refine (l1All_any _ x _ h9).mono ?_); rintro e w' ⟨rfl, rfl⟩))
          go_ret
          exact ⟨ret_bool (by rw [HF.out]; exact (all_false HX.out (HR.out.trans HP.out)).symm), rfl⟩
        · have HP := Lib.hid hp
          go_wp2_with (go_at_call 113; ((with_reducible refine (l1All_any _ x _ h9).mono ?_); rintro e w' ⟨rfl, rfl⟩))
          go_round
          case rel => exact ⟨k + 1, by omega, by go_num, all_snoc HX.out HA.out (HR.out.trans HP.out)⟩
          case measure => simp [intOf]; omega
      · have HR := Lib.hid (rowOkB_len (dim := dim) (y := x) (by rw [H6.out]; exact hd))
        go_wp2
        go_ret
        exact ⟨ret_bool (by rw [HF.out]; exact (all_false HX.out HR.out).symm), rfl⟩
    · go_wp2
      go_ret
      exact ⟨ret_bool (by rw [HF.out]; exact (all_done (by rw [hlen.out]; omega) HA.out).symm), rfl⟩
end Go.Proofs.Ytdaaamdighojdaa
