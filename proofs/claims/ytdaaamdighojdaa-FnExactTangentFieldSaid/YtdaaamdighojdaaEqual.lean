/- slices.Equal at []int. Conditions: none. -/
import Derived.Test.YtdaaamdighojdaaNum
set_option linter.unusedSimpArgs false
set_option linter.unusedVariables false
namespace Go.Proofs.Ytdaaamdighojdaa
open Go.RowKit Go.Sort

theorem take_eq_next {xs ys : List Int} {k : Nat} {x : Int} (h : xs.take k = ys.take k) (hx : xs[k]? = some x) (hy : ys[k]? = some x) : xs.take (k + 1) = ys.take (k + 1) := by
  rw [take_snoc hx, take_snoc hy, h]

set_option maxHeartbeats 800000 in
theorem equal_any (va vb : Value) (xs ys : List Int) (w : World) (ha : RdI w va xs) (hb : RdI w vb ys) :
    Calls Try.prog 130 #[va, vb] w (Qt (.bool (decide (xs = ys))) w) := by
  obtain ⟨ad, len, cap, rfl, hl, hlc, hcm, h'⟩ := rdS_open ha
  obtain ⟨ad2, len2, cap2, rfl, hl2, hlc2, hcm2, h2'⟩ := rdS_open hb
  have HL := Lib.hid hl
  have HL2 := Lib.hid hl2
  clear ha hb hl hl2
  by_cases hll : len = len2
  case neg =>
    have HN := Lib.hid (show decide (xs = ys) = false by rw [decide_eq_false]; intro e; apply hll; rw [← HL.out, ← HL2.out, e])
    have hb1 : ((len : Int) != len2) = true := by simp; omega
    go_enter Try.func130, Try.ntmps130
    go_wp2
    go_ret
    exact ⟨ret_bool HN.out.symm, 0, rfl⟩
  subst hll
  go_enter Try.func130, Try.ntmps130
  go_wp2
  go_loopw [13] (fun i wr => ∃ k : Nat, k ≤ len ∧ i = .int .i64 k ∧ xs.take k = ys.take k ∧ ∃ m, wr = w.drewN m) (fun i _ => len - (intOf i).toNat)
  case atStart => exact ⟨0, Nat.zero_le _, rfl, by simp, 0, rfl⟩
  case round =>
    obtain ⟨k, hk, rfl, ht, m, hwr⟩ := hrel
    have h'r := rdI_drewN m h'
    have h2'r := rdI_drewN m h2'
    rw [← hwr] at h'r h2'r
    have HW := Lib.hid hwr
    have HT := Lib.hid ht
    clear ht hwr
    by_cases hlt : k < len
    · obtain ⟨b, off, x, rfl, hx, hc, hI, _⟩ := rdI_get h'r hlt
      obtain ⟨b2, off2, y, rfl, hy, hc2, hI2, _⟩ := rdI_get h2'r hlt
      have HX := Lib.hid hx
      have HY := Lib.hid hy
      clear hx hy
      by_cases hxy : x = y
      · subst hxy
        go_wp2
        go_quiet (fail)
        go_wp2
        go_roundw
        case rel => exact ⟨k + 1, by omega, by go_num, take_eq_next HT.out HX.out HY.out, _, by rw [HW.out, World.drewN_drewN]⟩
        case measure => simp [intOf]; omega
      · have HN := Lib.hid (show decide (xs = ys) = false by
          rw [decide_eq_false]
          intro e
          apply hxy
          have h1 := HX.out
          rw [e, HY.out] at h1
          exact (Option.some.inj h1).symm)
        have hb1 : (x != y) = true := by simpa using hxy
        go_wp2
        go_quiet (fail)
        go_wp2
        go_ret
        exact ⟨ret_bool HN.out.symm, _, by rw [HW.out, World.drewN_drewN]⟩
    · go_wp2
      go_ret
      have e := HT.out
      rw [List.take_of_length_le (by rw [HL.out]; omega), List.take_of_length_le (by rw [HL2.out]; omega)] at e
      exact ⟨ret_bool (decide_eq_true e).symm, m, HW.out⟩
theorem equal_eq {c : Bool} (va vb : Value) (xs ys : List Int) (w : World) (ha : RdI w va xs) (hb : RdI w vb ys) (h : decide (xs = ys) = c) :
    Calls Try.prog 130 #[va, vb] w (Qt (.bool c) w) := h ▸ equal_any va vb xs ys w ha hb
end Go.Proofs.Ytdaaamdighojdaa
