/- The reference's tests on polynomials: what they return. Conditions: powers of at most 1048576 elements. -/
import Derived.Test.YtdaaamdighojdaaDoorPoly
set_option linter.unusedSimpArgs false
set_option linter.unusedVariables false
namespace Go.Proofs.YtdaaamdighojdaaDoor
open Go.RowKit Go.Sort

theorem l1In_eq {n lo hi : Int} {b : Bool} (h : inB n lo hi = b) (w : World) : Calls Tryd.prog 21 #[.int .i64 n, .int .i64 lo, .int .i64 hi] w fun e w' => e = .returned (.bool b) ∧ w = w' := h ▸ l1In_any n lo hi w
theorem sIsNumber_eq {n : Int} {b : Bool} (h : isNumB n = b) (w : World) : Calls Tryd.prog 57 #[.int .i64 n] w fun e w' => e = .returned (.bool b) ∧ w = w' := h ▸ sIsNumber_any n w
theorem l2Less_eq {c : Bool} (va vb : Value) (xs ys : List Int) (w : World) (ha : RdI w va xs) (hb : RdI w vb ys) (h : ltL xs ys = c) :
    Calls Tryd.prog 58 #[va, vb] w (Qt (.bool c) w) := h ▸ l2Less_any va vb xs ys w ha hb
theorem inB_dim (dim : Int) : inB dim 1 6 = dimB dim := rfl
theorem inB_pow (p : Int) : inB p 0 5 = powIn p := rfl
theorem stepOk_less {dim : Int} {xs : List MonZ} {k : Nat} {m m' : MonZ} (hm : xs[k]? = some m) (hk : 0 < k) (hm' : xs[k - 1]? = some m') (h : ltL m.pows m'.pows = false) : stepOkB dim xs k = false := by
  have : ¬ k = 0 := by omega
  simp [stepOkB, hm, h, hm', this]
theorem degZ_bad {ps : List Int} {k : Nat} {x : Int} (h : ps[k]? = some x) (hx : powIn x = false) : degZ ps = -1 := by
  rw [degZ, if_neg]; rw [all_false h hx]; simp

set_option maxRecDepth 100000 in
set_option maxHeartbeats 3200000 in
theorem sPolyOk_any (v : Value) (xs : List MonZ) (dim : Int) (w : World) (h : RdMs w v xs) :
    Calls Tryd.prog 37 #[v, .int .i64 dim] w (Qt (.bool (polyOkB xs dim)) w) := by
  obtain ⟨ad, len, cap, rfl, hl, hlc, hcm, h'⟩ := rdS_open h
  have HL := Lib.hid hl
  clear h hl
  cases hdim : dimB dim with
  | false =>
    have hdimI : inB dim 1 6 = false := hdim
    have HP := Lib.hid (polyOkB_dim (xs := xs) hdim)
    go_enter Tryd.func37, Tryd.ntmps37
    go_wp2_with (go_at_call 21; ((with_reducible refine (l1In_eq hdimI _).mono ?_); rintro e w' ⟨rfl, rfl⟩))
    go_ret
    exact ⟨ret_bool HP.out.symm, 0, rfl⟩
  | true =>
  have hdimI : inB dim 1 6 = true := hdim
  by_cases h12 : 12 < len
  · have HP := Lib.hid (polyOkB_len (xs := xs) (dim := dim) (by rw [HL.out]; exact h12))
    go_enter Tryd.func37, Tryd.ntmps37
    go_wp2_with (go_at_call 21; ((with_reducible refine (l1In_eq hdimI _).mono ?_); rintro e w' ⟨rfl, rfl⟩))
    go_ret
    exact ⟨ret_bool HP.out.symm, 0, rfl⟩
  have hle : (len : Int) ≤ 12 := by omega
  have hle' : decide (12 < (len : Int)) = false := by simp; omega
  have HP := Lib.hid (polyOkB_all (xs := xs) hdim (by rw [HL.out]; omega))
  have hdd : 1 ≤ dim ∧ dim ≤ 6 := by simpa [dimB] using hdim
  have hdd0 := hdd.1
  have hdd1 := hdd.2
  clear h12 hdd
  go_enter Tryd.func37, Tryd.ntmps37
  go_wp2_with (go_at_call 21; ((with_reducible refine (l1In_eq hdimI _).mono ?_); rintro e w' ⟨rfl, rfl⟩))
  go_loopw [5] (fun i wr => ∃ k : Nat, k ≤ len ∧ i = .int .i64 k ∧ (List.range k).all (stepOkB dim xs) = true ∧ ∃ m, wr = w.drewN m) (fun i _ => len - (intOf i).toNat)
  case atStart => exact ⟨0, Nat.zero_le _, rfl, by simp, 0, rfl⟩
  case round =>
    obtain ⟨k, hk, rfl, ha, nd, hwr⟩ := hrel
    have HA := Lib.hid ha
    have h'r : RdMs wr (.slice ad len cap) xs := by rw [hwr]; exact rdMs_mono (blw_drewN (Below.refl _ _) nd) h'
    have HW := Lib.hid hwr
    clear ha hwr
    by_cases hlt : k < len
    case neg =>
      go_wp2
      go_ret
      obtain rfl : k = len := by omega
      exact ⟨ret_bool (by rw [HP.out, HL.out, HA.out]), _, HW.out⟩
    obtain ⟨b, off, ad', len', cap', m, rfl, hm, hc0, hc1, hI, h6, h7, h8, h9, hbs⟩ := rdMs_get h'r hlt
    have HM := Lib.hid hm
    have H6 := Lib.hid h6
    clear hm h6
    have hkl : k < xs.length := by rw [HL.out]; exact hlt
    have HKL := Lib.hid hkl
    clear hkl
    cases hnum : isNumB m.coef with
    | false =>
      have HB := Lib.hid (range_bad HKL.out (stepOk_mon HM.out (monOk_num (dim := dim) hnum)))
      go_wp2
      go_quiet ((go_at_call 57; exact quiet_same (sIsNumber_eq hnum _)))
      go_wp2
      go_ret
      exact ⟨ret_bool (by rw [HP.out, HB.out]), _, by rw [HW.out, World.drewN_drewN]⟩
    | true =>
    by_cases hz : m.coef = 0
    · have HB := Lib.hid (range_bad HKL.out (stepOk_mon HM.out (monOk_coef (dim := dim) hz)))
      have hzb : (m.coef == 0) = true := by simp [hz]
      clear hz
      go_wp2
      go_quiet ((go_at_call 57; exact quiet_same (sIsNumber_eq hnum _)))
      go_wp2
      go_ret
      exact ⟨ret_bool (by rw [HP.out, HB.out]), _, by rw [HW.out, World.drewN_drewN]⟩
    have hzb : (m.coef == 0) = false := by simpa using hz
    have HZ := Lib.hid hz
    clear hz
    by_cases hld : (len' : Int) = dim
    case neg =>
      have HB := Lib.hid (range_bad HKL.out (stepOk_mon HM.out (monOk_len (dim := dim) (by rw [H6.out]; exact hld))))
      have hldb : ((len' : Int) != dim) = true := by simpa using hld
      clear hld
      go_wp2
      go_quiet ((go_at_call 57; exact quiet_same (sIsNumber_eq hnum _)))
      go_wp2
      go_ret
      exact ⟨ret_bool (by rw [HP.out, HB.out]), _, by rw [HW.out, World.drewN_drewN]⟩
    have hldb : ((len' : Int) != dim) = false := by simpa using hld
    have hldle : (len' : Int) ≤ 6 := by omega
    have HLD := Lib.hid hld
    clear hld
    by_cases hk0 : k = 0
    · have HMO := Lib.hid (show 0 ≤ degZ m.pows ∧ degZ m.pows ≤ 5 → stepOkB dim xs k = true from fun hd => by
        have hm0 := HM.out
        rw [hk0] at hm0 ⊢
        exact stepOk_zero hm0 (monOk_yes (dim := dim) HZ.out hnum (by rw [H6.out]; exact HLD.out) hd))
      have hk0b : decide (0 < k) = false := by simp; omega
      clear hk0
      go_wp2
      go_quiet ((go_at_call 57; exact quiet_same (sIsNumber_eq hnum _)))
      clear hk0b
      go_wp2
      go_loopw [6, 7] (fun n j wq => ∃ (q : Nat) (s : Int), q ≤ len' ∧ j = .int .i64 q ∧ n = .int .i64 s ∧ 0 ≤ s ∧ s ≤ 5 * q ∧ s = (m.pows.take q).sum ∧ (m.pows.take q).all powIn = true ∧ ∃ m, wq = w.drewN m) (fun _ j _ => len' - (intOf j).toNat)
      case atStart => exact ⟨0, 0, Nat.zero_le _, rfl, rfl, by omega, by omega, by simp, by simp, _, by rw [HW.out, World.drewN_drewN]⟩
      case round =>
        obtain ⟨q, s, hq, rfl, rfl, hs0, hs1, hs, hpa, nd2, hwq⟩ := hrel
        have h'q : RdMs wr (.slice (some ⟨b, off, none⟩) len cap) xs := by rw [hwq]; exact rdMs_mono (blw_drewN (Below.refl _ _) nd2) h'
        have HS := Lib.hid hs
        have HPA := Lib.hid hpa
        have HWQ := Lib.hid hwq
        clear hs hpa hwq hc0 hc1 h9
        obtain ⟨b4, off4, ad4, len4, cap4, m4, hbe, hm4, hc0, hc1, _, h64, _, _, h94, _⟩ := rdMs_get h'q hlt
        simp only [Option.some.injEq, Addr.mk.injEq] at hbe
        obtain ⟨rfl, rfl, _⟩ := hbe
        obtain rfl : m = m4 := Option.some.inj (HM.out.symm.trans hm4)
        obtain rfl : len' = len4 := by have := H6.out; omega
        clear hm4 h64
        by_cases hql : q < len'
        · obtain ⟨b3, off3, x, rfl, hx, hcx, hIx, _⟩ := rdI_get h94 hql
          have HX := Lib.hid hx
          clear hx
          have hqd : (q : Int) < dim := by rw [← HLD.out]; omega
          cases hpx : powIn x with
          | true =>
            have hpxI : inB x 0 5 = true := hpx
            have hx5 : 0 ≤ x ∧ x ≤ 5 := by simpa [powIn] using hpx
            have hx50 := hx5.1
            have hx51 := hx5.2
            clear hx5
            go_wp2_with (go_at_call 21; ((with_reducible refine (l1In_eq hpxI _).mono ?_); rintro e w' ⟨rfl, rfl⟩))
            go_roundw
            case rel => exact ⟨q + 1, s + x, by omega, by go_num, rfl, by omega, by omega, by rw [sum_snoc HX.out, ← HS.out], all_snoc HX.out HPA.out hpx, _, HWQ.out⟩
            case measure => simp [intOf]; omega
          | false =>
            have hpxI : inB x 0 5 = false := hpx
            have HB := Lib.hid (range_bad HKL.out (stepOk_mon HM.out (monOk_deg (dim := dim) (by rw [degZ_bad HX.out hpx]; omega))))
            go_wp2_with (go_at_call 21; ((with_reducible refine (l1In_eq hpxI _).mono ?_); rintro e w' ⟨rfl, rfl⟩))
            go_ret
            exact ⟨ret_bool (by rw [HP.out, HB.out]), _, HWQ.out⟩
        · obtain rfl : q = len' := by omega
          have e1 := all_done (by rw [H6.out]; exact Nat.le_refl _) HPA.out
          have e2 := HS.out
          rw [List.take_of_length_le (by rw [H6.out]; exact Nat.le_refl _)] at e2
          have HDZ := Lib.hid (show degZ m.pows = s by rw [degZ, if_pos e1, e2])
          have hqd : ¬ (q : Int) < dim := by rw [← HLD.out]; omega
          clear e1 e2
          by_cases hs5 : s ≤ 5
          · have HB := Lib.hid (HMO.out (by rw [HDZ.out]; exact ⟨hs0, hs5⟩))
            go_wp2
            go_roundw
            case rel => exact ⟨k + 1, by omega, by go_num, range_snoc HA.out HB.out, _, HWQ.out⟩
            case measure => simp [intOf]; omega
          · have HB := Lib.hid (range_bad HKL.out (stepOk_mon HM.out (monOk_deg (dim := dim) (by rw [HDZ.out]; omega))))
            go_wp2
            go_ret
            exact ⟨ret_bool (by rw [HP.out, HB.out]), _, HWQ.out⟩
    · obtain ⟨b2, off2, ad2, len2, cap2, m2, hbe, hm2, hd0c, hd1c, hI2, h62, h72, h82, h92, _⟩ := rdMs_get h'r (k := k - 1) (by omega)
      simp only [Option.some.injEq, Addr.mk.injEq] at hbe
      obtain ⟨rfl, rfl, _⟩ := hbe
      have HM2 := Lib.hid hm2
      have hk1 : 1 ≤ k := by omega
      have hk0n : 0 < k := by omega
      have hk1i : (0 : Int) ≤ (k : Int) - 1 := by omega
      have hk2i : (k : Int) - 1 < len := by omega
      have hk3 : ((k : Int) - 1).toNat = k - 1 := by omega
      have hk5 : k - 1 < len := by omega
      have hk4 : IntKind.i64.wrap ((k : Int) - 1) = (k : Int) - 1 := IntWalk.i64_in _ (by omega)
      clear hm2 h62 hk0
      cases hlt2 : ltL m.pows m2.pows with
      | false =>
        have HB := Lib.hid (range_bad HKL.out (stepOk_less (dim := dim) HM.out hk0n HM2.out hlt2))
        go_wp2
        go_quiet ((first | (go_at_call 57; exact quiet_same (sIsNumber_eq hnum _)) | (go_at_call 58; exact quiet_qt (l2Less_eq _ _ m.pows m2.pows _ (rdI_drewN _ h9) (rdI_drewN _ h92) hlt2))))
        go_wp2
        go_ret
        exact ⟨ret_bool (by rw [HP.out, HB.out]), _, by rw [HW.out, World.drewN_drewN]⟩
      | true =>
        have HMO := Lib.hid (show 0 ≤ degZ m.pows ∧ degZ m.pows ≤ 5 → stepOkB dim xs k = true from fun hd => by
          obtain ⟨j, rfl⟩ : ∃ j, k = j + 1 := ⟨k - 1, by omega⟩
          rw [stepOk_succ HM.out HM2.out (monOk_yes (dim := dim) HZ.out hnum (by rw [H6.out]; exact HLD.out) hd)]
          exact hlt2)
        go_wp2
        go_quiet ((first | (go_at_call 57; exact quiet_same (sIsNumber_eq hnum _)) | (go_at_call 58; exact quiet_qt (l2Less_eq _ _ m.pows m2.pows _ (rdI_drewN _ h9) (rdI_drewN _ h92) hlt2))))
        clear hk4 hk3 hk1i hk2i hk5 h92 hd0c hd1c
        go_wp2
        go_loopw [6, 7] (fun n j wq => ∃ (q : Nat) (s : Int), q ≤ len' ∧ j = .int .i64 q ∧ n = .int .i64 s ∧ 0 ≤ s ∧ s ≤ 5 * q ∧ s = (m.pows.take q).sum ∧ (m.pows.take q).all powIn = true ∧ ∃ m, wq = w.drewN m) (fun _ j _ => len' - (intOf j).toNat)
        case atStart => exact ⟨0, 0, Nat.zero_le _, rfl, rfl, by omega, by omega, by simp, by simp, _, by rw [HW.out, World.drewN_drewN]⟩
        case round =>
          obtain ⟨q, s, hq, rfl, rfl, hs0, hs1, hs, hpa, nd2, hwq⟩ := hrel
          have h'q : RdMs wr (.slice (some ⟨b, off, none⟩) len cap) xs := by rw [hwq]; exact rdMs_mono (blw_drewN (Below.refl _ _) nd2) h'
          have HS := Lib.hid hs
          have HPA := Lib.hid hpa
          have HWQ := Lib.hid hwq
          clear hs hpa hwq hc0 hc1 h9
          obtain ⟨b4, off4, ad4, len4, cap4, m4, hbe, hm4, hc0, hc1, _, h64, _, _, h94, _⟩ := rdMs_get h'q hlt
          simp only [Option.some.injEq, Addr.mk.injEq] at hbe
          obtain ⟨rfl, rfl, _⟩ := hbe
          obtain rfl : m = m4 := Option.some.inj (HM.out.symm.trans hm4)
          obtain rfl : len' = len4 := by have := H6.out; omega
          clear hm4 h64
          by_cases hql : q < len'
          · obtain ⟨b3, off3, x, rfl, hx, hcx, hIx, _⟩ := rdI_get h94 hql
            have HX := Lib.hid hx
            clear hx
            have hqd : (q : Int) < dim := by rw [← HLD.out]; omega
            cases hpx : powIn x with
            | true =>
              have hpxI : inB x 0 5 = true := hpx
              have hx5 : 0 ≤ x ∧ x ≤ 5 := by simpa [powIn] using hpx
              have hx50 := hx5.1
              have hx51 := hx5.2
              clear hx5
              go_wp2_with (go_at_call 21; ((with_reducible refine (l1In_eq hpxI _).mono ?_); rintro e w' ⟨rfl, rfl⟩))
              go_roundw
              case rel => exact ⟨q + 1, s + x, by omega, by go_num, rfl, by omega, by omega, by rw [sum_snoc HX.out, ← HS.out], all_snoc HX.out HPA.out hpx, _, HWQ.out⟩
              case measure => simp [intOf]; omega
            | false =>
              have hpxI : inB x 0 5 = false := hpx
              have HB := Lib.hid (range_bad HKL.out (stepOk_mon HM.out (monOk_deg (dim := dim) (by rw [degZ_bad HX.out hpx]; omega))))
              go_wp2_with (go_at_call 21; ((with_reducible refine (l1In_eq hpxI _).mono ?_); rintro e w' ⟨rfl, rfl⟩))
              go_ret
              exact ⟨ret_bool (by rw [HP.out, HB.out]), _, HWQ.out⟩
          · obtain rfl : q = len' := by omega
            have e1 := all_done (by rw [H6.out]; exact Nat.le_refl _) HPA.out
            have e2 := HS.out
            rw [List.take_of_length_le (by rw [H6.out]; exact Nat.le_refl _)] at e2
            have HDZ := Lib.hid (show degZ m.pows = s by rw [degZ, if_pos e1, e2])
            have hqd : ¬ (q : Int) < dim := by rw [← HLD.out]; omega
            clear e1 e2
            by_cases hs5 : s ≤ 5
            · have HB := Lib.hid (HMO.out (by rw [HDZ.out]; exact ⟨hs0, hs5⟩))
              go_wp2
              go_roundw
              case rel => exact ⟨k + 1, by omega, by go_num, range_snoc HA.out HB.out, _, HWQ.out⟩
              case measure => simp [intOf]; omega
            · have HB := Lib.hid (range_bad HKL.out (stepOk_mon HM.out (monOk_deg (dim := dim) (by rw [HDZ.out]; omega))))
              go_wp2
              go_ret
              exact ⟨ret_bool (by rw [HP.out, HB.out]), _, HWQ.out⟩
end Go.Proofs.YtdaaamdighojdaaDoor
