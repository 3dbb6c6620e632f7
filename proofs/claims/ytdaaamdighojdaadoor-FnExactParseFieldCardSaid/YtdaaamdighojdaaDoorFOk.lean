/- The tests on fields, of the program and of the reference: what they return. Conditions: polynomials whose powers have at most 1048576 elements. -/
import Derived.Test.YtdaaamdighojdaaDoorSPoly
set_option linter.unusedSimpArgs false
set_option linter.unusedVariables false
namespace Go.Proofs.YtdaaamdighojdaaDoor
open Go.RowKit Go.Sort

def fldOkB (f : FldZ) : Bool := dimB f.dim && decide ((f.parts.length : Int) = f.dim) && f.parts.all (polyOkB · f.dim)
theorem fldOkB_dim {f : FldZ} (h : dimB f.dim = false) : fldOkB f = false := by simp [fldOkB, h]
theorem fldOkB_len {f : FldZ} (h : (f.parts.length : Int) ≠ f.dim) : fldOkB f = false := by simp [fldOkB, h]
theorem fldOkB_all {f : FldZ} (h1 : dimB f.dim = true) (h2 : (f.parts.length : Int) = f.dim) : fldOkB f = f.parts.all (polyOkB · f.dim) := by simp [fldOkB, h1, h2]

theorem polyOk_eq {b : Bool} (v : Value) (xs : List MonZ) (dim : Int) (w : World) (h : RdMs w v xs) (hfit : ∀ m ∈ xs, Fit_Mon m) (hb : polyOkB xs dim = b) :
    Calls Tryd.prog 47 #[v, .int .i64 dim] w fun e w' => e = .returned (.bool b) ∧ Below w.heap.size w w' := hb ▸ polyOk_any v xs dim w h hfit
theorem sPolyOk_eq {b : Bool} (v : Value) (xs : List MonZ) (dim : Int) (w : World) (h : RdMs w v xs) (hb : polyOkB xs dim = b) :
    Calls Tryd.prog 37 #[v, .int .i64 dim] w (Qt (.bool b) w) := hb ▸ sPolyOk_any v xs dim w h

set_option maxHeartbeats 1600000 in
theorem fldOk_any (v : Value) (f : FldZ) (w : World) (h : RdFld w v f) (hfit : ∀ p ∈ f.parts, ∀ m ∈ p, Fit_Mon m) :
    Calls Tryd.prog 28 #[v] w fun e w' => e = .returned (.bool (fldOkB f)) ∧ Below w.heap.size w w' := by
  obtain ⟨vP, rfl, hI, hp⟩ := h
  obtain ⟨W, hW⟩ : ∃ W, W = w.alloc (.cells #[.int .i64 f.dim, vP] 24) := ⟨_, rfl⟩
  have hb0 : Below w.heap.size w W := hW ▸ (Below.refl _ _).alloc (Nat.le_refl _) _
  have hpW := rdMss_mono hb0 hp
  obtain ⟨ad, len, cap, rfl, hl, hlc, hcm, h'⟩ := rdS_open hpW
  have HL := Lib.hid hl
  have HF := Lib.hid hfit
  have hsz : W.heap.size = w.heap.size + 1 := by rw [hW]; simp
  have hd0 : W.cell? ⟨w.heap.size, 0, none⟩ = some (.int .i64 f.dim) := by rw [hW]; simp
  have hd1 : W.cell? ⟨w.heap.size, 1, none⟩ = some (.slice ad len cap) := by rw [hW]; simp
  have HW := Lib.hid hW
  have HSZ := Lib.hid hsz
  have HB0 := Lib.hid hb0
  clear hl hfit hp hpW hsz hW
  cases hdim : dimB f.dim with
  | false =>
    have HP := Lib.hid (fldOkB_dim hdim)
    go_enter Tryd.func28, Tryd.ntmps28
    go_wp2_with (go_at_call 13; ((with_reducible refine (isDim_eq hdim _).mono ?_); rintro e w' ⟨rfl, rfl⟩))
    go_ret
    exact ⟨ret_bool HP.out.symm, by rw [← HW.out]; exact hb0⟩
  | true =>
  by_cases hld : (len : Int) = f.dim
  case neg =>
    have hldb : ((len : Int) != f.dim) = true := by simpa using hld
    have HP := Lib.hid (fldOkB_len (f := f) (by rw [HL.out]; exact hld))
    clear hld
    go_enter Tryd.func28, Tryd.ntmps28
    go_wp2_with (go_at_call 13; ((with_reducible refine (isDim_eq hdim _).mono ?_); rintro e w' ⟨rfl, rfl⟩))
    go_ret
    exact ⟨ret_bool HP.out.symm, by rw [← HW.out]; exact hb0⟩
  have hldb : ((len : Int) != f.dim) = false := by simpa using hld
  have HP := Lib.hid (fldOkB_all hdim (by rw [HL.out]; exact hld))
  clear hld
  go_enter Tryd.func28, Tryd.ntmps28
  go_wp2_with (go_at_call 13; ((with_reducible refine (isDim_eq hdim _).mono ?_); rintro e w' ⟨rfl, rfl⟩))
  rw [← HW.out]
  go_loopw [20] (fun i wr => ∃ k : Nat, k ≤ len ∧ i = .int .i64 k ∧ (f.parts.take k).all (polyOkB · f.dim) = true ∧ Below W.heap.size W wr) (fun i _ => len - (intOf i).toNat)
  case atStart => exact ⟨0, Nat.zero_le _, rfl, by simp, Below.refl _ _⟩
  case round =>
    obtain ⟨k, hk, rfl, ha, hbw⟩ := hrel
    have HA := Lib.hid ha
    clear ha
    have h'r := rdMss_mono hbw h'
    have hc0 : wr.cell? ⟨w.heap.size, 0, none⟩ = some (.int .i64 f.dim) := (hbw.cell (p := ⟨w.heap.size, 0, none⟩) (by rw [HSZ.out]; simp)).trans hd0
    by_cases hlt : k < len
    case neg =>
      go_wp2
      go_ret
      exact ⟨ret_bool (by rw [HP.out]; exact (all_done (by rw [HL.out]; omega) HA.out).symm), HB0.out.trans (hbw.mono HB0.out.size)⟩
    obtain ⟨b, off, ad', len', cap', x, rfl, hx, hcx, h6, h7, h8, h9, hbs⟩ := rdMss_get h'r hlt
    have HX := Lib.hid hx
    have hfx : ∀ m ∈ x, Fit_Mon m := HF.out x (List.mem_of_getElem? hx)
    clear hx h6
    cases hok : polyOkB x f.dim with
    | true =>
      go_wp2_with fail
      refine (polyOk_eq _ x _ _ h9 hfx hok).mono ?_
      rintro e w1 ⟨rfl, hb1⟩
      go_wp2
      go_roundw
      case rel => exact ⟨k + 1, by omega, by go_num, all_snoc HX.out HA.out hok, hbw.trans (hb1.mono hbw.size)⟩
      case measure => simp [intOf]; omega
    | false =>
      go_wp2_with fail
      refine (polyOk_eq _ x _ _ h9 hfx hok).mono ?_
      rintro e w1 ⟨rfl, hb1⟩
      have hbx := hbw.trans (hb1.mono hbw.size)
      go_wp2
      go_ret
      exact ⟨ret_bool (by rw [HP.out]; exact (all_false HX.out hok).symm), HB0.out.trans (hbx.mono HB0.out.size)⟩
theorem fldOk_eq {b : Bool} (v : Value) (f : FldZ) (w : World) (h : RdFld w v f) (hfit : ∀ p ∈ f.parts, ∀ m ∈ p, Fit_Mon m) (hb : fldOkB f = b) :
    Calls Tryd.prog 28 #[v] w fun e w' => e = .returned (.bool b) ∧ Below w.heap.size w w' := hb ▸ fldOk_any v f w h hfit

set_option maxHeartbeats 1600000 in
theorem sFldOk_any (v : Value) (f : FldZ) (w : World) (h : RdFld w v f) :
    Calls Tryd.prog 23 #[v] w fun e w' => e = .returned (.bool (fldOkB f)) ∧ Below w.heap.size w w' := by
  obtain ⟨vP, rfl, hI, hp⟩ := h
  obtain ⟨W, hW⟩ : ∃ W, W = w.alloc (.cells #[.int .i64 f.dim, vP] 24) := ⟨_, rfl⟩
  have hb0 : Below w.heap.size w W := hW ▸ (Below.refl _ _).alloc (Nat.le_refl _) _
  have hpW := rdMss_mono hb0 hp
  obtain ⟨ad, len, cap, rfl, hl, hlc, hcm, h'⟩ := rdS_open hpW
  have HL := Lib.hid hl
  have hsz : W.heap.size = w.heap.size + 1 := by rw [hW]; simp
  have hd0 : W.cell? ⟨w.heap.size, 0, none⟩ = some (.int .i64 f.dim) := by rw [hW]; simp
  have hd1 : W.cell? ⟨w.heap.size, 1, none⟩ = some (.slice ad len cap) := by rw [hW]; simp
  have HW := Lib.hid hW
  have HSZ := Lib.hid hsz
  have HB0 := Lib.hid hb0
  clear hl hp hpW hsz hW
  cases hdim : dimB f.dim with
  | false =>
    have hdimI : inB f.dim 1 6 = false := hdim
    have HP := Lib.hid (fldOkB_dim hdim)
    go_enter Tryd.func23, Tryd.ntmps23
    go_wp2_with (go_at_call 21; ((with_reducible refine (l1In_eq hdimI _).mono ?_); rintro e w' ⟨rfl, rfl⟩))
    go_ret
    exact ⟨ret_bool HP.out.symm, by rw [← HW.out]; exact hb0⟩
  | true =>
  have hdimI : inB f.dim 1 6 = true := hdim
  by_cases hld : (len : Int) = f.dim
  case neg =>
    have hldb : ((len : Int) != f.dim) = true := by simpa using hld
    have HP := Lib.hid (fldOkB_len (f := f) (by rw [HL.out]; exact hld))
    clear hld
    go_enter Tryd.func23, Tryd.ntmps23
    go_wp2_with (go_at_call 21; ((with_reducible refine (l1In_eq hdimI _).mono ?_); rintro e w' ⟨rfl, rfl⟩))
    go_ret
    exact ⟨ret_bool HP.out.symm, by rw [← HW.out]; exact hb0⟩
  have hldb : ((len : Int) != f.dim) = false := by simpa using hld
  have HLD := Lib.hid hld
  have HP := Lib.hid (fldOkB_all hdim (by rw [HL.out]; exact hld))
  clear hld
  go_enter Tryd.func23, Tryd.ntmps23
  go_wp2_with (go_at_call 21; ((with_reducible refine (l1In_eq hdimI _).mono ?_); rintro e w' ⟨rfl, rfl⟩))
  rw [← HW.out]
  go_loopw [3] (fun i wr => ∃ k : Nat, k ≤ len ∧ i = .int .i64 k ∧ (f.parts.take k).all (polyOkB · f.dim) = true ∧ Below W.heap.size W wr) (fun i _ => len - (intOf i).toNat)
  case atStart => exact ⟨0, Nat.zero_le _, rfl, by simp, Below.refl _ _⟩
  case round =>
    obtain ⟨k, hk, rfl, ha, hbw⟩ := hrel
    have HA := Lib.hid ha
    clear ha
    have h'r := rdMss_mono hbw h'
    have hc0 : wr.cell? ⟨w.heap.size, 0, none⟩ = some (.int .i64 f.dim) := (hbw.cell (p := ⟨w.heap.size, 0, none⟩) (by rw [HSZ.out]; simp)).trans hd0
    have hc1 : wr.cell? ⟨w.heap.size, 1, none⟩ = some (.slice ad len cap) := (hbw.cell (p := ⟨w.heap.size, 1, none⟩) (by rw [HSZ.out]; simp)).trans hd1
    by_cases hlt : k < len
    case neg =>
      have hkd : ¬ (k : Int) < f.dim := by rw [← HLD.out]; omega
      go_wp2
      go_ret
      exact ⟨ret_bool (by rw [HP.out]; exact (all_done (by rw [HL.out]; omega) HA.out).symm), HB0.out.trans (hbw.mono HB0.out.size)⟩
    have hkd : (k : Int) < f.dim := by rw [← HLD.out]; omega
    obtain ⟨b, off, ad', len', cap', x, rfl, hx, hcx, h6, h7, h8, h9, hbs⟩ := rdMss_get h'r hlt
    have HX := Lib.hid hx
    clear hx h6
    cases hok : polyOkB x f.dim with
    | true =>
      go_wp2
      go_quiet ((go_at_call 37; exact quiet_qt (sPolyOk_eq _ x _ _ (rdMs_mono (blw_drewN (Below.refl _ _) _) h9) hok)))
      go_wp2
      go_roundw
      case rel => exact ⟨k + 1, by omega, by go_num, all_snoc HX.out HA.out hok, blw_drewN hbw _⟩
      case measure => simp [intOf]; omega
    | false =>
      go_wp2
      go_quiet ((go_at_call 37; exact quiet_qt (sPolyOk_eq _ x _ _ (rdMs_mono (blw_drewN (Below.refl _ _) _) h9) hok)))
      go_wp2
      go_ret
      exact ⟨ret_bool (by rw [HP.out]; exact (all_false HX.out hok).symm), blw_drewN (HB0.out.trans (hbw.mono HB0.out.size)) _⟩
theorem sFldOk_eq {b : Bool} (v : Value) (f : FldZ) (w : World) (h : RdFld w v f) (hb : fldOkB f = b) :
    Calls Tryd.prog 23 #[v] w fun e w' => e = .returned (.bool b) ∧ Below w.heap.size w w' := hb ▸ sFldOk_any v f w h
end Go.Proofs.YtdaaamdighojdaaDoor
