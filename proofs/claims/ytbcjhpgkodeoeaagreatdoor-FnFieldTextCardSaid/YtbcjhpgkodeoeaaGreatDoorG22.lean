/- The reference's CollocationTableau: it returns some tableau. Conditions: short rows. -/
import Derived.Deep.RegionLaw
import Derived.Test.YtbcjhpgkodeoeaaGreatDoorG21
import Derived.Test.YtbcjhpgkodeoeaaGreatDoorG04
set_option linter.unusedSimpArgs false
set_option linter.unusedVariables false

namespace Go.Proofs.YtbcjhpgkodeoeaaGreatDoor
open Go.RowKit

set_option maxRecDepth 100000 in
set_option maxHeartbeats 6400000 in
theorem colloc_any (v : Value) (xs : List Int) (w : World) (h : RdI w v xs) (h40 : xs.length ≤ 40) : Calls Tryz.prog 170 #[v] w (GivesTab 3 w) := by
  obtain ⟨ji, hji, hji0, hji1, hji2⟩ := info_parts Tryz.info_int
  obtain ⟨ad, len, cap, rfl, hl, hlc, hcm, h'⟩ := rdS_open h
  rw [hl] at h40
  have HL := Lib.hid hl
  have hb0 : Below w.heap.size w (w.alloc (.cells #[.int .i64 0, .slice none 0 0, .slice none 0 0] 37)) := (Below.refl _ _).alloc (Nat.le_refl _) _
  have HNO := Lib.hid (fun (W : World) (hW : Below w.heap.size w W) => show GivesTab 3 w (.returned (.tuple #[.agg #[.int .i64 0, .slice none 0 0, .slice none 0 0], .bool false])) W from ⟨_, ⟨0, [], []⟩, [], false, rfl, tab_nil _, by simp, hW⟩)
  have HLIM := Lib.hid (show (len : Int) ≤ 40 from by omega)
  clear h hl
  cases hb1 : inB (len : Int) 1 8 with
  | false =>
    have HB1 := Lib.hid hb1
    clear hb1
    go_enter Tryz.func170, Tryz.ntmps170
    go_wp2_with (go_at_call 131; ((with_reducible refine (l1In_eq' HB1.out _).mono ?_); rintro e w' ⟨rfl, rfl⟩))
    exact bodyPost_ret (v := .tuple #[.agg #[.int .i64 0, .slice none 0 0, .slice none 0 0], .bool false]) (by simp [results, Tryz.results170, go_sem]) rfl (HNO.out _ hb0)
  | true =>
  have HB1 := Lib.hid hb1
  have h18 : 1 ≤ len ∧ len ≤ 8 := by have := of_decide_eq_true hb1; omega
  obtain ⟨h1len, h8len⟩ := h18
  clear hb1
  obtain ⟨W0, hW0⟩ : ∃ W, W = w.alloc (.cells #[.int .i64 0, .slice none 0 0, .slice none 0 0] 37) := ⟨_, rfl⟩
  have hszw : W0.heap.size = w.heap.size + 1 := by rw [hW0]; simp
  rw [← hW0] at hb0
  have HR := Lib.hid (fun (W : World) (hW : Below W0.heap.size W0 W) => rbox (w := w) (e := 37) (W := W) (a := .int .i64 0) (b := .slice none 0 0) (c := .slice none 0 0) (hW0 ▸ hW))
  have HW0 := Lib.hid hW0
  have HB0 := Lib.hid hb0
  have HSZ := Lib.hid hszw
  have h0' := rdI_mono hb0 h'
  clear hW0 hb0 hszw
  cases hd : diffB xs with
  | false =>
    have HD := Lib.hid hd
    clear hd
    go_enter Tryz.func170, Tryz.ntmps170
    go_wp2_with (first | (go_at_call 131; ((with_reducible refine (l1In_eq' HB1.out _).mono ?_); rintro e w' ⟨rfl, rfl⟩)) | fail)
    rw [← HW0.out]
    refine (l7Diff_any _ xs W0 h0').mono ?_
    rw [HD.out]
    rintro e w1 ⟨rfl, m, hw1⟩
    have hb1 : Below W0.heap.size W0 w1 := hw1 ▸ blw_drewN (Below.refl _ _) m
    obtain ⟨⟨x0, hr0⟩, ⟨x1, hr1⟩, ⟨x2, hr2⟩, hf0, hf1, hf2⟩ := HR.out w1 hb1
    have HB := Lib.hid (HB0.out.trans (hb1.mono HB0.out.size))
    clear hw1 hb1
    go_wp2
    exact bodyPost_ret (v := .tuple #[.agg #[.int .i64 0, .slice none 0 0, .slice none 0 0], .bool false]) (by simp [results, Tryz.results170, go_sem, hr0, hr1, hr2]) rfl (HNO.out _ (((HB.out.setCell (Nat.le_refl _) _).setCell (Nat.le_refl _) _).setCell (Nat.le_refl _) _))
  | true =>
  have HD := Lib.hid hd
  clear hd
  go_enter Tryz.func170, Tryz.ntmps170
  go_wp2_with (first | (go_at_call 131; ((with_reducible refine (l1In_eq' HB1.out _).mono ?_); rintro e w' ⟨rfl, rfl⟩)) | fail)
  rw [← HW0.out]
  refine (l7Diff_any _ xs W0 h0').mono ?_
  rw [HD.out]
  rintro e w1 ⟨rfl, m, hw1⟩
  have hb1 : Below W0.heap.size W0 w1 := hw1 ▸ blw_drewN (Below.refl _ _) m
  have HB1 := Lib.hid hb1
  have h1' := rdI_mono hb1 h0'
  clear hw1 hb1 h0'
  go_wp2_with fail
  refine (l7Weights_any _ xs 1 w1 h1' (by rw [HL.out]; omega)).mono ?_
  rintro e w2 ⟨vb, fb, rfl, hob, hfb, hb2⟩
  obtain ⟨adb, lb, cb, rfl, _, _, _, _, _, _⟩ := ownI_open hob
  obtain ⟨W3, hW3⟩ : ∃ W, W = w2.alloc (.cells #[.int .i64 (len : Int), .slice none 0 0, .slice adb lb cb] 37) := ⟨_, rfl⟩
  have hb3 : Below w2.heap.size w2 W3 := hW3 ▸ (Below.refl _ _).alloc (Nat.le_refl _) _
  have hb02 := HB1.out.trans (hb2.mono HB1.out.size)
  have HT0 := Lib.hid (show TBox 3 W0.heap.size W3 w2.heap.size (len : Int) (.slice none 0 0) (.slice adb lb cb) [] (weightsL xs 1) [] fb from by
    have h1s := HB1.out.size
    refine ⟨⟨World.ownsRow_nil _ _ _ _, rfl, by simp⟩, ownI_only hob (Only.of_below (fp := []) hb3) (by simp), by simp, fun b hb => ⟨by have := hfb b hb; omega, by have := ownI_lt hob b hb; omega⟩, by simp, hb02.size, ?_, ?_, ?_, ?_, ?_, ?_⟩ <;> rw [hW3] <;> simp)
  have HB03 := Lib.hid (hb02.trans (hb3.mono hb02.size))
  have HW3 := Lib.hid hW3
  clear hob hfb hb2 hW3 hb3 hb02 h1'
  go_wp2
  rw [← HW3.out]
  go_loopw [5] (fun si wq => ∃ (i : Nat) (vA : Value) (A fA : List _), i ≤ len ∧ si = .int .i64 i ∧ TBox 3 W0.heap.size wq w2.heap.size (len : Int) vA (.slice adb lb cb) A (weightsL xs 1) fA fb ∧ Below W0.heap.size W0 wq ∧ A.length ≤ 40 * i) (fun si _ => len - (intOf si).toNat)
  case atStart => exact ⟨0, _, [], [], Nat.zero_le _, rfl, HT0.out, HB03.out, by simp⟩
  case round =>
    obtain ⟨wk, rfl⟩ : ∃ W, W = wr := ⟨_, rfl⟩
    obtain ⟨i, vA, A, fA, hi, rfl, hT, hB, hA⟩ := hrel
    clear HT0 HB03
    obtain ⟨ada, la, ca, rfl, _, _, _, _, _, _⟩ := ownI_open hT.ownA
    by_cases hil : i < len
    case neg =>
      obtain ⟨⟨x0, hr0⟩, ⟨x1, hr1⟩, ⟨x2, hr2⟩, hf0, hf1, hf2⟩ := HR.out wk hB
      have c0 := hT.c0
      have c1 := hT.c1
      have c2 := hT.c2
      have HT := Lib.hid hT
      have HB := Lib.hid (HB0.out.trans (hB.mono HB0.out.size))
      clear hT hB
      go_wp2
      refine bodyPost_ret (v := .tuple #[.agg #[.int .i64 (len : Int), .slice ada la ca, .slice adb lb cb], .bool true]) (by simp [results, Tryz.results170, go_sem, hr0, hr1, hr2]) rfl ?_
      have ho : Only [w.heap.size] wk (((wk.setCell ⟨w.heap.size, 0, none⟩ (.int .i64 (len : Int))).setCell ⟨w.heap.size, 1, none⟩ (.slice ada la ca)).setCell ⟨w.heap.size, 2, none⟩ (.slice adb lb cb)) := (((Only.refl _ _).setCell (by simp) _).setCell (by simp) _).setCell (by simp) _
      have hsz := HSZ.out
      obtain ⟨t1, t2⟩ := HT.out.tab ⟨by omega, by omega⟩ ho (by simp; omega)
      exact ⟨_, _, _, true, rfl, t1, fun b hb => by have := t2 b hb; omega, ((HB.out.setCell (Nat.le_refl _) _).setCell (Nat.le_refl _) _).setCell (Nat.le_refl _) _⟩
    have hbw := HB0.out.trans (hB.mono HB0.out.size)
    obtain ⟨b5, off5, x, rfl, hx, hcx, hIx, _⟩ := rdI_get (rdI_mono hbw h') hil
    have hdr : Below wk.heap.size wk wk.drew := (Below.refl _ _).drew
    have HCL := Lib.hid (l7Weights_any _ xs x wk.drew (rdI_mono (hbw.trans (hdr.mono hbw.size)) h') (by rw [HL.out]; omega))
    have c1 := hT.c1
    have HT := Lib.hid hT
    have HB := Lib.hid hB
    have HDR := Lib.hid hdr
    have HAL := Lib.hid (show A.length + (weightsL xs x).length ≤ 1000000 from by
      have := weights_le xs x
      rw [HL.out] at this
      omega)
    have HAN := Lib.hid (show (A ++ weightsL xs x).length ≤ 40 * (i + 1) from by
      have := weights_le xs x
      rw [HL.out] at this
      simp
      omega)
    clear hT hB hbw hx hdr hA
    go_wp2
    go_region_law (first | (go_simp; go_at_call 166; (with_reducible refine (HCL.out).mono ?_); rintro e wa ⟨p, fp, rfl, hop, hfp, hba⟩; have hra := HDR.out.trans (hba.mono HDR.out.size); have hTa := HT.out.bel hra; have c1a := hTa.c1; have HTA := Lib.hid hTa; have HOP := Lib.hid hop; have HBA := Lib.hid (HB.out.trans (hra.mono HB.out.size)); clear hop hfp hba hra hTa) | (refine step_append_I _ (by rfl) _ _ 35 3 (by rfl) ji Tryz.underlying35 hji hji0 hji1 hji2 (v := .slice ada la ca) (vx := p) (by rfl) (by rfl) HTA.out.ownA (srcI_own HOP.out) HAL.out ?_; intro v' w' f' hv1 hv2 hv3; obtain ⟨adv, lv, cv, rfl, _⟩ := ownI_open hv1; obtain ⟨⟨hk1, hk2⟩, hTB, hon⟩ := HTA.out.putA hv3 hv1 hv2 HBA.out.size; have HTB := Lib.hid hTB; have HON := Lib.hid hon; clear hv1 hv2 hv3 hTB hon))
    all_goals (
      go_wp2
      go_roundw
      case rel =>
        exact ⟨i + 1, _, _, f', by omega, by go_num, HTB.out, below_newer HBA.out HON.out (fun b hb => by
          rcases List.mem_cons.1 hb with rfl | hb
          · exact HTA.out.hB
          · exact (HTA.out.newA b hb).1), HAN.out⟩
      case measure => simp [intOf]; omega)
end Go.Proofs.YtbcjhpgkodeoeaaGreatDoor
