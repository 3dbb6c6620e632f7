/- The reference's KnownTableau: some tableau. Conditions: none. -/
import Derived.Test.YtbcjhpgkodeoeaaG39
import Derived.Test.YtbcjhpgkodeoeaaG30
import Derived.Test.YtbcjhpgkodeoeaaG25
set_option linter.unusedSimpArgs false
set_option linter.unusedVariables false

namespace Go.Proofs.Ytbcjhpgkodeoeaa
open Go.RowKit Go.Sort

set_option maxRecDepth 100000 in
set_option maxHeartbeats 12800000 in
theorem sKnown_any (s : ByteArray) (w : World) : Calls Try.prog 26 #[.string s] w (GivesTab 3 w) := by
  obtain ⟨W0, hW0⟩ : ∃ W, W = w.alloc (.cells #[.int .i64 0, .slice none 0 0, .slice none 0 0] 26) := ⟨_, rfl⟩
  have hb0 : Below w.heap.size w W0 := hW0 ▸ (Below.refl _ _).alloc (Nat.le_refl _) _
  have hsz : W0.heap.size = w.heap.size + 1 := by rw [hW0]; simp
  have HR := Lib.hid (fun (W : World) (hW : Below W0.heap.size W0 W) => rbox (w := w) (e := 26) (W := W) (a := .int .i64 0) (b := .slice none 0 0) (c := .slice none 0 0) (hW0 ▸ hW))
  have HNO := Lib.hid (fun (W : World) (hW : Below w.heap.size w W) => show GivesTab 3 w (.returned (.tuple #[.agg #[.int .i64 0, .slice none 0 0, .slice none 0 0], .bool false])) W from ⟨_, ⟨0, [], []⟩, [], false, rfl, tab_nil _, by simp, hW⟩)
  have HW0 := Lib.hid hW0
  have HSZ := Lib.hid hsz
  have HB0 := Lib.hid hb0
  clear hW0 hsz hb0
  go_enter Try.func26, Try.ntmps26
  go_wp2_with fail
  rw [← HW0.out]
  refine (l7Text_any s W0).mono ?_
  rintro e w1 ⟨L1, rfl, hL1, hb1⟩
  obtain ⟨u1, hu1⟩ : ∃ u, u = ByteArray.mk L1.toArray := ⟨_, rfl⟩
  rw [show txt L1 = .string u1 from by rw [hu1]; rfl]
  have HB1 := Lib.hid hb1
  clear hb1 hL1 hu1
  obtain ⟨be, hbe⟩ : ∃ b, u1.toList.isEmpty = b := ⟨_, rfl⟩
  cases be with
  | false =>
    go_wp2_with fail
    refine (l7Text_any s w1).mono ?_
    rintro e w2 ⟨L2, rfl, hL2, hb2⟩
    obtain ⟨u2, hu2⟩ : ∃ u, u = ByteArray.mk L2.toArray := ⟨_, rfl⟩
    rw [show txt L2 = .string u2 from by rw [hu2]; rfl]
    have HPT := Lib.hid (sParTab_any L2 u2 hu2 hL2 w2)
    have HB2 := Lib.hid (HB1.out.trans (hb2.mono HB1.out.size))
    clear hu2 hL2 hb2
    go_wp2_with fail
    refine HPT.out.mono ?_
    rintro e wt ⟨vt, tt, ft, bt, rfl, hot, hft', hbt⟩
    have hft : ∀ b ∈ ft, W0.heap.size ≤ b := fun b hb => by have := hft' b hb; have := HB2.out.size; omega
    have HBT := Lib.hid (HB2.out.trans (hbt.mono HB2.out.size))
    clear hft' hbt
    obtain ⟨vA9, vB9, fA9, fB9, rfl, hI9, hoA9, hoB9, hf9, hn9⟩ := hot
    obtain ⟨adA9, lA9, cA9, rfl, _⟩ := ownI_open hoA9
    obtain ⟨adB9, lB9, cB9, rfl, _⟩ := ownI_open hoB9
    have HOT := Lib.hid (show OwnTab 3 wt (.agg #[.int .i64 tt.stages, .slice adA9 lA9 cA9, .slice adB9 lB9 cB9]) tt ft from ⟨_, _, fA9, fB9, rfl, hI9, hoA9, hoB9, hf9, hn9⟩)
    have HFT := Lib.hid (show ∀ b ∈ ft, W0.heap.size ≤ b from hft)
    obtain ⟨⟨x0, hr0⟩, ⟨x1, hr1⟩, ⟨x2, hr2⟩, hf0, hf1, hf2⟩ := HR.out wt HBT.out
    have HB := Lib.hid (HB0.out.trans (HBT.out.mono HB0.out.size))
    clear hI9 hoA9 hoB9 hf9 hn9 hft
    go_wp2
    refine bodyPost_ret (v := .tuple #[.agg #[.int .i64 tt.stages, .slice adA9 lA9 cA9, .slice adB9 lB9 cB9], .bool bt]) (by simp [results, Try.results26, go_sem, hr0, hr1, hr2]) rfl ?_
    have ho : Only [w.heap.size] wt (((wt.setCell ⟨w.heap.size, 0, none⟩ (.int .i64 tt.stages)).setCell ⟨w.heap.size, 1, none⟩ (.slice adA9 lA9 cA9)).setCell ⟨w.heap.size, 2, none⟩ (.slice adB9 lB9 cB9)) := (((Only.refl _ _).setCell (by simp) _).setCell (by simp) _).setCell (by simp) _
    have hsz := HSZ.out
    exact ⟨_, tt, ft, bt, rfl, ownTab_only HOT.out ho (fun b hb => by have := HFT.out b hb; simp; omega), fun b hb => by have := HFT.out b hb; omega, ((HB.out.setCell (Nat.le_refl _) _).setCell (Nat.le_refl _) _).setCell (Nat.le_refl _) _⟩
  | true =>
    go_wp2
    go_loopw [4] (fun si wq => ∃ i : Nat, i ≤ 4 ∧ si = .int .i64 ((i : Int) + 1) ∧ Below W0.heap.size W0 wq) (fun si _ => 5 - (intOf si).toNat)
    case atStart => exact ⟨0, by omega, rfl, HB1.out⟩
    case round =>
      obtain ⟨wk, rfl⟩ : ∃ W, W = wr := ⟨_, rfl⟩
      obtain ⟨i, hi, rfl, hB⟩ := hrel
      clear HB1
      by_cases hil : (i : Int) < 4
      case neg =>
        have hiI : ¬ ((i : Int) + 1 ≤ 4) := by omega
        obtain ⟨⟨x0, hr0⟩, ⟨x1, hr1⟩, ⟨x2, hr2⟩, hf0, hf1, hf2⟩ := HR.out wk hB
        have HB := Lib.hid (HB0.out.trans (hB.mono HB0.out.size))
        clear hB
        go_wp2
        exact bodyPost_ret (v := .tuple #[.agg #[.int .i64 0, .slice none 0 0, .slice none 0 0], .bool false]) (by simp [results, Try.results26, go_sem, hr0, hr1, hr2]) rfl (HNO.out _ (((HB.out.setCell (by simp) _).setCell (by simp) _).setCell (by simp) _))
      have hiI : ((i : Int) + 1 ≤ 4) := by omega
      have HBK := Lib.hid hB
      clear hB
      go_wp2_with fail
      refine (sDecimal_any ((i : Int) + 1) (by omega) (by omega) wk).mono ?_
      rintro e wd ⟨rfl, hbd⟩
      have HBD := Lib.hid (HBK.out.trans (hbd.mono HBK.out.size))
      have hdl := decZ_len (z := (i : Int) + 1) (by omega) (by omega)
      obtain ⟨u, hu⟩ : ∃ u, u = ByteArray.mk (decZ ((i : Int) + 1)).toArray := ⟨_, rfl⟩
      rw [show txt (decZ ((i : Int) + 1)) = .string u from by rw [hu]; rfl]
      obtain ⟨v1, hv1⟩ : ∃ v, v = ByteArray.mk ([103, 97, 117, 115, 115] ++ decZ ((i : Int) + 1)).toArray := ⟨_, rfl⟩
      obtain ⟨v2, hv2⟩ : ∃ v, v = ByteArray.mk ([114, 97, 100, 97, 117] ++ decZ ((i : Int) + 1)).toArray := ⟨_, rfl⟩
      obtain ⟨v3, hv3⟩ : ∃ v, v = ByteArray.mk ([108, 111, 98, 97, 116, 116, 111] ++ decZ ((i : Int) + 1)).toArray := ⟨_, rfl⟩
      have hc1 : ∀ w : World, (Op.stringOp .add (ByteArray.mk #[103, 97, 117, 115, 115]) u).run Try.prog w = .ok (.string v1) w := fun w => by
        rw [hu, hv1]
        exact cat_run [103, 97, 117, 115, 115] _ (by simp only [List.length_cons, List.length_nil]; omega) w
      have hc2 : ∀ w : World, (Op.stringOp .add (ByteArray.mk #[114, 97, 100, 97, 117]) u).run Try.prog w = .ok (.string v2) w := fun w => by
        rw [hu, hv2]
        exact cat_run [114, 97, 100, 97, 117] _ (by simp only [List.length_cons, List.length_nil]; omega) w
      have hc3 : ∀ w : World, (Op.stringOp .add (ByteArray.mk #[108, 111, 98, 97, 116, 116, 111]) u).run Try.prog w = .ok (.string v3) w := fun w => by
        rw [hu, hv3]
        exact cat_run [108, 111, 98, 97, 116, 116, 111] _ (by simp only [List.length_cons, List.length_nil]; omega) w
      clear hbd hu hv1 hv2 hv3 hdl
      obtain ⟨b1, hb1⟩ : ∃ b, (s.toList == v1.toList) = b := ⟨_, rfl⟩
      obtain ⟨b2, hb2⟩ : ∃ b, (s.toList == v2.toList) = b := ⟨_, rfl⟩
      obtain ⟨b3, hb3⟩ : ∃ b, (s.toList == v3.toList) = b := ⟨_, rfl⟩
      cases b1 with
      | true =>
        go_wp2_with fail
        refine (sGauss_any _ wd).mono ?_
        rintro e wn ⟨vn, xs, fn, rfl, hon, hxn, hxl, hfn, hbn⟩
        obtain ⟨adn, ln, cn, rfl, _⟩ := ownI_open hon
        have HCT := Lib.hid (colloc_any _ xs wn (ownI_rd hon) (by omega))
        have HBN := Lib.hid (HBD.out.trans (hbn.mono HBD.out.size))
        clear hon hxn hxl hfn hbn
        go_wp2_with fail
        refine HCT.out.mono ?_
        rintro e wt ⟨vt, tt, ft, bt, rfl, hot, hft', hbt⟩
        have hft : ∀ b ∈ ft, W0.heap.size ≤ b := fun b hb => by have := hft' b hb; have := HBN.out.size; omega
        have HBT := Lib.hid (HBN.out.trans (hbt.mono HBN.out.size))
        clear hft' hbt
        obtain ⟨vA9, vB9, fA9, fB9, rfl, hI9, hoA9, hoB9, hf9, hn9⟩ := hot
        obtain ⟨adA9, lA9, cA9, rfl, _⟩ := ownI_open hoA9
        obtain ⟨adB9, lB9, cB9, rfl, _⟩ := ownI_open hoB9
        have HOT := Lib.hid (show OwnTab 3 wt (.agg #[.int .i64 tt.stages, .slice adA9 lA9 cA9, .slice adB9 lB9 cB9]) tt ft from ⟨_, _, fA9, fB9, rfl, hI9, hoA9, hoB9, hf9, hn9⟩)
        have HFT := Lib.hid (show ∀ b ∈ ft, W0.heap.size ≤ b from hft)
        obtain ⟨⟨x0, hr0⟩, ⟨x1, hr1⟩, ⟨x2, hr2⟩, hf0, hf1, hf2⟩ := HR.out wt HBT.out
        have HB := Lib.hid (HB0.out.trans (HBT.out.mono HB0.out.size))
        clear hI9 hoA9 hoB9 hf9 hn9 hft
        go_wp2
        refine bodyPost_ret (v := .tuple #[.agg #[.int .i64 tt.stages, .slice adA9 lA9 cA9, .slice adB9 lB9 cB9], .bool bt]) (by simp [results, Try.results26, go_sem, hr0, hr1, hr2]) rfl ?_
        have ho : Only [w.heap.size] wt (((wt.setCell ⟨w.heap.size, 0, none⟩ (.int .i64 tt.stages)).setCell ⟨w.heap.size, 1, none⟩ (.slice adA9 lA9 cA9)).setCell ⟨w.heap.size, 2, none⟩ (.slice adB9 lB9 cB9)) := (((Only.refl _ _).setCell (by simp) _).setCell (by simp) _).setCell (by simp) _
        have hsz := HSZ.out
        exact ⟨_, tt, ft, bt, rfl, ownTab_only HOT.out ho (fun b hb => by have := HFT.out b hb; simp; omega), fun b hb => by have := HFT.out b hb; omega, ((HB.out.setCell (Nat.le_refl _) _).setCell (Nat.le_refl _) _).setCell (Nat.le_refl _) _⟩
      | false =>
        cases b2 with
        | true =>
          go_wp2_with fail
          refine (sRadau_any _ wd).mono ?_
          rintro e wn ⟨vn, xs, fn, rfl, hon, hxn, hxl, hfn, hbn⟩
          obtain ⟨adn, ln, cn, rfl, _⟩ := ownI_open hon
          have HCT := Lib.hid (colloc_any _ xs wn (ownI_rd hon) (by omega))
          have HBN := Lib.hid (HBD.out.trans (hbn.mono HBD.out.size))
          clear hon hxn hxl hfn hbn
          go_wp2_with fail
          refine HCT.out.mono ?_
          rintro e wt ⟨vt, tt, ft, bt, rfl, hot, hft', hbt⟩
          have hft : ∀ b ∈ ft, W0.heap.size ≤ b := fun b hb => by have := hft' b hb; have := HBN.out.size; omega
          have HBT := Lib.hid (HBN.out.trans (hbt.mono HBN.out.size))
          clear hft' hbt
          obtain ⟨vA9, vB9, fA9, fB9, rfl, hI9, hoA9, hoB9, hf9, hn9⟩ := hot
          obtain ⟨adA9, lA9, cA9, rfl, _⟩ := ownI_open hoA9
          obtain ⟨adB9, lB9, cB9, rfl, _⟩ := ownI_open hoB9
          have HOT := Lib.hid (show OwnTab 3 wt (.agg #[.int .i64 tt.stages, .slice adA9 lA9 cA9, .slice adB9 lB9 cB9]) tt ft from ⟨_, _, fA9, fB9, rfl, hI9, hoA9, hoB9, hf9, hn9⟩)
          have HFT := Lib.hid (show ∀ b ∈ ft, W0.heap.size ≤ b from hft)
          obtain ⟨⟨x0, hr0⟩, ⟨x1, hr1⟩, ⟨x2, hr2⟩, hf0, hf1, hf2⟩ := HR.out wt HBT.out
          have HB := Lib.hid (HB0.out.trans (HBT.out.mono HB0.out.size))
          clear hI9 hoA9 hoB9 hf9 hn9 hft
          go_wp2
          refine bodyPost_ret (v := .tuple #[.agg #[.int .i64 tt.stages, .slice adA9 lA9 cA9, .slice adB9 lB9 cB9], .bool bt]) (by simp [results, Try.results26, go_sem, hr0, hr1, hr2]) rfl ?_
          have ho : Only [w.heap.size] wt (((wt.setCell ⟨w.heap.size, 0, none⟩ (.int .i64 tt.stages)).setCell ⟨w.heap.size, 1, none⟩ (.slice adA9 lA9 cA9)).setCell ⟨w.heap.size, 2, none⟩ (.slice adB9 lB9 cB9)) := (((Only.refl _ _).setCell (by simp) _).setCell (by simp) _).setCell (by simp) _
          have hsz := HSZ.out
          exact ⟨_, tt, ft, bt, rfl, ownTab_only HOT.out ho (fun b hb => by have := HFT.out b hb; simp; omega), fun b hb => by have := HFT.out b hb; omega, ((HB.out.setCell (Nat.le_refl _) _).setCell (Nat.le_refl _) _).setCell (Nat.le_refl _) _⟩
        | false =>
          cases b3 with
          | true =>
            go_wp2_with fail
            refine (sLobatto_any _ wd).mono ?_
            rintro e wn ⟨vn, xs, fn, rfl, hon, hxn, hxl, hfn, hbn⟩
            obtain ⟨adn, ln, cn, rfl, _⟩ := ownI_open hon
            have HCT := Lib.hid (colloc_any _ xs wn (ownI_rd hon) (by omega))
            have HBN := Lib.hid (HBD.out.trans (hbn.mono HBD.out.size))
            clear hon hxn hxl hfn hbn
            go_wp2_with fail
            refine HCT.out.mono ?_
            rintro e wt ⟨vt, tt, ft, bt, rfl, hot, hft', hbt⟩
            have hft : ∀ b ∈ ft, W0.heap.size ≤ b := fun b hb => by have := hft' b hb; have := HBN.out.size; omega
            have HBT := Lib.hid (HBN.out.trans (hbt.mono HBN.out.size))
            clear hft' hbt
            obtain ⟨vA9, vB9, fA9, fB9, rfl, hI9, hoA9, hoB9, hf9, hn9⟩ := hot
            obtain ⟨adA9, lA9, cA9, rfl, _⟩ := ownI_open hoA9
            obtain ⟨adB9, lB9, cB9, rfl, _⟩ := ownI_open hoB9
            have HOT := Lib.hid (show OwnTab 3 wt (.agg #[.int .i64 tt.stages, .slice adA9 lA9 cA9, .slice adB9 lB9 cB9]) tt ft from ⟨_, _, fA9, fB9, rfl, hI9, hoA9, hoB9, hf9, hn9⟩)
            have HFT := Lib.hid (show ∀ b ∈ ft, W0.heap.size ≤ b from hft)
            obtain ⟨⟨x0, hr0⟩, ⟨x1, hr1⟩, ⟨x2, hr2⟩, hf0, hf1, hf2⟩ := HR.out wt HBT.out
            have HB := Lib.hid (HB0.out.trans (HBT.out.mono HB0.out.size))
            clear hI9 hoA9 hoB9 hf9 hn9 hft
            go_wp2
            refine bodyPost_ret (v := .tuple #[.agg #[.int .i64 tt.stages, .slice adA9 lA9 cA9, .slice adB9 lB9 cB9], .bool bt]) (by simp [results, Try.results26, go_sem, hr0, hr1, hr2]) rfl ?_
            have ho : Only [w.heap.size] wt (((wt.setCell ⟨w.heap.size, 0, none⟩ (.int .i64 tt.stages)).setCell ⟨w.heap.size, 1, none⟩ (.slice adA9 lA9 cA9)).setCell ⟨w.heap.size, 2, none⟩ (.slice adB9 lB9 cB9)) := (((Only.refl _ _).setCell (by simp) _).setCell (by simp) _).setCell (by simp) _
            have hsz := HSZ.out
            exact ⟨_, tt, ft, bt, rfl, ownTab_only HOT.out ho (fun b hb => by have := HFT.out b hb; simp; omega), fun b hb => by have := HFT.out b hb; omega, ((HB.out.setCell (Nat.le_refl _) _).setCell (Nat.le_refl _) _).setCell (Nat.le_refl _) _⟩
          | false =>
            go_wp2
            go_roundw
            case rel => exact ⟨i + 1, by omega, by go_num, HBD.out⟩
            case measure => simp [intOf]; omega
end Go.Proofs.Ytbcjhpgkodeoeaa
