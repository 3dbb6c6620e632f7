/- The texts KnoK, AZero, TComp in one: each says at its head what it proves. Conditions: as said there. -/
import Derived.Lib.AppendZeros
import Derived.Lib.AppendZerosOnto
import Derived.Lib.SliceRun
import Derived.Deep.AppendLies
import Derived.Maps.AppendAt
import Derived.Deep.RegionLaw
import Derived.Test.YtbcjhpgkodeoeaaGreatDoorG29
import Derived.Test.YtbcjhpgkodeoeaaGreatDoorG22
import Derived.Test.YtbcjhpgkodeoeaaGreatDoorG17
import Derived.Test.YtbcjhpgkodeoeaaGreatDoorG01
import Derived.Test.YtbcjhpgkodeoeaaGreatDoorG04
import Derived.Test.YtbcjhpgkodeoeaaGreatDoorG28
set_option linter.unusedSimpArgs false
set_option linter.unusedVariables false
/- The reference's KnownTableau: some tableau. Conditions: none. -/
namespace Go.Proofs.YtbcjhpgkodeoeaaGreatDoor
open Go.RowKit Go.Sort

set_option maxRecDepth 100000 in
set_option maxHeartbeats 12800000 in
theorem sKnown_any (s : ByteArray) (w : World) : Calls Tryz.prog 136 #[.string s] w (GivesTab 3 w) := by
  obtain ⟨W0, hW0⟩ : ∃ W, W = w.alloc (.cells #[.int .i64 0, .slice none 0 0, .slice none 0 0] 37) := ⟨_, rfl⟩
  have hb0 : Below w.heap.size w W0 := hW0 ▸ (Below.refl _ _).alloc (Nat.le_refl _) _
  have hsz : W0.heap.size = w.heap.size + 1 := by rw [hW0]; simp
  have HR := Lib.hid (fun (W : World) (hW : Below W0.heap.size W0 W) => rbox (w := w) (e := 37) (W := W) (a := .int .i64 0) (b := .slice none 0 0) (c := .slice none 0 0) (hW0 ▸ hW))
  have HNO := Lib.hid (fun (W : World) (hW : Below w.heap.size w W) => show GivesTab 3 w (.returned (.tuple #[.agg #[.int .i64 0, .slice none 0 0, .slice none 0 0], .bool false])) W from ⟨_, ⟨0, [], []⟩, [], false, rfl, tab_nil _, by simp, hW⟩)
  have HW0 := Lib.hid hW0
  have HSZ := Lib.hid hsz
  have HB0 := Lib.hid hb0
  clear hW0 hsz hb0
  go_enter Tryz.func136, Tryz.ntmps136
  go_wp2_with fail
  rw [← HW0.out]
  refine (l7Text_any s W0).mono ?_
  rintro e w1 ⟨L1, rfl, hL1, hb1⟩
  obtain ⟨u1, hu1⟩ : ∃ u, u = ByteArray.mk L1.toArray := ⟨_, rfl⟩
  rw [show txt L1 = .string u1 from by rw [hu1]; rfl]
  have HB1 := Lib.hid hb1
  clear hb1 hL1 hu1
  obtain ⟨be, hbe⟩ : ∃ b, u1.toList.isEmpty = b := ⟨_, rfl⟩
  cases be with
  | false =>
    go_wp2_with fail
    refine (l7Text_any s w1).mono ?_
    rintro e w2 ⟨L2, rfl, hL2, hb2⟩
    obtain ⟨u2, hu2⟩ : ∃ u, u = ByteArray.mk L2.toArray := ⟨_, rfl⟩
    rw [show txt L2 = .string u2 from by rw [hu2]; rfl]
    have HPT := Lib.hid (sParTab_any L2 u2 hu2 hL2 w2)
    have HB2 := Lib.hid (HB1.out.trans (hb2.mono HB1.out.size))
    clear hu2 hL2 hb2
    go_wp2_with fail
    refine HPT.out.mono ?_
    rintro e wt ⟨vt, tt, ft, bt, rfl, hot, hft', hbt⟩
    have hft : ∀ b ∈ ft, W0.heap.size ≤ b := fun b hb => by have := hft' b hb; have := HB2.out.size; omega
    have HBT := Lib.hid (HB2.out.trans (hbt.mono HB2.out.size))
    clear hft' hbt
    obtain ⟨vA9, vB9, fA9, fB9, rfl, hI9, hoA9, hoB9, hf9, hn9⟩ := hot
    obtain ⟨adA9, lA9, cA9, rfl, _⟩ := ownI_open hoA9
    obtain ⟨adB9, lB9, cB9, rfl, _⟩ := ownI_open hoB9
    have HOT := Lib.hid (show OwnTab 3 wt (.agg #[.int .i64 tt.stages, .slice adA9 lA9 cA9, .slice adB9 lB9 cB9]) tt ft from ⟨_, _, fA9, fB9, rfl, hI9, hoA9, hoB9, hf9, hn9⟩)
    have HFT := Lib.hid (show ∀ b ∈ ft, W0.heap.size ≤ b from hft)
    obtain ⟨⟨x0, hr0⟩, ⟨x1, hr1⟩, ⟨x2, hr2⟩, hf0, hf1, hf2⟩ := HR.out wt HBT.out
    have HB := Lib.hid (HB0.out.trans (HBT.out.mono HB0.out.size))
    clear hI9 hoA9 hoB9 hf9 hn9 hft
    go_wp2
    refine bodyPost_ret (v := .tuple #[.agg #[.int .i64 tt.stages, .slice adA9 lA9 cA9, .slice adB9 lB9 cB9], .bool bt]) (by simp [results, Tryz.results136, go_sem, hr0, hr1, hr2]) rfl ?_
    have ho : Only [w.heap.size] wt (((wt.setCell ⟨w.heap.size, 0, none⟩ (.int .i64 tt.stages)).setCell ⟨w.heap.size, 1, none⟩ (.slice adA9 lA9 cA9)).setCell ⟨w.heap.size, 2, none⟩ (.slice adB9 lB9 cB9)) := (((Only.refl _ _).setCell (by simp) _).setCell (by simp) _).setCell (by simp) _
    have hsz := HSZ.out
    exact ⟨_, tt, ft, bt, rfl, ownTab_only HOT.out ho (fun b hb => by have := HFT.out b hb; simp; omega), fun b hb => by have := HFT.out b hb; omega, ((HB.out.setCell (Nat.le_refl _) _).setCell (Nat.le_refl _) _).setCell (Nat.le_refl _) _⟩
  | true =>
    go_wp2
    go_loopw [4] (fun si wq => ∃ i : Nat, i ≤ 4 ∧ si = .int .i64 ((i : Int) + 1) ∧ Below W0.heap.size W0 wq) (fun si _ => 5 - (intOf si).toNat)
    case atStart => exact ⟨0, by omega, rfl, HB1.out⟩
    case round =>
      obtain ⟨wk, rfl⟩ : ∃ W, W = wr := ⟨_, rfl⟩
      obtain ⟨i, hi, rfl, hB⟩ := hrel
      clear HB1
      by_cases hil : (i : Int) < 4
      case neg =>
        have hiI : ¬ ((i : Int) + 1 ≤ 4) := by omega
        obtain ⟨⟨x0, hr0⟩, ⟨x1, hr1⟩, ⟨x2, hr2⟩, hf0, hf1, hf2⟩ := HR.out wk hB
        have HB := Lib.hid (HB0.out.trans (hB.mono HB0.out.size))
        clear hB
        go_wp2
        exact bodyPost_ret (v := .tuple #[.agg #[.int .i64 0, .slice none 0 0, .slice none 0 0], .bool false]) (by simp [results, Tryz.results136, go_sem, hr0, hr1, hr2]) rfl (HNO.out _ (((HB.out.setCell (by simp) _).setCell (by simp) _).setCell (by simp) _))
      have hiI : ((i : Int) + 1 ≤ 4) := by omega
      have HBK := Lib.hid hB
      clear hB
      go_wp2_with fail
      refine (sDecimal_any ((i : Int) + 1) (by omega) (by omega) wk).mono ?_
      rintro e wd ⟨rfl, hbd⟩
      have HBD := Lib.hid (HBK.out.trans (hbd.mono HBK.out.size))
      have hdl := decZ_len (z := (i : Int) + 1) (by omega) (by omega)
      obtain ⟨u, hu⟩ : ∃ u, u = ByteArray.mk (decZ ((i : Int) + 1)).toArray := ⟨_, rfl⟩
      rw [show txt (decZ ((i : Int) + 1)) = .string u from by rw [hu]; rfl]
      obtain ⟨v1, hv1⟩ : ∃ v, v = ByteArray.mk ([103, 97, 117, 115, 115] ++ decZ ((i : Int) + 1)).toArray := ⟨_, rfl⟩
      obtain ⟨v2, hv2⟩ : ∃ v, v = ByteArray.mk ([114, 97, 100, 97, 117] ++ decZ ((i : Int) + 1)).toArray := ⟨_, rfl⟩
      obtain ⟨v3, hv3⟩ : ∃ v, v = ByteArray.mk ([108, 111, 98, 97, 116, 116, 111] ++ decZ ((i : Int) + 1)).toArray := ⟨_, rfl⟩
      have hc1 : ∀ w : World, (Op.stringOp .add (ByteArray.mk #[103, 97, 117, 115, 115]) u).run Tryz.prog w = .ok (.string v1) w := fun w => by
        rw [hu, hv1]
        exact cat_run [103, 97, 117, 115, 115] _ (by simp only [List.length_cons, List.length_nil]; omega) w
      have hc2 : ∀ w : World, (Op.stringOp .add (ByteArray.mk #[114, 97, 100, 97, 117]) u).run Tryz.prog w = .ok (.string v2) w := fun w => by
        rw [hu, hv2]
        exact cat_run [114, 97, 100, 97, 117] _ (by simp only [List.length_cons, List.length_nil]; omega) w
      have hc3 : ∀ w : World, (Op.stringOp .add (ByteArray.mk #[108, 111, 98, 97, 116, 116, 111]) u).run Tryz.prog w = .ok (.string v3) w := fun w => by
        rw [hu, hv3]
        exact cat_run [108, 111, 98, 97, 116, 116, 111] _ (by simp only [List.length_cons, List.length_nil]; omega) w
      clear hbd hu hv1 hv2 hv3 hdl
      obtain ⟨b1, hb1⟩ : ∃ b, (s.toList == v1.toList) = b := ⟨_, rfl⟩
      obtain ⟨b2, hb2⟩ : ∃ b, (s.toList == v2.toList) = b := ⟨_, rfl⟩
      obtain ⟨b3, hb3⟩ : ∃ b, (s.toList == v3.toList) = b := ⟨_, rfl⟩
      cases b1 with
      | true =>
        go_wp2_with fail
        refine (sGauss_any _ wd).mono ?_
        rintro e wn ⟨vn, xs, fn, rfl, hon, hxn, hxl, hfn, hbn⟩
        obtain ⟨adn, ln, cn, rfl, _⟩ := ownI_open hon
        have HCT := Lib.hid (colloc_any _ xs wn (ownI_rd hon) (by omega))
        have HBN := Lib.hid (HBD.out.trans (hbn.mono HBD.out.size))
        clear hon hxn hxl hfn hbn
        go_wp2_with fail
        refine HCT.out.mono ?_
        rintro e wt ⟨vt, tt, ft, bt, rfl, hot, hft', hbt⟩
        have hft : ∀ b ∈ ft, W0.heap.size ≤ b := fun b hb => by have := hft' b hb; have := HBN.out.size; omega
        have HBT := Lib.hid (HBN.out.trans (hbt.mono HBN.out.size))
        clear hft' hbt
        obtain ⟨vA9, vB9, fA9, fB9, rfl, hI9, hoA9, hoB9, hf9, hn9⟩ := hot
        obtain ⟨adA9, lA9, cA9, rfl, _⟩ := ownI_open hoA9
        obtain ⟨adB9, lB9, cB9, rfl, _⟩ := ownI_open hoB9
        have HOT := Lib.hid (show OwnTab 3 wt (.agg #[.int .i64 tt.stages, .slice adA9 lA9 cA9, .slice adB9 lB9 cB9]) tt ft from ⟨_, _, fA9, fB9, rfl, hI9, hoA9, hoB9, hf9, hn9⟩)
        have HFT := Lib.hid (show ∀ b ∈ ft, W0.heap.size ≤ b from hft)
        obtain ⟨⟨x0, hr0⟩, ⟨x1, hr1⟩, ⟨x2, hr2⟩, hf0, hf1, hf2⟩ := HR.out wt HBT.out
        have HB := Lib.hid (HB0.out.trans (HBT.out.mono HB0.out.size))
        clear hI9 hoA9 hoB9 hf9 hn9 hft
        go_wp2
        refine bodyPost_ret (v := .tuple #[.agg #[.int .i64 tt.stages, .slice adA9 lA9 cA9, .slice adB9 lB9 cB9], .bool bt]) (by simp [results, Tryz.results136, go_sem, hr0, hr1, hr2]) rfl ?_
        have ho : Only [w.heap.size] wt (((wt.setCell ⟨w.heap.size, 0, none⟩ (.int .i64 tt.stages)).setCell ⟨w.heap.size, 1, none⟩ (.slice adA9 lA9 cA9)).setCell ⟨w.heap.size, 2, none⟩ (.slice adB9 lB9 cB9)) := (((Only.refl _ _).setCell (by simp) _).setCell (by simp) _).setCell (by simp) _
        have hsz := HSZ.out
        exact ⟨_, tt, ft, bt, rfl, ownTab_only HOT.out ho (fun b hb => by have := HFT.out b hb; simp; omega), fun b hb => by have := HFT.out b hb; omega, ((HB.out.setCell (Nat.le_refl _) _).setCell (Nat.le_refl _) _).setCell (Nat.le_refl _) _⟩
      | false =>
        cases b2 with
        | true =>
          go_wp2_with fail
          refine (sRadau_any _ wd).mono ?_
          rintro e wn ⟨vn, xs, fn, rfl, hon, hxn, hxl, hfn, hbn⟩
          obtain ⟨adn, ln, cn, rfl, _⟩ := ownI_open hon
          have HCT := Lib.hid (colloc_any _ xs wn (ownI_rd hon) (by omega))
          have HBN := Lib.hid (HBD.out.trans (hbn.mono HBD.out.size))
          clear hon hxn hxl hfn hbn
          go_wp2_with fail
          refine HCT.out.mono ?_
          rintro e wt ⟨vt, tt, ft, bt, rfl, hot, hft', hbt⟩
          have hft : ∀ b ∈ ft, W0.heap.size ≤ b := fun b hb => by have := hft' b hb; have := HBN.out.size; omega
          have HBT := Lib.hid (HBN.out.trans (hbt.mono HBN.out.size))
          clear hft' hbt
          obtain ⟨vA9, vB9, fA9, fB9, rfl, hI9, hoA9, hoB9, hf9, hn9⟩ := hot
          obtain ⟨adA9, lA9, cA9, rfl, _⟩ := ownI_open hoA9
          obtain ⟨adB9, lB9, cB9, rfl, _⟩ := ownI_open hoB9
          have HOT := Lib.hid (show OwnTab 3 wt (.agg #[.int .i64 tt.stages, .slice adA9 lA9 cA9, .slice adB9 lB9 cB9]) tt ft from ⟨_, _, fA9, fB9, rfl, hI9, hoA9, hoB9, hf9, hn9⟩)
          have HFT := Lib.hid (show ∀ b ∈ ft, W0.heap.size ≤ b from hft)
          obtain ⟨⟨x0, hr0⟩, ⟨x1, hr1⟩, ⟨x2, hr2⟩, hf0, hf1, hf2⟩ := HR.out wt HBT.out
          have HB := Lib.hid (HB0.out.trans (HBT.out.mono HB0.out.size))
          clear hI9 hoA9 hoB9 hf9 hn9 hft
          go_wp2
          refine bodyPost_ret (v := .tuple #[.agg #[.int .i64 tt.stages, .slice adA9 lA9 cA9, .slice adB9 lB9 cB9], .bool bt]) (by simp [results, Tryz.results136, go_sem, hr0, hr1, hr2]) rfl ?_
          have ho : Only [w.heap.size] wt (((wt.setCell ⟨w.heap.size, 0, none⟩ (.int .i64 tt.stages)).setCell ⟨w.heap.size, 1, none⟩ (.slice adA9 lA9 cA9)).setCell ⟨w.heap.size, 2, none⟩ (.slice adB9 lB9 cB9)) := (((Only.refl _ _).setCell (by simp) _).setCell (by simp) _).setCell (by simp) _
          have hsz := HSZ.out
          exact ⟨_, tt, ft, bt, rfl, ownTab_only HOT.out ho (fun b hb => by have := HFT.out b hb; simp; omega), fun b hb => by have := HFT.out b hb; omega, ((HB.out.setCell (Nat.le_refl _) _).setCell (Nat.le_refl _) _).setCell (Nat.le_refl _) _⟩
        | false =>
          cases b3 with
          | true =>
            go_wp2_with fail
            refine (sLobatto_any _ wd).mono ?_
            rintro e wn ⟨vn, xs, fn, rfl, hon, hxn, hxl, hfn, hbn⟩
            obtain ⟨adn, ln, cn, rfl, _⟩ := ownI_open hon
            have HCT := Lib.hid (colloc_any _ xs wn (ownI_rd hon) (by omega))
            have HBN := Lib.hid (HBD.out.trans (hbn.mono HBD.out.size))
            clear hon hxn hxl hfn hbn
            go_wp2_with fail
            refine HCT.out.mono ?_
            rintro e wt ⟨vt, tt, ft, bt, rfl, hot, hft', hbt⟩
            have hft : ∀ b ∈ ft, W0.heap.size ≤ b := fun b hb => by have := hft' b hb; have := HBN.out.size; omega
            have HBT := Lib.hid (HBN.out.trans (hbt.mono HBN.out.size))
            clear hft' hbt
            obtain ⟨vA9, vB9, fA9, fB9, rfl, hI9, hoA9, hoB9, hf9, hn9⟩ := hot
            obtain ⟨adA9, lA9, cA9, rfl, _⟩ := ownI_open hoA9
            obtain ⟨adB9, lB9, cB9, rfl, _⟩ := ownI_open hoB9
            have HOT := Lib.hid (show OwnTab 3 wt (.agg #[.int .i64 tt.stages, .slice adA9 lA9 cA9, .slice adB9 lB9 cB9]) tt ft from ⟨_, _, fA9, fB9, rfl, hI9, hoA9, hoB9, hf9, hn9⟩)
            have HFT := Lib.hid (show ∀ b ∈ ft, W0.heap.size ≤ b from hft)
            obtain ⟨⟨x0, hr0⟩, ⟨x1, hr1⟩, ⟨x2, hr2⟩, hf0, hf1, hf2⟩ := HR.out wt HBT.out
            have HB := Lib.hid (HB0.out.trans (HBT.out.mono HB0.out.size))
            clear hI9 hoA9 hoB9 hf9 hn9 hft
            go_wp2
            refine bodyPost_ret (v := .tuple #[.agg #[.int .i64 tt.stages, .slice adA9 lA9 cA9, .slice adB9 lB9 cB9], .bool bt]) (by simp [results, Tryz.results136, go_sem, hr0, hr1, hr2]) rfl ?_
            have ho : Only [w.heap.size] wt (((wt.setCell ⟨w.heap.size, 0, none⟩ (.int .i64 tt.stages)).setCell ⟨w.heap.size, 1, none⟩ (.slice adA9 lA9 cA9)).setCell ⟨w.heap.size, 2, none⟩ (.slice adB9 lB9 cB9)) := (((Only.refl _ _).setCell (by simp) _).setCell (by simp) _).setCell (by simp) _
            have hsz := HSZ.out
            exact ⟨_, tt, ft, bt, rfl, ownTab_only HOT.out ho (fun b hb => by have := HFT.out b hb; simp; omega), fun b hb => by have := HFT.out b hb; omega, ((HB.out.setCell (Nat.le_refl _) _).setCell (Nat.le_refl _) _).setCell (Nat.le_refl _) _⟩
          | false =>
            go_wp2
            go_roundw
            case rel => exact ⟨i + 1, by omega, by go_num, HBD.out⟩
            case measure => simp [intOf]; omega
end Go.Proofs.YtbcjhpgkodeoeaaGreatDoor

/- Appending zeros to a row of the call's own. Conditions: none. -/
namespace Go.Proofs.YtbcjhpgkodeoeaaGreatDoor
open Go.RowKit

theorem zeroCells_reps (z : Value) (hz : z.cells = #[z]) (n : Nat) : (Builtin.zeroCells z.cells n).toList = List.replicate n z := by
  rw [hz]
  simp [Builtin.zeroCells]
  apply List.ext_getElem
  · simp
  · intro i h1 h2
    simp [Nat.mod_one]

theorem run_zeros_room {P : Program} (w : World) (t tn ty e : TypeId) (i : TypeInfo) (z : Value) (kq kn : IntKind) (ht : P.underlying t = some (.slice e)) (htn : P.underlying tn = some (.int kn)) (hi : P.info? e = some i) (hz : i.zero = some z)
    (hs : i.size = 1) (hzc : z.cells = #[z]) (h1 : z.oneCell' = true) (g sLen sCap : Nat) (cur : Array Value) (hg : w.heap[g]? = some (.cells cur e (0, 0))) (k : Nat) (h0 : 0 < k) (hroom : sLen + k ≤ sCap) (hfit : sLen + k ≤ cur.size)
    (h63 : (k : Int) ≤ 9223372036854775807) (h48 : k * i.bytes ≤ 281474976710656) :
    (Builtin.append_ #[t, tn] ty #[.slice (some ⟨g, 0, none⟩) sLen sCap, .int kq k]).run P w =
      .ok (.slice (some ⟨g, 0, none⟩) (sLen + k) sCap) (w.setRow g (cur.toList.take sLen ++ List.replicate k z ++ cur.toList.drop (sLen + k)).toArray) := by
  have hk : k ≠ 0 := by omega
  have hw : IntKind.i64.wrap (k : Int) = k := by rw [IntKind.wrap_i64]; omega
  have h48i : ¬ (281474976710656 < (k : Int) * (i.bytes : Int)) := by
    rw [← Int.natCast_mul]
    omega
  have hneg : ¬ ((k : Int) < 0) := by omega
  have hst := run_storeCells_at P g (sLen * i.size) e (List.replicate k z) 0 cur w hg (by rw [hs]; simpa using hfit) (by intro u hu; rw [List.eq_of_mem_replicate hu]; exact h1)
  simp only [Nat.add_zero, hs, Nat.mul_one, List.length_replicate] at hst
  simp [Builtin.append_, run_underlying ht, run_underlying htn, sizeOf, typeInfo, zeroValue, hi, hz, asInt, asIntOf, hw, hk, hneg, h48i, hroom, hs, zeroCells_reps z hzc, Addr.add_lit, hst]

/-- Zeros appended to a row of the call's own, of one-cell elements. -/
theorem run_zeros_own {P : Program} (w : World) (t tn ty e : TypeId) (i : TypeInfo) (z : Value) (kq kn : IntKind) (ht : P.underlying t = some (.slice e)) (htn : P.underlying tn = some (.int kn)) (hi : P.info? e = some i) (hz : i.zero = some z)
    (hs : i.size = 1) (hb8 : i.bytes = 8) (hzc : z.cells = #[z]) (h1 : z.oneCell' = true) (g n cap : Nat) (xs : List Value) (hown : w.ownsRow 0 e 1 (.slice (some ⟨g, 0, none⟩) n cap) n xs) (k : Nat) (h0 : 0 < k) (hsm : n + k ≤ 1048576) :
    ∃ gg cap' w', (Builtin.append_ #[t, tn] ty #[.slice (some ⟨g, 0, none⟩) n cap, .int kq k]).run P w = .ok (.slice (some ⟨gg, 0, none⟩) (n + k) cap') w' ∧ w'.ownsRow 0 e 1 (.slice (some ⟨gg, 0, none⟩) (n + k) cap') (n + k) (xs ++ List.replicate k z) ∧
      w.grownBy w' (some g) ∧ (g = gg ∨ gg = w.heap.size) ∧ gg < w'.heap.size := by
  have hlen : (xs ++ List.replicate k z).length = (n + k) * 1 := by rw [List.length_append, hown.1, List.length_replicate, Nat.mul_one, Nat.mul_one]
  obtain ⟨hxl, ⟨hv, _⟩ | ⟨g', cap', cur, hv, _, hg, hnc, hcm, hcs, htake⟩⟩ := hown
  · cases hv
  · simp only [Value.slice.injEq, Option.some.injEq, Addr.mk.injEq, and_true, true_and] at hv
    obtain ⟨rfl, rfl⟩ := hv
    rw [Nat.mul_one] at htake hcs hxl
    by_cases hroom : n + k ≤ cap
    · have hr := run_zeros_room (P := P) w t tn ty e i z kq kn ht htn hi hz hs hzc h1 g n cap cur hg k h0 hroom (by omega) (by omega) (by rw [hb8]; omega)
      refine ⟨g, cap, _, hr, ⟨hlen, .inr ⟨g, cap, _, rfl, Nat.zero_le _, setRow_heap w g cur _ e _ hg, hroom, hcm, ?_, ?_⟩⟩, ⟨rfl, rfl, rfl, by simp, fun q _ hq => setRow_other w g q _ (fun e => hq (by simp [e]))⟩, .inl rfl, ?_⟩
      · simp only [List.size_toArray, List.length_append, List.length_take, List.length_drop, Array.length_toList, List.length_replicate]
        omega
      · rw [htake, ← hlen]
        exact List.take_left
      · have := (Array.getElem?_eq_some_iff.1 hg).1
        simpa using this
    · have holds : ∀ j u, xs[j]? = some u → w.cell? ((⟨g, 0, none⟩ : Addr).add j) = some u := (show w.ownsRow 0 e 1 (.slice (some ⟨g, 0, none⟩) n cap) n xs from ⟨by omega, .inr ⟨g, cap, cur, rfl, Nat.zero_le _, hg, hnc, hcm, by omega, by rw [Nat.mul_one]; exact htake⟩⟩).cells (g := g) rfl
      have hold := run_firstCells_some (P := P) w.drew i.size n ⟨g, 0, none⟩ n cap xs (by rw [hs]; omega) (fun j u hj => by have := holds j u hj; simpa using this)
      have hr := Lib.run_append_grow_zeros (P := P) w t tn ty e i z kq kn ht htn hi hz (some ⟨g, 0, none⟩) n cap xs hold k h0 (by omega) (by omega) (by omega) (by rw [hb8]; omega) (growslice_fits (by omega) (by rw [hb8]; omega))
      have hcm2 := grownCap_le_maxLen w (n + k) cap e (by unfold maxLen; omega)
      have hge := grownCap_ge w (n + k) cap e
      refine ⟨w.heap.size, _, _, hr, ⟨hlen, .inr ⟨w.heap.size, _, _, rfl, Nat.zero_le _, heap_alloc_new w.drew _, hge, hcm2, ?_, ?_⟩⟩, ⟨rfl, rfl, rfl, by simp, fun q hq _ => Below.heap_alloc w.drew _ q hq⟩, .inr rfl, by simp⟩
      · rw [hzc]
        simp only [Array.size_append, List.size_toArray, size_zeroCells, hxl, List.size_toArray, List.length_singleton, Nat.mul_one]
        omega
      · simp only [Array.toList_append, zeroCells_reps z hzc, List.append_assoc]
        rw [← List.append_assoc, ← hlen]
        exact List.take_left

/-- .. at a step of a walk. -/
theorem wp_zeros_own {P : Program} (w : World) {o : Oper} {a : Act} {K : Act → World → Prop} {Q : Exit → Act → World → Prop} (s x : Operand) (t tn : TypeId)
    (ho : o.op = .call { callee := .builtin .append, args := #[s, x], argTypes := #[t, tn] })
    (e : TypeId) (i : TypeInfo) (z : Value) (kq kn : IntKind) (ht : P.underlying t = some (.slice e)) (htn : P.underlying tn = some (.int kn)) (hi : P.info? e = some i) (hz : i.zero = some z)
    (hs : i.size = 1) (hb8 : i.bytes = 8) (hzc : z.cells = #[z]) (h1 : z.oneCell' = true) (g n cap : Nat) (xs : List Value) (hse : a.eval s = .slice (some ⟨g, 0, none⟩) n cap) (hown : w.ownsRow 0 e 1 (.slice (some ⟨g, 0, none⟩) n cap) n xs)
    (k : Nat) (hx : a.eval x = .int kq k) (h0 : 0 < k) (hsm : n + k ≤ 1048576) (N : Nat) (hN : n + k = N) (H : Nat) (hH : w.heap.size = H)
    (h : ∀ gg cap' w', w'.ownsRow 0 e 1 (.slice (some ⟨gg, 0, none⟩) N cap') N (xs ++ List.replicate k z) → w.grownBy w' (some g) → (g = gg ∨ gg = H) → gg < w'.heap.size → K (a.put o.dst (.slice (some ⟨gg, 0, none⟩) N cap')) w') : o.wp P a w K Q := by
  subst hN
  obtain ⟨gg, cap', w', hr, h2, h3, h4, h5⟩ := run_zeros_own (P := P) w t tn o.type e i z kq kn ht htn hi hz hs hb8 hzc h1 g n cap xs hown k h0 hsm
  exact Lib.wp_append_run w s x t tn ho _ _ hse hx _ _ hr (h gg cap' w' h2 h3 (hH ▸ h4) h5)

theorem wpList_zeros_own {P : Program} (w : World) {ops : Array Oper} {rest : List Oper} {o : Oper} {a : Act} {Q : Exit → Act → World → Prop} (hgd : o.guard = none) (s x : Operand) (t tn : TypeId)
    (ho : o.op = .call { callee := .builtin .append, args := #[s, x], argTypes := #[t, tn] })
    (e : TypeId) (i : TypeInfo) (z : Value) (kq kn : IntKind) (ht : P.underlying t = some (.slice e)) (htn : P.underlying tn = some (.int kn)) (hi : P.info? e = some i) (hz : i.zero = some z)
    (hs : i.size = 1) (hb8 : i.bytes = 8) (hzc : z.cells = #[z]) (h1 : z.oneCell' = true) (g n cap : Nat) (xs : List Value) (hse : a.eval s = .slice (some ⟨g, 0, none⟩) n cap) (hown : w.ownsRow 0 e 1 (.slice (some ⟨g, 0, none⟩) n cap) n xs)
    (k : Nat) (hx : a.eval x = .int kq k) (h0 : 0 < k) (hsm : n + k ≤ 1048576) (N : Nat) (hN : n + k = N) (H : Nat) (hH : w.heap.size = H)
    (h : ∀ gg cap' w', w'.ownsRow 0 e 1 (.slice (some ⟨gg, 0, none⟩) N cap') N (xs ++ List.replicate k z) → w.grownBy w' (some g) → (g = gg ∨ gg = H) → gg < w'.heap.size → wpList P ops Q rest (a.put o.dst (.slice (some ⟨gg, 0, none⟩) N cap')) w') : wpList P ops Q (o :: rest) a w :=
  wpList_plain hgd fun _ hK => wp_zeros_own w s x t tn ho e i z kq kn ht htn hi hz hs hb8 hzc h1 g n cap xs hse hown k hx h0 hsm N hN H hH fun gg cap' w' h2 h3 h4 h5 => hK _ _ (h gg cap' w' h2 h3 h4 h5)

theorem step_zeros_own {P : Program} (w : World) {ops : Array Oper} {o : Oper} {a : Act} {K : Act → World → Prop} {Q : Exit → Act → World → Prop} {E : Prop} (hgd : o.guard = none) (s x : Operand) (t tn : TypeId)
    (ho : o.op = .call { callee := .builtin .append, args := #[s, x], argTypes := #[t, tn] })
    (e : TypeId) (i : TypeInfo) (z : Value) (kq kn : IntKind) (ht : P.underlying t = some (.slice e)) (htn : P.underlying tn = some (.int kn)) (hi : P.info? e = some i) (hz : i.zero = some z)
    (hs : i.size = 1) (hb8 : i.bytes = 8) (hzc : z.cells = #[z]) (h1 : z.oneCell' = true) (g n cap : Nat) (xs : List Value) (hse : a.eval s = .slice (some ⟨g, 0, none⟩) n cap) (hown : w.ownsRow 0 e 1 (.slice (some ⟨g, 0, none⟩) n cap) n xs)
    (k : Nat) (hx : a.eval x = .int kq k) (h0 : 0 < k) (hsm : n + k ≤ 1048576) (N : Nat) (hN : n + k = N) (H : Nat) (hH : w.heap.size = H)
    (h : ∀ gg cap' w', w'.ownsRow 0 e 1 (.slice (some ⟨gg, 0, none⟩) N cap') N (xs ++ List.replicate k z) → w.grownBy w' (some g) → (g = gg ∨ gg = H) → gg < w'.heap.size → K (a.put o.dst (.slice (some ⟨gg, 0, none⟩) N cap')) w') :
    if Region.wanted o (yielded ops a.tmps) = true then Oper.wp P o a w K Q else E := by
  have hw : Region.wanted o (yielded ops a.tmps) = true := by simp [Region.wanted, hgd]
  rw [if_pos hw]
  exact wp_zeros_own w s x t tn ho e i z kq kn ht htn hi hz hs hb8 hzc h1 g n cap xs hse hown k hx h0 hsm N hN H hH h
end Go.Proofs.YtbcjhpgkodeoeaaGreatDoor

/- The reference's ComposeTableaus: it returns some tableau. Conditions: none. -/
namespace Go.Proofs.YtbcjhpgkodeoeaaGreatDoor
open Go.RowKit

theorem run_zeros_none {P : Program} (w : World) (t tn ty e : TypeId) (i : TypeInfo) (z : Value) (kq kn : IntKind) (ht : P.underlying t = some (.slice e)) (htn : P.underlying tn = some (.int kn)) (hi : P.info? e = some i) (hz : i.zero = some z) (g n cap : Nat) (hle : n ≤ cap) :
    (Builtin.append_ #[t, tn] ty #[.slice (some ⟨g, 0, none⟩) n cap, .int kq 0]).run P w = .ok (.slice (some ⟨g, 0, none⟩) n cap) w := by
  have hw : IntKind.i64.wrap (0 : Int) = 0 := by rw [IntKind.wrap_i64]; omega
  simp [Builtin.append_, run_underlying ht, run_underlying htn, sizeOf, typeInfo, zeroValue, hi, hz, asInt, asIntOf, hw, hle, storeCells, Builtin.zeroCells]
/-- Zeros, perhaps none, appended to a row of the call's own that is not nil. -/
theorem step_zeros_I {P : Program} (w : World) {ops : Array Oper} {o : Oper} {a : Act} {K : Act → World → Prop} {Q : Exit → Act → World → Prop} {E : Prop} (hgd : o.guard = none) (s x : Operand) (t tn e : TypeId) (ho : o.op = .call { callee := .builtin .append, args := #[s, x], argTypes := #[t, tn] })
    (i : TypeInfo) (kq kn : IntKind) (ht : P.underlying t = some (.slice e)) (htn : P.underlying tn = some (.int kn)) (hi : P.info? e = some i) (hz : i.zero = some (.int .i64 0)) (hsize : i.size = 1) (hby : i.bytes = 8)
    {v : Value} {xs : List Int} {f : List Nat} (hs : a.eval s = v) (k : Nat) (kz : Int) (hkz : kz = (k : Int)) (hxx : a.eval x = .int kq kz) (hv : OwnI e w v xs f) (h0 : 0 < xs.length) (hn : xs.length + k ≤ 1000000)
    (h : ∀ v' w' f', OwnI e w' v' (xs ++ List.replicate k 0) f' → (∀ b ∈ f', b ∈ f ∨ w.heap.size ≤ b) → Only f w w' → K (a.put o.dst v') w') :
    if Region.wanted o (yielded ops a.tmps) = true then Oper.wp P o a w K Q else E := by
  have hw : Region.wanted o (yielded ops a.tmps) = true := by simp [Region.wanted, hgd]
  rw [if_pos hw]
  subst hkz
  have hfe := hv.2.1
  have hv1 := hv.1
  obtain ⟨ad, cap, rfl, hle, _, hg⟩ := row_open hv1
  obtain ⟨g, rfl⟩ := hg h0
  by_cases hk : k = 0
  · subst hk
    have hr := run_zeros_none (P := P) w t tn o.type e i (.int .i64 0) kq kn ht htn hi hz g xs.length cap hle
    exact Lib.wp_append_run w s x t tn ho _ _ hs hxx _ _ hr (h _ w f (by simpa using hv) (fun b hb => .inl hb) (Only.refl _ _))
  · obtain ⟨gg, cap', w', hr, h2, h3, h4, h5⟩ := run_zeros_own (P := P) w t tn o.type e i (.int .i64 0) kq kn ht htn hi hz hsize hby rfl rfl g xs.length cap _ hv1 k (by omega) (by omega)
    refine Lib.wp_append_run w s x t tn ho _ _ hs hxx _ _ hr (h _ w' [gg] ⟨by simpa using h2, rfl, fun y hy => ?_⟩ (fun b hb => ?_) ?_)
    · rcases List.mem_append.1 hy with hy | hy
      · exact hv.2.2 y hy
      · rw [List.eq_of_mem_replicate hy]; exact ⟨by decide, by decide⟩
    · rw [List.mem_singleton.1 hb]
      rcases h4 with h4 | h4
      · left; rw [hfe, ← h4]; simp [Value.ownBlock]
      · right; omega
    · rw [hfe]
      exact ⟨h3.os, h3.tape, h3.output, h3.size, fun q hq hn => h3.block q hq (fun e => hn (by simp at e; simp [Value.ownBlock, e]))⟩
end Go.Proofs.YtbcjhpgkodeoeaaGreatDoor
