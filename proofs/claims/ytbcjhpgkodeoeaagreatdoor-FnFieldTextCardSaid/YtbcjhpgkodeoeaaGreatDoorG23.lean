/- The reference's ScaleTableau: it returns some tableau. Conditions: none. -/
import Derived.Deep.RegionLaw
import Derived.Test.YtbcjhpgkodeoeaaGreatDoorG04
import Derived.Test.YtbcjhpgkodeoeaaGreatDoorG15
import Derived.Test.YtbcjhpgkodeoeaaGreatDoorG17
set_option linter.unusedSimpArgs false
set_option linter.unusedVariables false

namespace Go.Proofs.YtbcjhpgkodeoeaaGreatDoor
open Go.RowKit

set_option maxRecDepth 100000 in
set_option maxHeartbeats 6400000 in
theorem tscale_any (v : Value) (t : TabZ) (k : Int) (w : World) (h : RdTab w v t) : Calls Tryz.prog 139 #[v, .int .i64 k] w (GivesTab1 3 w) := by
  obtain ⟨ji, hji, hji0, hji1, hji2⟩ := info_parts Tryz.info_int
  have hh := h
  obtain ⟨vA, vB, rfl, hI, hA, hB⟩ := h
  obtain ⟨ada, la, ca, rfl, hla, hlac, hcma, hA'⟩ := rdS_open hA
  obtain ⟨adb, lb, cb, rfl, hlb, hlbc, hcmb, hB'⟩ := rdS_open hB
  obtain ⟨W0, hW0⟩ : ∃ W, W = (w.alloc (.cells #[.int .i64 t.stages, .slice ada la ca, .slice adb lb cb] 37)).alloc (.cells #[.int .i64 0, .slice none 0 0, .slice none 0 0] 37) := ⟨_, rfl⟩
  have hb0 : Below w.heap.size w W0 := hW0 ▸ ((Below.refl _ _).alloc (Nat.le_refl _) _).alloc (by simp) _
  have hsz : W0.heap.size = w.heap.size + 2 := by rw [hW0]; simp
  have HP := Lib.hid (fun (W : World) (hW : Below W0.heap.size W0 W) => pbox (w := w) (e := 37) (W := W) (a := .int .i64 t.stages) (b := .slice ada la ca) (c := .slice adb lb cb) (a' := .int .i64 0) (b' := .slice none 0 0) (c' := .slice none 0 0) (hW0 ▸ hW))
  have HR := Lib.hid (fun (W : World) (hW : Below W0.heap.size W0 W) => show (∃ x, W.cell? ⟨w.heap.size + 1, 0, none⟩ = some x) ∧ (∃ x, W.cell? ⟨w.heap.size + 1, 1, none⟩ = some x) ∧ (∃ x, W.cell? ⟨w.heap.size + 1, 2, none⟩ = some x) ∧ W.frozen? ⟨w.heap.size + 1, 0, none⟩ = false ∧ W.frozen? ⟨w.heap.size + 1, 1, none⟩ = false ∧ W.frozen? ⟨w.heap.size + 1, 2, none⟩ = false from by
    have := rbox (w := w.alloc (.cells #[.int .i64 t.stages, .slice ada la ca, .slice adb lb cb] 37)) (e := 37) (W := W) (a := .int .i64 0) (b := .slice none 0 0) (c := .slice none 0 0) (hW0 ▸ hW)
    rwa [show (w.alloc (.cells #[.int .i64 t.stages, .slice ada la ca, .slice adb lb cb] 37)).heap.size = w.heap.size + 1 by simp] at this)
  have HNO := Lib.hid (fun (W : World) (hW : Below w.heap.size w W) => show GivesTab1 3 w (.returned (.agg #[.int .i64 0, .slice none 0 0, .slice none 0 0])) W from ⟨_, ⟨0, [], []⟩, [], rfl, tab_nil _, by simp, hW⟩)
  have HOK := Lib.hid (fun (b : Bool) (hb : tabOkB t = b) => sTabOk_eq (.agg #[.int .i64 t.stages, .slice ada la ca, .slice adb lb cb]) t W0 (rdTab_mono hb0 hh) hb)
  have HW0 := Lib.hid hW0
  have HB0 := Lib.hid hb0
  have HSZ := Lib.hid hsz
  have HLA := Lib.hid hla
  have HLB := Lib.hid hlb
  clear hW0 hb0 hsz hh hA hB hla hlb
  cases hok : tabOkB t with
  | false =>
    have C1 := Lib.hid (HOK.out false hok)
    clear hok HOK
    go_enter Tryz.func139, Tryz.ntmps139
    go_wp2_with fail
    rw [← HW0.out]
    refine C1.out.mono ?_
    rintro e w1 ⟨rfl, hb1⟩
    obtain ⟨⟨x0, hr0⟩, ⟨x1, hr1⟩, ⟨x2, hr2⟩, hf0, hf1, hf2⟩ := HR.out w1 hb1
    have HB := Lib.hid (HB0.out.trans (hb1.mono HB0.out.size))
    clear hb1
    go_wp2
    exact bodyPost_ret (v := .agg #[.int .i64 0, .slice none 0 0, .slice none 0 0]) (by simp [results, Tryz.results139, go_sem, hr0, hr1, hr2]) rfl (HNO.out _ (((HB.out.setCell (by simp) _).setCell (by simp) _).setCell (by simp) _))
  | true =>
  have C1 := Lib.hid (HOK.out true hok)
  obtain ⟨hs1, hs2, hs3⟩ := tabOk_num hok
  have hla64 : la ≤ 64 := by
    rw [← HLA.out, hs2]
    exact Nat.mul_le_mul hs3 hs3
  have hlb8 : lb ≤ 8 := by rw [← HLB.out]; exact hs3
  have HST := Lib.hid (show I64 t.stages from hI)
  clear hok HOK hs1 hs2 hs3
  go_enter Tryz.func139, Tryz.ntmps139
  go_wp2_with fail
  rw [← HW0.out]
  refine C1.out.mono ?_
  rintro e w1 ⟨rfl, hb1⟩
  obtain ⟨p0, p1, p2⟩ := HP.out w1 hb1
  obtain ⟨W3, hW3⟩ : ∃ W, W = w1.alloc (.cells #[.int .i64 t.stages, .slice none 0 0, .slice none 0 0] 37) := ⟨_, rfl⟩
  have hb3 : Below w1.heap.size w1 W3 := hW3 ▸ (Below.refl _ _).alloc (Nat.le_refl _) _
  have HT0 := Lib.hid (show TBox 3 W0.heap.size W3 w1.heap.size t.stages (.slice none 0 0) (.slice none 0 0) [] [] [] [] from hW3 ▸ TBox.new hb1.size)
  have HB03 := Lib.hid (hb1.trans (hb3.mono hb1.size))
  have HW3 := Lib.hid hW3
  clear hb1 hW3 hb3
  go_wp2
  rw [← HW3.out]
  clear p0 p1 p2
  go_loopw [6] (fun si wq => ∃ (i : Nat) (vA : Value) (A : List Int) (fA : List Nat), i ≤ la ∧ si = .int .i64 i ∧ TBox 3 W0.heap.size wq w1.heap.size t.stages vA (.slice none 0 0) A [] fA [] ∧ Below W0.heap.size W0 wq ∧ A.length = i) (fun si _ => la - (intOf si).toNat)
  case atStart => exact ⟨0, _, [], [], Nat.zero_le _, rfl, HT0.out, HB03.out, rfl⟩
  case round =>
    obtain ⟨wk, rfl⟩ : ∃ W, W = wr := ⟨_, rfl⟩
    obtain ⟨i, vA, A, fA, hi, rfl, hT, hB, hAl⟩ := hrel
    clear HT0 HB03
    obtain ⟨p0, p1, p2⟩ := HP.out wk hB
    by_cases hil : i < la
    case pos =>
      obtain ⟨ad1, l1, c1', rfl, _, _, _, _, _, _⟩ := ownI_open hT.ownA
      have hbw := HB0.out.trans (hB.mono HB0.out.size)
      obtain ⟨b5, off5, x, rfl, hx, hcx, hIx, hlx⟩ := rdI_get (rdI_mono hbw hA') hil
      have c1 := hT.c1
      obtain ⟨y, hy⟩ : ∃ y, timesZ x k = y := ⟨_, rfl⟩
      have hyb : NumZ y := hy ▸ timesZ_bd _ _
      have HY := Lib.hid hy
      have hal : Below wk.heap.size wk ((wk.alloc (.cells #[.int .i64 y] 3)).drew) := ((Below.refl _ _).alloc (Nat.le_refl _) _).drew
      have HTA := Lib.hid (hT.bel hal)
      have HSRC := Lib.hid (src_lit_drew (e := 3) wk y (numZ_i64 hyb))
      have HBA := Lib.hid (hB.trans (hal.mono hB.size))
      have HL := Lib.hid hAl
      have hlt1 := tbox_lt hT
      have hlt2 : w.heap.size < wk.heap.size := World.block_lt_of_cell? _ _ p0
      clear hT hB hbw hx hy hal hAl
      go_wp2
      go_region_law (first | (refine step_append_I _ (by rfl) _ _ 35 3 (by rfl) ji Tryz.underlying35 hji hji0 hji1 hji2 (v := .slice ad1 l1 c1') (vx := .slice (some ⟨wk.heap.size, 0, none⟩) 1 1) (by rfl) (by rfl) HTA.out.ownA HSRC.out (by rw [HL.out]; simp; omega) ?_; intro v' w' f' hv1 hv2 hv3; obtain ⟨adv, lv, cv, rfl, _⟩ := ownI_open hv1; obtain ⟨⟨hk1, hk2⟩, hTB, hon⟩ := HTA.out.putA hv3 hv1 hv2 HBA.out.size; have HTB := Lib.hid hTB; have HON := Lib.hid hon; clear hv1 hv2 hv3 hTB hon) | (go_simp; go_at_call 23; (with_reducible refine (sTimes_eq HY.out _).mono ?_); rintro e w' ⟨rfl, rfl⟩))
      all_goals (
        go_wp2
        go_roundw
        case rel =>
          exact ⟨i + 1, _, _, f', by omega, by go_num, HTB.out, below_newer HBA.out HON.out (fun b hb => by
            rcases List.mem_cons.1 hb with rfl | hb
            · exact HTA.out.hB
            · exact (HTA.out.newA b hb).1), by simp [HL.out]⟩
        case measure => simp [intOf]; omega)
    obtain ⟨ad1, l1, c1', rfl, _, _, _, _, _, _⟩ := ownI_open hT.ownA
    have HT0 := Lib.hid hT
    have HB0' := Lib.hid hB
    clear hT hB
    go_wp2
    clear p0 p1 p2
    go_loopw [7] (fun si wq => ∃ (j : Nat) (vB : Value) (B : List Int) (fB : List Nat), j ≤ lb ∧ si = .int .i64 j ∧ TBox 3 W0.heap.size wq w1.heap.size t.stages (.slice ad1 l1 c1') vB A B fA fB ∧ Below W0.heap.size W0 wq ∧ B.length = j) (fun si _ => lb - (intOf si).toNat)
    case atStart => exact ⟨0, _, [], [], Nat.zero_le _, rfl, HT0.out, HB0'.out, rfl⟩
    case round =>
      obtain ⟨wz, rfl⟩ : ∃ W, W = wr := ⟨_, rfl⟩
      obtain ⟨j, vB, B, fB, hj, rfl, hT, hB, hBl⟩ := hrel
      clear HT0 HB0'
      obtain ⟨p0, p1, p2⟩ := HP.out wz hB
      obtain ⟨ad2, l2, c2', rfl, _, _, _, _, _, _⟩ := ownI_open hT.ownB
      by_cases hjl : j < lb
      case pos =>
        have hbw := HB0.out.trans (hB.mono HB0.out.size)
        obtain ⟨b5, off5, x, rfl, hx, hcx, hIx, hlx⟩ := rdI_get (rdI_mono hbw hB') hjl
        have c2 := hT.c2
        obtain ⟨y, hy⟩ : ∃ y, timesZ x k = y := ⟨_, rfl⟩
        have hyb : NumZ y := hy ▸ timesZ_bd _ _
        have HY := Lib.hid hy
        have hal : Below wz.heap.size wz ((wz.alloc (.cells #[.int .i64 y] 3)).drew) := ((Below.refl _ _).alloc (Nat.le_refl _) _).drew
        have HTA := Lib.hid (hT.bel hal)
        have HSRC := Lib.hid (src_lit_drew (e := 3) wz y (numZ_i64 hyb))
        have HBA := Lib.hid (hB.trans (hal.mono hB.size))
        have HL := Lib.hid hBl
        have hlt1 := tbox_lt hT
        have hlt2 : w.heap.size < wz.heap.size := World.block_lt_of_cell? _ _ p0
        clear hT hB hbw hx hy hal hBl
        go_wp2
        go_region_law (first | (refine step_append_I _ (by rfl) _ _ 35 3 (by rfl) ji Tryz.underlying35 hji hji0 hji1 hji2 (v := .slice ad2 l2 c2') (vx := .slice (some ⟨wz.heap.size, 0, none⟩) 1 1) (by rfl) (by rfl) HTA.out.ownB HSRC.out (by rw [HL.out]; simp; omega) ?_; intro v' w' f' hv1 hv2 hv3; obtain ⟨adv, lv, cv, rfl, _⟩ := ownI_open hv1; obtain ⟨⟨hk1, hk2⟩, hTB, hon⟩ := HTA.out.putB hv3 hv1 hv2 HBA.out.size; have HTB := Lib.hid hTB; have HON := Lib.hid hon; clear hv1 hv2 hv3 hTB hon) | (go_simp; go_at_call 23; (with_reducible refine (sTimes_eq HY.out _).mono ?_); rintro e w' ⟨rfl, rfl⟩))
        all_goals (
          go_wp2
          go_roundw
          case rel =>
            exact ⟨j + 1, _, _, f', by omega, by go_num, HTB.out, below_newer HBA.out HON.out (fun b hb => by
              rcases List.mem_cons.1 hb with rfl | hb
              · exact HTA.out.hB
              · exact (HTA.out.newB b hb).1), by simp [HL.out]⟩
          case measure => simp [intOf]; omega)
      obtain ⟨⟨x0, hr0⟩, ⟨x1, hr1⟩, ⟨x2, hr2⟩, hf0, hf1, hf2⟩ := HR.out wz hB
      have c0 := hT.c0
      have c1 := hT.c1
      have c2 := hT.c2
      have HT := Lib.hid hT
      have HB := Lib.hid (HB0.out.trans (hB.mono HB0.out.size))
      clear hT hB
      go_wp2
      refine bodyPost_ret (v := .agg #[.int .i64 t.stages, .slice ad1 l1 c1', .slice ad2 l2 c2']) (by simp [results, Tryz.results139, go_sem, hr0, hr1, hr2]) rfl ?_
      have ho : Only [w.heap.size + 1] wz (((wz.setCell ⟨w.heap.size + 1, 0, none⟩ (.int .i64 t.stages)).setCell ⟨w.heap.size + 1, 1, none⟩ (.slice ad1 l1 c1')).setCell ⟨w.heap.size + 1, 2, none⟩ (.slice ad2 l2 c2')) := (((Only.refl _ _).setCell (by simp) _).setCell (by simp) _).setCell (by simp) _
      have hsz := HSZ.out
      obtain ⟨t1, t2⟩ := HT.out.tab HST.out ho (by simp; omega)
      exact ⟨_, _, _, rfl, t1, fun b hb => by have := t2 b hb; omega, ((HB.out.setCell (by simp) _).setCell (by simp) _).setCell (by simp) _⟩
end Go.Proofs.YtbcjhpgkodeoeaaGreatDoor
