/- The reference's ComposeTableaus: it returns some tableau. Conditions: none. -/
import Derived.Deep.Cut
import Derived.Deep.CutRange
import Derived.Test.YtbcjhpgkodeoeaaGreatDoorG30
set_option linter.unusedSimpArgs false
set_option linter.unusedVariables false

namespace Go.Proofs.YtbcjhpgkodeoeaaGreatDoor
open Go.RowKit

set_option maxRecDepth 100000 in
set_option maxHeartbeats 1600000 in
theorem sRow_ex (b off len cap : Nat) (vB : Value) (n i : Nat) (nz : Int) (w : World) (hnz : nz = (n : Int)) (hn8 : n ≤ 8) (hi : i < n) (hlen : len = n * n) (hlc : len ≤ cap) (hcm : cap ≤ 9223372036854775807) (hvB : ∃ ad l c, vB = .slice ad l c) :
    Calls Tryz.prog 175 #[.agg #[.int .i64 nz, .slice (some ⟨b, off, none⟩) len cap, vB], .int .i64 (i : Int)] w fun e w' => e = .returned (.slice (some ⟨b, off + i * n, none⟩) n (cap - i * n)) ∧ Below w.heap.size w w' := by
  subst hlen hnz
  obtain ⟨adb, lb, cb, rfl⟩ := hvB
  obtain ⟨p0, p1, p2, p3, p4, p5, p7⟩ := row_bd hi hn8
  have hb0 : Below w.heap.size w (w.alloc (.cells #[.int .i64 (n : Int), .slice (some ⟨b, off, none⟩) (n * n) cap, .slice adb lb cb] 37)) := (Below.refl _ _).alloc (Nat.le_refl _) _
  have q1 : (i : Int) * n + n ≤ cap := by omega
  have q2 : (i : Int) * n ≤ (i : Int) * n + n := by omega
  have q3 : ((i : Int) * n + n).toNat = i * n + n := by omega
  have q4 : 0 ≤ (i : Int) * n + n := by omega
  have q5 : ¬ cap - i * n = 0 := by omega
  have q6 : (i : Int) * n + n ≤ 72 := by omega
  have HB := Lib.hid hb0
  clear hb0 p7 p4 p5
  go_enter Tryz.func175, Tryz.ntmps175
  go_wp2
  go_ret
  exact ⟨rfl, HB.out⟩

set_option maxRecDepth 100000 in
set_option maxHeartbeats 12800000 in
theorem tcomp_any (v1 v2 : Value) (s t : TabZ) (w : World) (hs : SrcTab w v1 s) (ht : SrcTab w v2 t) : Calls Tryz.prog 138 #[v1, v2] w (GivesTab 3 w) := by
  obtain ⟨ji, hji, hji0, hji1, hji2⟩ := info_parts Tryz.info_int
  have hss := srcTab_rd hs
  have htt := srcTab_rd ht
  obtain ⟨vA, vB, rfl, hsI, hsA, hsB⟩ := hs
  obtain ⟨vA2, vB2, rfl, htI, htA, htB⟩ := ht
  obtain ⟨ada, la, ca, rfl, hla, hlac, hcma, hsA'⟩ := rdS_open hsA.1
  obtain ⟨adb, lb, cb, rfl, hlb, hlbc, hcmb, hsB'⟩ := rdS_open hsB.1
  obtain ⟨adc, lc, cc, rfl, hlc, hlcc, hcmc, htA'⟩ := rdS_open htA.1
  obtain ⟨add, ld, cd, rfl, hld, hldc, hcmd, htB'⟩ := rdS_open htB.1
  obtain ⟨W0, hW0⟩ : ∃ W, W = ((w.alloc (.cells #[.int .i64 s.stages, .slice ada la ca, .slice adb lb cb] 37)).alloc (.cells #[.int .i64 t.stages, .slice adc lc cc, .slice add ld cd] 37)).alloc (.cells #[.int .i64 0, .slice none 0 0, .slice none 0 0] 37) := ⟨_, rfl⟩
  have hb0 : Below w.heap.size w W0 := hW0 ▸ (((Below.refl _ _).alloc (Nat.le_refl _) _).alloc (by simp) _).alloc (by simp; omega) _
  have hsz : W0.heap.size = w.heap.size + 3 := by rw [hW0]; simp
  have hz1 : (w.alloc (.cells #[.int .i64 s.stages, .slice ada la ca, .slice adb lb cb] 37)).heap.size = w.heap.size + 1 := by simp
  have hz2 : ((w.alloc (.cells #[.int .i64 s.stages, .slice ada la ca, .slice adb lb cb] 37)).alloc (.cells #[.int .i64 t.stages, .slice adc lc cc, .slice add ld cd] 37)).heap.size = w.heap.size + 2 := by simp
  have hbe : Below ((w.alloc (.cells #[.int .i64 s.stages, .slice ada la ca, .slice adb lb cb] 37)).alloc (.cells #[.int .i64 t.stages, .slice adc lc cc, .slice add ld cd] 37)).heap.size ((w.alloc (.cells #[.int .i64 s.stages, .slice ada la ca, .slice adb lb cb] 37)).alloc (.cells #[.int .i64 t.stages, .slice adc lc cc, .slice add ld cd] 37)) W0 := hW0 ▸ (Below.refl _ _).alloc (Nat.le_refl _) _
  have HP := Lib.hid (fun (W : World) (hW : Below W0.heap.size W0 W) => show ((W.cell? ⟨w.heap.size, 0, none⟩ = some (.int .i64 s.stages) ∧ W.cell? ⟨w.heap.size, 1, none⟩ = some (.slice ada la ca) ∧ W.cell? ⟨w.heap.size, 2, none⟩ = some (.slice adb lb cb)) ∧ (W.cell? ⟨w.heap.size + 1, 0, none⟩ = some (.int .i64 t.stages) ∧ W.cell? ⟨w.heap.size + 1, 1, none⟩ = some (.slice adc lc cc) ∧ W.cell? ⟨w.heap.size + 1, 2, none⟩ = some (.slice add ld cd))) from by
    have hA := pbox (w := w) (e := 37) (W := W) (a := .int .i64 s.stages) (b := .slice ada la ca) (c := .slice adb lb cb) (a' := .int .i64 t.stages) (b' := .slice adc lc cc) (c' := .slice add ld cd) (hbe.trans (hW.mono hbe.size))
    have hB := pbox (w := w.alloc (.cells #[.int .i64 s.stages, .slice ada la ca, .slice adb lb cb] 37)) (e := 37) (W := W) (a := .int .i64 t.stages) (b := .slice adc lc cc) (c := .slice add ld cd) (a' := .int .i64 0) (b' := .slice none 0 0) (c' := .slice none 0 0) (hW0 ▸ hW)
    rw [hz1] at hB
    exact ⟨hA, hB⟩)
  have HR := Lib.hid (fun (W : World) (hW : Below W0.heap.size W0 W) => show (∃ x, W.cell? ⟨w.heap.size + 2, 0, none⟩ = some x) ∧ (∃ x, W.cell? ⟨w.heap.size + 2, 1, none⟩ = some x) ∧ (∃ x, W.cell? ⟨w.heap.size + 2, 2, none⟩ = some x) ∧ W.frozen? ⟨w.heap.size + 2, 0, none⟩ = false ∧ W.frozen? ⟨w.heap.size + 2, 1, none⟩ = false ∧ W.frozen? ⟨w.heap.size + 2, 2, none⟩ = false from by
    have := rbox (w := (w.alloc (.cells #[.int .i64 s.stages, .slice ada la ca, .slice adb lb cb] 37)).alloc (.cells #[.int .i64 t.stages, .slice adc lc cc, .slice add ld cd] 37)) (e := 37) (W := W) (a := .int .i64 0) (b := .slice none 0 0) (c := .slice none 0 0) (hW0 ▸ hW)
    rwa [hz2] at this)
  have HNO := Lib.hid (fun (W : World) (hW : Below w.heap.size w W) => show GivesTab 3 w (.returned (.tuple #[.agg #[.int .i64 0, .slice none 0 0, .slice none 0 0], .bool false])) W from ⟨_, ⟨0, [], []⟩, [], false, rfl, tab_nil _, by simp, hW⟩)
  have HOS := Lib.hid (fun (b : Bool) (hb : tabOkB s = b) => sTabOk_eq (.agg #[.int .i64 s.stages, .slice ada la ca, .slice adb lb cb]) s W0 (rdTab_mono hb0 hss) hb)
  have HOT := Lib.hid (fun (b : Bool) (hb : tabOkB t = b) (W : World) (hW : Below w.heap.size w W) => sTabOk_eq (.agg #[.int .i64 t.stages, .slice adc lc cc, .slice add ld cd]) t W (rdTab_mono hW htt) hb)
  have HW0 := Lib.hid hW0
  have HB0 := Lib.hid hb0
  have HSZ := Lib.hid hsz
  have HLA := Lib.hid hla
  have HLB := Lib.hid hlb
  have HLC := Lib.hid hlc
  have HLD := Lib.hid hld
  have HSB := Lib.hid (fun (W : World) (hW : Below w.heap.size w W) => srcI_below hsB hW)
  have HTB0 := Lib.hid (fun (W : World) (hW : Below w.heap.size w W) => srcI_below htB hW)
  clear hW0 hb0 hsz hss htt hsA hsB htA htB hla hlb hlc hld hz1 hz2 hbe
  cases hok : tabOkB s with
  | false =>
    have C1 := Lib.hid (HOS.out false hok)
    clear hok HOS HOT
    go_enter Tryz.func138, Tryz.ntmps138
    go_wp2_with fail
    rw [← HW0.out]
    refine C1.out.mono ?_
    rintro e w1 ⟨rfl, hb1⟩
    obtain ⟨⟨x0, hr0⟩, ⟨x1, hr1⟩, ⟨x2, hr2⟩, hf0, hf1, hf2⟩ := HR.out w1 hb1
    obtain ⟨⟨p0, p1, p2⟩, ⟨p3, p4, p5⟩⟩ := HP.out w1 hb1
    have HB := Lib.hid (HB0.out.trans (hb1.mono HB0.out.size))
    clear hb1
    go_wp2
    exact bodyPost_ret (v := .tuple #[.agg #[.int .i64 0, .slice none 0 0, .slice none 0 0], .bool false]) (by simp [results, Tryz.results138, go_sem, hr0, hr1, hr2]) rfl (HNO.out _ (((HB.out.setCell (by simp; omega) _).setCell (by simp; omega) _).setCell (by simp; omega) _))
  | true =>
  have C1 := Lib.hid (HOS.out true hok)
  cases hok2 : tabOkB t with
  | false =>
    have C2 := Lib.hid (HOT.out false hok2)
    clear hok hok2 HOS HOT
    go_enter Tryz.func138, Tryz.ntmps138
    go_wp2_with fail
    rw [← HW0.out]
    refine C1.out.mono ?_
    rintro e w1 ⟨rfl, hb1⟩
    obtain ⟨⟨p0, p1, p2⟩, ⟨p3, p4, p5⟩⟩ := HP.out w1 hb1
    have hbw1 := HB0.out.trans (hb1.mono HB0.out.size)
    go_wp2_with fail
    refine (C2.out w1 hbw1).mono ?_
    rintro e w2 ⟨rfl, hb2⟩
    have hb02 := hb1.trans (hb2.mono hb1.size)
    obtain ⟨⟨x0, hr0⟩, ⟨x1, hr1⟩, ⟨x2, hr2⟩, hf0, hf1, hf2⟩ := HR.out w2 hb02
    have HB := Lib.hid (HB0.out.trans (hb02.mono HB0.out.size))
    clear hb1 hb2 hb02 hbw1
    go_wp2
    exact bodyPost_ret (v := .tuple #[.agg #[.int .i64 0, .slice none 0 0, .slice none 0 0], .bool false]) (by simp [results, Tryz.results138, go_sem, hr0, hr1, hr2]) rfl (HNO.out _ (((HB.out.setCell (by simp; omega) _).setCell (by simp; omega) _).setCell (by simp; omega) _))
  | true =>
  have C2 := Lib.hid (HOT.out true hok2)
  obtain ⟨hs1, hs2, hs3⟩ := tabOk_num hok
  obtain ⟨ht1, ht2, ht3⟩ := tabOk_num hok2
  rw [HLB.out] at hs1 hs2 hs3
  rw [HLD.out] at ht1 ht2 ht3
  rw [HLA.out] at hs2
  rw [HLC.out] at ht2
  have HS1 := Lib.hid hs1
  have HS2 := Lib.hid hs2
  have HT1 := Lib.hid ht1
  have HT2 := Lib.hid ht2
  have hs08 : 0 ≤ s.stages ∧ s.stages ≤ 8 ∧ 0 ≤ t.stages ∧ t.stages ≤ 8 := by omega
  obtain ⟨hs0, hs8, ht0, ht8⟩ := hs08
  clear hs1 hs2 ht1 ht2
  clear hok hok2 HOS HOT
  go_enter Tryz.func138, Tryz.ntmps138
  go_wp2_with fail
  rw [← HW0.out]
  refine C1.out.mono ?_
  rintro e w1 ⟨rfl, hb1⟩
  obtain ⟨⟨p0, p1, p2⟩, ⟨p3, p4, p5⟩⟩ := HP.out w1 hb1
  have hbw1 := HB0.out.trans (hb1.mono HB0.out.size)
  go_wp2_with fail
  refine (C2.out w1 hbw1).mono ?_
  rintro e w2 ⟨rfl, hb2⟩
  have hb02 := hb1.trans (hb2.mono hb1.size)
  have HB02 := Lib.hid hb02
  have us : IntKind.i64.wrap (s.stages + t.stages) = s.stages + t.stages := IntWalk.i64_in _ (by omega)
  obtain ⟨⟨p0, p1, p2⟩, ⟨p3, p4, p5⟩⟩ := HP.out w2 hb02
  by_cases hsum : 8 < s.stages + t.stages
  · obtain ⟨⟨x0, hr0⟩, ⟨x1, hr1⟩, ⟨x2, hr2⟩, hf0, hf1, hf2⟩ := HR.out w2 hb02
    have HB := Lib.hid (HB0.out.trans (hb02.mono HB0.out.size))
    clear hb1 hb2 hb02 hbw1
    go_wp2
    exact bodyPost_ret (v := .tuple #[.agg #[.int .i64 0, .slice none 0 0, .slice none 0 0], .bool false]) (by simp [results, Tryz.results138, go_sem, hr0, hr1, hr2]) rfl (HNO.out _ (((HB.out.setCell (by simp; omega) _).setCell (by simp; omega) _).setCell (by simp; omega) _))
  obtain ⟨W3, hW3⟩ : ∃ W, W = w2.alloc (.cells #[.int .i64 (s.stages + t.stages), .slice none 0 0, .slice none 0 0] 37) := ⟨_, rfl⟩
  have hb3 : Below w2.heap.size w2 W3 := hW3 ▸ (Below.refl _ _).alloc (Nat.le_refl _) _
  have HT0 := Lib.hid (show TBox 3 W0.heap.size W3 w2.heap.size (s.stages + t.stages) (.slice none 0 0) (.slice none 0 0) [] [] [] [] from hW3 ▸ TBox.new hb02.size)
  have HB03 := Lib.hid (hb02.trans (hb3.mono hb02.size))
  have HW3 := Lib.hid hW3
  clear hb1 hb2 hW3 hb3 hb02 hbw1
  go_wp2
  rw [← HW3.out]
  clear p0 p1 p2 p3 p4 p5
  go_loopw [7] (fun si wq => ∃ (i : Nat) (vA : Value) (A : List Int) (fA : List Nat), i ≤ lb ∧ si = .int .i64 i ∧ TBox 3 W0.heap.size wq w2.heap.size (s.stages + t.stages) vA (.slice none 0 0) A [] fA [] ∧ Below W0.heap.size W0 wq ∧ A.length ≤ 16 * i) (fun si _ => lb - (intOf si).toNat)
  case atStart => exact ⟨0, _, [], [], Nat.zero_le _, rfl, HT0.out, HB03.out, by simp⟩
  case round =>
    obtain ⟨wk, rfl⟩ : ∃ W, W = wr := ⟨_, rfl⟩
    obtain ⟨i, vA, A, fA, hi, rfl, hT, hB, hAl⟩ := hrel
    clear HT0 HB03
    obtain ⟨⟨p0, p1, p2⟩, ⟨p3, p4, p5⟩⟩ := HP.out wk hB
    obtain ⟨ad1, l1, c1', rfl, _, _, _, _, _, _⟩ := ownI_open hT.ownA
    by_cases hil : i < lb
    case pos =>
      have hilI : (i : Int) < s.stages := by rw [HS1.out]; omega
      have hla0 : 0 < la := by rw [HS2.out]; exact Nat.mul_pos (by omega) (by omega)
      obtain ⟨ba, oa, x0, rfl, _⟩ := rdI_get hsA' (k := 0) hla0
      have hbw := HB0.out.trans (hB.mono HB0.out.size)
      have hdr : Below wk.heap.size wk wk.drew := (Below.refl _ _).drew
      have HROW := Lib.hid (fun (W : World) => sRow_ex ba oa la ca (.slice adb lb cb) lb i s.stages W HS1.out hs3 hil HS2.out hlac hcma ⟨_, _, _, rfl⟩)
      have hpart : i * lb + lb ≤ la := by
        have : (i + 1) * lb ≤ lb * lb := Nat.mul_le_mul_right lb hil
        rw [Nat.succ_mul] at this
        rw [HS2.out]; exact this
      have hrl : ((s.A.drop (i * lb)).take lb).length = lb := by rw [List.length_take, List.length_drop, HLA.out]; omega
      have HSR := Lib.hid (fun (W : World) (hW : Below w.heap.size w W) => srcI_pos (rdI_part (rdI_mono hW hsA') (lo := i * lb) (n := lb) hpart) (by rw [hrl]; omega))
      have c1 := hT.c1
      have HC0 := Lib.hid ((Chn.start hT.ownA).bel hdr)
      have HT := Lib.hid hT
      have HB := Lib.hid hB
      have HBW := Lib.hid hbw
      have HDR := Lib.hid hdr
      have HRL := Lib.hid hrl
      have HAL := Lib.hid hAl
      clear hT hB hbw hdr hAl hrl hpart
      go_wp2
      go_region_law (first | (go_simp; go_at_call 175; (with_reducible refine (HROW.out _).mono ?_); rintro e wa ⟨rfl, hba⟩; have hra := HDR.out.trans (hba.mono HDR.out.size); have HC1 := Lib.hid (HC0.out.bel hba); have HBA := Lib.hid (HB.out.trans (hra.mono HB.out.size)); have HS := Lib.hid (HSR.out wa (HBW.out.trans (hra.mono HBW.out.size))); have c1a := cell_below hra c1; obtain ⟨⟨a0, a1, a2⟩, ⟨a3, a4, a5⟩⟩ := HP.out wa HBA.out; clear hba hra) | (refine step_zeros_I _ (by rfl) _ _ 35 3 3 (by rfl) ji .i64 .i64 Tryz.underlying35 Tryz.underlying3 hji hji0 hji1 hji2 (v := .slice adv lv cv) (by rfl) ld t.stages HT1.out (by rfl) HC2.out.own hz1 hz2 ?_; intro v' w'' f'' hv1 hv2 hv3; obtain ⟨adz, lz, cz, rfl, _⟩ := ownI_open hv1; have HC3 := Lib.hid (HC2.out.app hv1 hv2 hv3); obtain ⟨⟨hk1, hk2⟩, hTB, hon⟩ := HT.out.putA HC3.out.only HC3.out.own HC3.out.sub HB.out.size; have HTB := Lib.hid hTB; have HON := Lib.hid hon; clear hv1 hv2 hv3 hTB hon) | (refine step_append_I _ (by rfl) _ _ 35 3 (by rfl) ji Tryz.underlying35 hji hji0 hji1 hji2 (v := .slice ad1 l1 c1') (vx := .slice (some ⟨ba, oa + i * lb, none⟩) lb (ca - i * lb)) (by rfl) (by rfl) HC1.out.own HS.out (by have := HAL.out; rw [HRL.out]; omega) ?_; intro v' w' f' hv1 hv2 hv3; obtain ⟨adv, lv, cv, rfl, _⟩ := ownI_open hv1; have HC2 := Lib.hid (HC1.out.app hv1 hv2 hv3); obtain ⟨⟨d0, d1, d2⟩, ⟨d3, d4, d5⟩⟩ := HP.out w' (HC2.out.below HB.out (fun b hb => (HT.out.newA b hb).1)); have hz1 : 0 < (A ++ (s.A.drop (i * lb)).take lb).length := (by rw [List.length_append, HRL.out]; omega); have hz2 : (A ++ (s.A.drop (i * lb)).take lb).length + ld ≤ 1000000 := (by have := HAL.out; rw [List.length_append, HRL.out]; omega); clear hv1 hv2 hv3))
      all_goals (
        go_wp2
        go_roundw
        case rel =>
          exact ⟨i + 1, _, _, _, by omega, by go_num, HTB.out, below_newer HB.out HON.out (fun b hb => by
            rcases List.mem_cons.1 hb with rfl | hb
            · exact HT.out.hB
            · exact (HT.out.newA b hb).1), by have := HAL.out; simp only [List.length_append, HRL.out, List.length_replicate]; omega⟩
        case measure => simp [intOf]; omega)
    have HT0 := Lib.hid hT
    have HB0' := Lib.hid hB
    have HA0 := Lib.hid (show A.length ≤ 128 from by omega)
    have hilI : ¬ ((i : Int) < s.stages) := by rw [HS1.out]; omega
    clear hT hB hAl
    go_wp2
    clear p0 p1 p2 p3 p4 p5
    go_loopw [8] (fun si wq => ∃ (j : Nat) (vA : Value) (A : List Int) (fA : List Nat), j ≤ ld ∧ si = .int .i64 j ∧ TBox 3 W0.heap.size wq w2.heap.size (s.stages + t.stages) vA (.slice none 0 0) A [] fA [] ∧ Below W0.heap.size W0 wq ∧ A.length ≤ 128 + 16 * j) (fun si _ => ld - (intOf si).toNat)
    case atStart => exact ⟨0, _, _, _, Nat.zero_le _, rfl, HT0.out, HB0'.out, by have := HA0.out; omega⟩
    case round =>
      obtain ⟨wz, rfl⟩ : ∃ W, W = wr := ⟨_, rfl⟩
      obtain ⟨j, vA, A, fA, hj, rfl, hT, hB, hAl⟩ := hrel
      clear HT0 HB0'
      obtain ⟨⟨p0, p1, p2⟩, ⟨p3, p4, p5⟩⟩ := HP.out wz hB
      obtain ⟨ad1, l1, c1', rfl, _, _, _, _, _, _⟩ := ownI_open hT.ownA
      have hbw := HB0.out.trans (hB.mono HB0.out.size)
      have hdr : Below wz.heap.size wz wz.drew := (Below.refl _ _).drew
      have HDR := Lib.hid hdr
      have HSB1 := Lib.hid (HSB.out wz.drew (hbw.trans (hdr.mono hbw.size)))
      by_cases hjl : j < ld
      case pos =>
        have hjlI : (j : Int) < t.stages := by rw [HT1.out]; omega
        have hlc0 : 0 < lc := by rw [HT2.out]; exact Nat.mul_pos (by omega) (by omega)
        obtain ⟨bc, oc, x0, rfl, _⟩ := rdI_get htA' (k := 0) hlc0
        have HROW := Lib.hid (fun (W : World) => sRow_ex bc oc lc cc (.slice add ld cd) ld j t.stages W HT1.out ht3 hjl HT2.out hlcc hcmc ⟨_, _, _, rfl⟩)
        have hpart : j * ld + ld ≤ lc := by
          have : (j + 1) * ld ≤ ld * ld := Nat.mul_le_mul_right ld hjl
          rw [Nat.succ_mul] at this
          rw [HT2.out]; exact this
        have hrl : ((t.A.drop (j * ld)).take ld).length = ld := by rw [List.length_take, List.length_drop, HLC.out]; omega
        have HSR := Lib.hid (fun (W : World) (hW : Below w.heap.size w W) => srcI_pos (rdI_part (rdI_mono hW htA') (lo := j * ld) (n := ld) hpart) (by rw [hrl]; omega))
        have c1 := hT.c1
        have HC0 := Lib.hid ((Chn.start hT.ownA).bel hdr)
        have HT := Lib.hid hT
        have HB := Lib.hid hB
        have HBW := Lib.hid hbw
        have HFN := Lib.hid (fun b hb => (hT.newA b hb).1)
        have HSUM := Lib.hid (show A.length + s.B.length ≤ 1000000 ∧ (A ++ s.B).length + ((t.A.drop (j * ld)).take ld).length ≤ 1000000 ∧ ((A ++ s.B) ++ (t.A.drop (j * ld)).take ld).length ≤ 128 + 16 * (j + 1) from by
          simp only [List.length_append, hrl, HLB.out]
          omega)
        clear hT hB hbw hdr hAl hrl hpart
        go_wp2
        go_region_law (first
          | (go_simp; go_at_call 175; (with_reducible refine (HROW.out _).mono ?_); rintro e wb ⟨rfl, hbb⟩; have HC3 := Lib.hid (HC1.out.bel hbb); have hb3 := HC3.out.below HB.out HFN.out; have HSX := Lib.hid (HSR.out wb (HB0.out.trans (hb3.mono HB0.out.size))); obtain ⟨⟨e0, e1, e2⟩, ⟨e3, e4, e5⟩⟩ := HP.out wb hb3; clear hbb hb3)
          | (go_simp; go_at_call 175; (with_reducible refine (HROW.out _).mono ?_); rintro e wa ⟨rfl, hba⟩; have hra := HDR.out.trans (hba.mono HDR.out.size); have HCa := Lib.hid (HC0.out.bel hba); have HBA := Lib.hid (HB.out.trans (hra.mono HB.out.size)); have HSBa := Lib.hid (HSB.out wa (HBW.out.trans (hra.mono HBW.out.size))); have c1a := cell_below hra c1; obtain ⟨⟨a0, a1, a2⟩, ⟨a3, a4, a5⟩⟩ := HP.out wa HBA.out; clear hba hra)
          | (refine step_append_I _ (by rfl) _ _ 35 3 (by rfl) ji Tryz.underlying35 hji hji0 hji1 hji2 (v := .slice adv lv cv) (vx := .slice (some ⟨bc, oc + j * ld, none⟩) ld (cc - j * ld)) (by rfl) (by rfl) HC3.out.own HSX.out HSUM.out.2.1 ?_; intro v' w'' f'' hv1 hv2 hv3; obtain ⟨adz, lz, cz, rfl, _⟩ := ownI_open hv1; have HC4 := Lib.hid (HC3.out.app hv1 hv2 hv3); obtain ⟨⟨hk1, hk2⟩, hTB, hon⟩ := HT.out.putA HC4.out.only HC4.out.own HC4.out.sub HB.out.size; have HTB := Lib.hid hTB; have HON := Lib.hid hon; clear hv1 hv2 hv3 hTB hon)
          | (refine step_append_I _ (by rfl) _ _ 35 3 (by rfl) ji Tryz.underlying35 hji hji0 hji1 hji2 (v := .slice adv lv cv) (vx := .slice (some ⟨bc, oc + j * ld, none⟩) ld (cc - j * ld)) (by rfl) (by rfl) HC2.out.own HSX.out HSUM.out.2.1 ?_; intro v' w'' f'' hv1 hv2 hv3; obtain ⟨adz, lz, cz, rfl, _⟩ := ownI_open hv1; have HC4 := Lib.hid (HC2.out.app hv1 hv2 hv3); obtain ⟨⟨hk1, hk2⟩, hTB, hon⟩ := HT.out.putA HC4.out.only HC4.out.own HC4.out.sub HB.out.size; have HTB := Lib.hid hTB; have HON := Lib.hid hon; clear hv1 hv2 hv3 hTB hon)
          | (refine step_append_I _ (by rfl) _ _ 35 3 (by rfl) ji Tryz.underlying35 hji hji0 hji1 hji2 (v := .slice ad1 l1 c1') (vx := .slice adb lb cb) (by rfl) (by rfl) HCa.out.own HSBa.out HSUM.out.1 ?_; intro v' w' f' hv1 hv2 hv3; obtain ⟨adv, lv, cv, rfl, _⟩ := ownI_open hv1; have HC2 := Lib.hid (HCa.out.app hv1 hv2 hv3); have hb2 := HC2.out.below HB.out HFN.out; have HSX := Lib.hid (HSR.out w' (HB0.out.trans (hb2.mono HB0.out.size))); obtain ⟨⟨d0, d1, d2⟩, ⟨d3, d4, d5⟩⟩ := HP.out w' hb2; clear hv1 hv2 hv3 hb2)
          | (refine step_append_I _ (by rfl) _ _ 35 3 (by rfl) ji Tryz.underlying35 hji hji0 hji1 hji2 (v := .slice ad1 l1 c1') (vx := .slice adb lb cb) (by rfl) (by rfl) HC0.out.own HSB1.out HSUM.out.1 ?_; intro v' w' f' hv1 hv2 hv3; obtain ⟨adv, lv, cv, rfl, _⟩ := ownI_open hv1; have HC1 := Lib.hid (HC0.out.app hv1 hv2 hv3); have hb2 := HC1.out.below HB.out HFN.out; obtain ⟨⟨d0, d1, d2⟩, ⟨d3, d4, d5⟩⟩ := HP.out w' hb2; clear hv1 hv2 hv3 hb2))
        all_goals (
          go_wp2
          go_roundw
          case rel =>
            exact ⟨j + 1, _, _, _, by omega, by go_num, HTB.out, below_newer HB.out HON.out (fun b hb => by
              rcases List.mem_cons.1 hb with rfl | hb
              · exact HT.out.hB
              · exact (HT.out.newA b hb).1), HSUM.out.2.2⟩
          case measure => simp [intOf]; omega)
      have hjlI : ¬ ((j : Int) < t.stages) := by rw [HT1.out]; omega
      have c0 := hT.c0
      have c1 := hT.c1
      have c2 := hT.c2
      have HC0 := Lib.hid ((Chn.start hT.ownB).bel hdr)
      have HTB1 := Lib.hid (fun (W : World) (hW : Below W0.heap.size W0 W) => HTB0.out W (HB0.out.trans (hW.mono HB0.out.size)))
      have HT := Lib.hid hT
      have HB := Lib.hid hB
      have HSUM := Lib.hid (show ([] : List Int).length + s.B.length ≤ 1000000 ∧ (([] : List Int) ++ s.B).length + t.B.length ≤ 1000000 from by
        simp only [List.length_append, HLB.out, HLD.out, List.length_nil]
        omega)
      clear hT hB hbw hdr hAl
      go_wp2
      go_region_law (first
        | (refine step_append_I _ (by rfl) _ _ 35 3 (by rfl) ji Tryz.underlying35 hji hji0 hji1 hji2 (v := .slice adv lv cv) (vx := .slice add ld cd) (by rfl) (by rfl) HC1.out.own HSX.out HSUM.out.2 ?_; intro v' w'' f'' hv1 hv2 hv3; obtain ⟨adz, lz, cz, rfl, _⟩ := ownI_open hv1; have HC4 := Lib.hid (HC1.out.app hv1 hv2 hv3); obtain ⟨⟨hk1, hk2⟩, hTB, hon⟩ := HT.out.putB HC4.out.only HC4.out.own HC4.out.sub HB.out.size; have HTB := Lib.hid hTB; have HON := Lib.hid hon; clear hv1 hv2 hv3 hTB hon)
        | (refine step_append_I _ (by rfl) _ _ 35 3 (by rfl) ji Tryz.underlying35 hji hji0 hji1 hji2 (v := .slice none 0 0) (vx := .slice adb lb cb) (by rfl) (by rfl) HC0.out.own HSB1.out HSUM.out.1 ?_; intro v' w' f' hv1 hv2 hv3; obtain ⟨adv, lv, cv, rfl, _⟩ := ownI_open hv1; have HC1 := Lib.hid (HC0.out.app hv1 hv2 hv3); have hb2 := HC1.out.below HB.out (by simp); have HSX := Lib.hid (HTB1.out w' hb2); obtain ⟨⟨d0, d1, d2⟩, ⟨d3, d4, d5⟩⟩ := HP.out w' hb2; clear hv1 hv2 hv3 hb2))
      all_goals (
        obtain ⟨wf, hwf⟩ : ∃ W, W = w''.setCell ⟨w2.heap.size, 2, none⟩ (.slice adz lz cz) := ⟨_, rfl⟩
        rw [← hwf] at HTB HON
        have hbf := below_newer HB.out HON.out (fun b hb => by
          rcases List.mem_cons.1 hb with rfl | hb
          · exact HT.out.hB
          · exact (HT.out.newB b hb).1)
        obtain ⟨⟨x0, hr0⟩, ⟨x1, hr1⟩, ⟨x2, hr2⟩, hf0, hf1, hf2⟩ := HR.out wf hbf
        have z0 := HTB.out.c0
        have z1 := HTB.out.c1
        have z2 := HTB.out.c2
        have HBF := Lib.hid (HB0.out.trans (hbf.mono HB0.out.size))
        clear hbf
        go_upto_region 13 with fail
        rw [← hwf]
        clear hwf c0 c1 c2 d0 d1 d2 d3 d4 d5 p0 p1 p2 p3 p4 p5 hk1 hk2
        go_wp2
        refine bodyPost_ret (v := .tuple #[.agg #[.int .i64 (s.stages + t.stages), .slice ad1 l1 c1', .slice adz lz cz], .bool true]) (by simp [results, Tryz.results138, go_sem, hr0, hr1, hr2]) rfl ?_
        have ho : Only [w.heap.size + 1 + 1] wf (((wf.setCell ⟨w.heap.size + 1 + 1, 0, none⟩ (.int .i64 (s.stages + t.stages))).setCell ⟨w.heap.size + 1 + 1, 1, none⟩ (.slice ad1 l1 c1')).setCell ⟨w.heap.size + 1 + 1, 2, none⟩ (.slice adz lz cz)) := (((Only.refl _ _).setCell (by simp) _).setCell (by simp) _).setCell (by simp) _
        have hsz := HSZ.out
        obtain ⟨t1, t2⟩ := HTB.out.tab ⟨by omega, by omega⟩ ho (by simp; omega)
        exact ⟨_, _, _, true, rfl, t1, fun b hb => by have := t2 b hb; omega, ((HBF.out.setCell (by simp; omega) _).setCell (by simp; omega) _).setCell (by simp; omega) _⟩)
end Go.Proofs.YtbcjhpgkodeoeaaGreatDoor
