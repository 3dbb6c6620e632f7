/- Drawn polynomials. Conditions: a cursor. -/
import Derived.Deep.Cut
import Derived.Deep.CutRange
import Derived.Test.YtbcjhpgkodeoeaaGreatDoorN11
set_option linter.unusedSimpArgs false
set_option linter.unusedVariables false

namespace Go.Proofs.YtbcjhpgkodeoeaaGreatDoor
open Go.RowKit Go.Sort

theorem mk_row (n : Nat) (h1 : 1 ≤ n) (h7 : n ≤ 7) : ∀ w : World, (Instr.makeSlice 35 (.int .i64 (n : Int)) (.int .i64 (n : Int))).run Tryz.prog w = .ok (.slice (some ⟨w.heap.size, 0, none⟩) n n) (w.alloc (.cells (Array.replicate n (.int .i64 0)) 3)) := by
  intro w
  obtain ⟨i0, hi, hz0, hz1, hz2⟩ := info_parts Tryz.info_int
  have hr := run_make (P := Tryz.prog) w 35 3 i0 (.int .i64 0) Tryz.underlying35 hi hz0 .i64 .i64 n n (by omega) (Int.le_refl _) (by rw [hz2]; omega) (by omega)
  simp only [Int.toNat_natCast] at hr
  rw [hr]
  have hm : madeCells (Value.int .i64 0).cells (n * i0.size) = Array.replicate n (Value.int .i64 0) := by
    rw [hz1, Nat.mul_one]
    exact Array.toList_inj.1 ((toList_madeCells_one _ _).trans (by simp))
  rw [hm]
/-- zeros -/
def zR (n : Nat) : List Int := List.replicate n 0
theorem zR_row {n : Nat} (w : World) (h7 : n ≤ 7) : OwnI 3 (w.alloc (.cells (Array.replicate n (.int .i64 0)) 3)) (.slice (some ⟨w.heap.size, 0, none⟩) n n) (zR n) [w.heap.size] := by
  refine ⟨⟨by simp [zR], .inr ⟨w.heap.size, n, Array.replicate n (.int .i64 0), by simp [zR], Nat.zero_le _, heap_alloc_new w _, by simp [zR], by unfold maxLen; omega, by simp, by simp [zR]⟩⟩, rfl, fun x hx => ?_⟩
  rw [zR, List.mem_replicate] at hx
  rw [hx.2]
  exact ⟨by decide, by decide⟩
/-- A fresh box of two cells. -/
structure B2 (w : World) (B : Nat) : Prop where
  c0 : ∃ x, w.cell? ⟨B, 0, none⟩ = some x
  c1 : ∃ x, w.cell? ⟨B, 1, none⟩ = some x
  f0 : w.frozen? ⟨B, 0, none⟩ = false
  f1 : w.frozen? ⟨B, 1, none⟩ = false
theorem B2.new (w : World) (a b : Value) (e : Nat) : B2 (w.alloc (.cells #[a, b] e)) w.heap.size := ⟨⟨a, by simp⟩, ⟨b, by simp⟩, by simp, by simp⟩
theorem B2.only {w w' : World} {B : Nat} {fp : List Nat} (h : B2 w B) (ho : Only fp w w') (hB : B ∉ fp) : B2 w' B := by
  obtain ⟨⟨x0, h0⟩, ⟨x1, h1⟩, f0, f1⟩ := h
  have hl := World.block_lt_of_cell? _ _ h0
  have fr : ∀ c, w'.frozen? ⟨B, c, none⟩ = w.frozen? ⟨B, c, none⟩ := fun c => World.frozen?_of_block (ho.block _ hl hB)
  exact ⟨⟨x0, cell_only ho hB h0⟩, ⟨x1, cell_only ho hB h1⟩, (fr 0).trans f0, (fr 1).trans f1⟩
theorem B2.al {w : World} {B : Nat} (h : B2 w B) (o : Obj) : B2 (w.alloc o) B := h.only (fp := []) (Only.of_below ((Below.refl _ _).alloc (Nat.le_refl _) _)) (by simp)
theorem ownI_al {e : Nat} {w : World} {v : Value} {xs : List Int} {f : List Nat} (h : OwnI e w v xs f) (o : Obj) : OwnI e (w.alloc o) v xs f := ownI_only h (Only.of_below (fp := []) ((Below.refl _ _).alloc (Nat.le_refl _) _)) (by simp)
theorem Drawn.al {g : Nat} {a b : World} (h : Drawn g a b) (o : Obj) : Drawn g a (b.alloc o) := h.below ((Below.refl _ _).alloc (Nat.le_refl _) _)
theorem Drawn.dr {g : Nat} {a b : World} (h : Drawn g a b) : Drawn g a b.drew := h.below (Below.refl _ _).drew
theorem ownI_dr {e : Nat} {w : World} {v : Value} {xs : List Int} {f : List Nat} (h : OwnI e w v xs f) : OwnI e w.drew v xs f := ownI_only h (Only.of_below (fp := []) (Below.refl _ _).drew) (by simp)
theorem B2.dr {w : World} {B : Nat} (h : B2 w B) : B2 w.drew B := h.only (fp := []) (Only.of_below (Below.refl _ _).drew) (by simp)
theorem zR_row2 {n : Nat} (w : World) (o : Obj) (h7 : n ≤ 7) : OwnI 3 ((w.alloc o).alloc (.cells (Array.replicate n (.int .i64 0)) 3)) (.slice (some ⟨w.heap.size + 1, 0, none⟩) n n) (zR n) [w.heap.size + 1] := by
  have := zR_row (n := n) (w.alloc o) h7
  simpa using this
theorem B2.new2 (w : World) (o : Obj) (a b : Value) (e : Nat) : B2 ((w.alloc o).alloc (.cells #[a, b] e)) (w.heap.size + 1) := by
  have := B2.new (w.alloc o) a b e
  simpa using this
theorem MBD.new {g n gm e : Nat} {c : Int} {ps : List Int} {W w : World} (ho : OwnI 3 w (.slice (some ⟨gm, 0, none⟩) n n) ps [gm]) (hm : W.heap.size ≤ gm) (hD : Drawn g W w) :
    MBD g n W (w.alloc (.cells #[.int .i64 c, .slice (some ⟨gm, 0, none⟩) n n] e)) w.heap.size gm c ps := by
  have hl := ownI_lt ho gm (by simp)
  exact ⟨ownI_al ho _, by simp, by simp, by omega, hD.only.size, hm, hD.al _⟩
theorem size_al (w : World) (o : Obj) : (w.alloc o).heap.size = w.heap.size + 1 := by simp
theorem cell_al {w : World} {o : Obj} {b k : Nat} {v : Value} (h : w.cell? ⟨b, k, none⟩ = some v) : (w.alloc o).cell? ⟨b, k, none⟩ = some v := cell_below ((Below.refl _ _).alloc (Nat.le_refl _) _) h
theorem two_al0 (w : World) (o : Obj) (e : Nat) : ((w.alloc (.cells #[.int .i64 0, .slice none 0 0] e)).alloc o).cell? ⟨w.heap.size, 0, none⟩ = some (.int .i64 0) := cell_al (by simp)
theorem two_al1 (w : World) (o : Obj) (e : Nat) : ((w.alloc (.cells #[.int .i64 0, .slice none 0 0] e)).alloc o).cell? ⟨w.heap.size, 1, none⟩ = some (.slice none 0 0) := cell_al (by simp)
theorem MBD.new4 {g n e : Nat} {c : Int} {W : World} (w : World) (h7 : n ≤ 7) (hm : W.heap.size ≤ w.heap.size) (hD : Drawn g W w) :
    MBD g n W ((w.alloc (.cells (Array.replicate n (.int .i64 0)) 3)).alloc (.cells #[.int .i64 c, .slice (some ⟨w.heap.size, 0, none⟩) n n] e)) (w.heap.size + 1) w.heap.size c (zR n) := by
  have := MBD.new (e := e) (c := c) (zR_row w h7) hm (hD.al _)
  rwa [size_al] at this
theorem MBD.new3 {g n e : Nat} {c : Int} {W : World} (w : World) (h7 : n ≤ 7) (hm : W.heap.size ≤ w.heap.size) (hD : Drawn g W w) :
    MBD g n W ((w.alloc (.cells #[.int .i64 c, .slice (some ⟨w.heap.size + 1, 0, none⟩) n n] e)).alloc (.cells (Array.replicate n (.int .i64 0)) 3)) w.heap.size (w.heap.size + 1) c (zR n) :=
  ⟨zR_row2 w _ h7, cell_al (by simp), cell_al (by simp), by omega, hm, by omega, (hD.al _).al _⟩

/-- A polynomial is drawn. -/
def DrawsPol (g n most : Nat) (deg : Int) (w : World) : Ending → World → Prop := fun e w' => ∃ v Z, e = .returned v ∧ PolD g n deg w w' v Z ∧ Z.length ≤ most

set_option maxRecDepth 100000 in
set_option maxHeartbeats 25600000 in
theorem monomials_any (g n most deg : Nat) (nz mz dz : Int) (hnz : nz = n) (hmz : mz = most) (hdz : dz = deg) (h1 : 1 ≤ n) (h6 : n ≤ 6) (hm : most ≤ 12) (hd5 : deg ≤ 12) (w : World) (hc : Cur w g) :
    Calls Tryz.prog 41 #[.pointer (some ⟨g, 0, none⟩), .int .i64 nz, .int .i64 mz, .int .i64 dz] w (DrawsPol g n most deg w) := by
  have hgl := hc.lt
  have HP0 := Lib.hid (PolD.start (n := n) (d := deg) hc)
  have HM := Lib.hid (below_any g (most + 1) (mz + 1) (by omega) (by omega) (by omega) _ HP0.out.drawn.cur)
  have HN := Lib.hid hnz
  have hmb : 0 ≤ mz ∧ mz ≤ 12 := by omega
  have hdb : 0 ≤ dz ∧ dz ≤ 12 := by omega
  obtain ⟨hm0, hm12⟩ := hmb
  obtain ⟨hd0, hd12⟩ := hdb
  have HDZ := Lib.hid hdz
  clear hnz hmz hdz
  go_enter Tryz.func41, Tryz.ntmps41
  go_wp2_with fail
  refine HM.out.mono ?_
  rintro e w1 ⟨x, rfl, hx, hd1⟩
  have HP1 := Lib.hid (HP0.out.only hd1 hgl)
  clear hd1
  go_wp2
  go_loopw [9, 10] (fun sp sk wq => ∃ (k : Nat) (Z : List ElS), k ≤ x ∧ sk = .int .i64 k ∧ PolD g n deg w wq sp Z ∧ Z.length + k ≤ x) (fun _ sk _ => (intOf sk).toNat)
  case atStart => exact ⟨x, [], Nat.le_refl _, rfl, HP1.out, by simp⟩
  case round =>
    obtain ⟨wk, rfl⟩ : ∃ W, W = wr := ⟨_, rfl⟩
    obtain ⟨k, Z, hk, rfl, hP, hZk⟩ := hrel
    clear HP1
    obtain ⟨gp, cap, rfl⟩ := hP.shape
    have HP := Lib.hid hP
    clear hP
    by_cases hk0 : 0 < k
    case neg =>
      have hkI : ¬ ((0 : Int) < k) := by omega
      go_wp2
      go_ret
      exact ⟨_, Z, rfl, HP.out, by omega⟩
    have hkI : (0 : Int) < k := by omega
    go_upto_region 5 with fail
    have h7 : n ≤ 7 := by omega
    have hWk := HP.out.drawn.only.size
    have hgk : g < wk.heap.size := by omega
    have HK0 := Lib.hid ((Drawn.refl HP.out.drawn.cur).dr)
    have HK1 := Lib.hid (fun o => ((Drawn.refl HP.out.drawn.cur).al o).dr)
    have HK2 := Lib.hid (fun o o' => (((Drawn.refl HP.out.drawn.cur).al o).al o').dr)
    have hmk : ∀ w : World, (Instr.makeSlice 35 (.int .i64 nz) (.int .i64 nz)).run Tryz.prog w = .ok (.slice (some ⟨w.heap.size, 0, none⟩) n n) (w.alloc (.cells (Array.replicate n (.int .i64 0)) 3)) := by rw [HN.out]; exact mk_row n h1 h7
    go_cut [11] from 19 to 59 (fun s11 wx => ∃ (B gm : Nat) (c : Int), s11 = .pointer (some ⟨B, 0, none⟩) ∧ 0 ≤ c ∧ c ≤ 1000000270 ∧ MBD g n wk wx B gm c (zR n))
    case first =>
      go_region_held3 (fun _ => True) (exact trivial) (first | (go_at_call 42; (with_reducible refine (below_any g 9 9 rfl (by omega) (by omega) _ (by first | exact HK0.out.cur | exact (HK1.out _).cur | exact (HK2.out _ _).cur)).mono ?_); rintro e wa ⟨xa, rfl, hxa, hda⟩; (first | have HDA := Lib.hid (HK0.out.trans hda) | have HDA := Lib.hid ((HK1.out _).trans hda) | have HDA := Lib.hid ((HK2.out _ _).trans hda)); have hga : wk.heap.size ≤ wa.heap.size := HDA.out.only.size; have hsa := hda.only.size; (try simp at hsa); (first | have HMA := Lib.hid (ownI_only (ownI_dr (zR_row wk h7)) hda.only (by simp; omega)) | have HMA := Lib.hid (ownI_only (ownI_dr (ownI_al (zR_row wk h7) _)) hda.only (by simp; omega)) | have HMA := Lib.hid (ownI_only (ownI_dr (zR_row2 wk _ h7)) hda.only (by simp; omega)) | skip); (first | have HBA := Lib.hid ((B2.dr (B2.new wk _ _ _)).only hda.only (by simp; omega)) | have HBA := Lib.hid ((B2.dr ((B2.new wk _ _ _).al _)).only hda.only (by simp; omega)) | have HBA := Lib.hid ((B2.dr (B2.new2 wk _ _ _ _)).only hda.only (by simp; omega)) | skip); clear hda) | (go_at_call 42; (with_reducible refine (below_any g 2 2 rfl (by omega) (by omega) _ (by first | exact HDA.out.cur | exact (HDA.out.al _).cur | exact ((HDA.out.al _).al _).cur)).mono ?_); rintro e wb ⟨xb, rfl, hxb, hdb⟩; (first | have HDB := Lib.hid (HDA.out.trans hdb) | have HDB := Lib.hid ((HDA.out.al _).trans hdb) | have HDB := Lib.hid (((HDA.out.al _).al _).trans hdb)); have hgb : wk.heap.size ≤ wb.heap.size := HDB.out.only.size; have hsb := hdb.only.size; (try simp at hsb); (first | have HMB := Lib.hid (ownI_only HMA.out hdb.only (by simp; omega)) | have HMB := Lib.hid (ownI_only (ownI_al HMA.out _) hdb.only (by simp; omega)) | have HMB := Lib.hid (ownI_only (zR_row wa h7) hdb.only (by simp; omega)) | have HMB := Lib.hid (ownI_only (ownI_al (zR_row wa h7) _) hdb.only (by simp; omega)) | have HMB := Lib.hid (ownI_only (zR_row2 wa _ h7) hdb.only (by simp; omega)) | skip); (first | have HBB := Lib.hid (HBA.out.only hdb.only (by simp; omega)) | have HBB := Lib.hid ((HBA.out.al _).only hdb.only (by simp; omega)) | have HBB := Lib.hid ((B2.new wa _ _ _).only hdb.only (by simp; omega)) | have HBB := Lib.hid (((B2.new wa _ _ _).al _).only hdb.only (by simp; omega)) | have HBB := Lib.hid ((B2.new2 wa _ _ _ _).only hdb.only (by simp; omega)) | skip); (try (obtain ⟨⟨y0, hy0⟩, ⟨y1, hy1⟩, hyf0, hyf1⟩ := HBB.out; have hy0' := fun o => cell_al (o := o) hy0; have hy1' := fun o => cell_al (o := o) hy1; have hyf0' := fun o => (HBB.out.al o).f0; have hyf1' := fun o => (HBB.out.al o).f1)); have hz0 := fun o => two_al0 wb o 56; have hz1 := fun o => two_al1 wb o 56; have hz2 := fun o => ((B2.new wb (.int .i64 0) (.slice none 0 0) 56).al o).f0; have hz3 := fun o => ((B2.new wb (.int .i64 0) (.slice none 0 0) 56).al o).f1; clear hdb) | (go_at_call 75; (with_reducible refine (sFraction_any _ _ _).mono ?_); rintro e w' ⟨rfl, rfl⟩))
      all_goals (
        go_wp2_with fail
        go_meet
        first
          | exact ⟨_, _, _, rfl, (fracZ_bd _ _).1, (fracZ_bd _ _).2, MBD.new4 wb h7 (by omega) HDB.out⟩
          | exact ⟨_, _, _, rfl, (fracZ_bd _ _).1, (fracZ_bd _ _).2, MBD.new HMB.out (by omega) HDB.out⟩
          | exact ⟨_, _, _, rfl, (fracZ_bd _ _).1, (fracZ_bd _ _).2, MBD.new3 wb h7 (by omega) HDB.out⟩
          | exact ⟨_, _, _, rfl, (fracZ_bd _ _).1, (fracZ_bd _ _).2, MBD.put HMB.out hy0 ⟨_, hy1⟩ (by omega) (by omega) (by omega) HDB.out hgk⟩
          | exact ⟨_, _, _, rfl, (fracZ_bd _ _).1, (fracZ_bd _ _).2, MBD.put (zR_row wb h7) (hy0' _) ⟨_, hy1' _⟩ (by omega) (by omega) (by omega) (HDB.out.al _) hgk⟩)
    case rest =>
      obtain ⟨wx, rfl⟩ : ∃ W, W = wc := ⟨_, rfl⟩
      obtain ⟨B, gm, c, rfl, hc0, hc1, hX⟩ := hcut
      have HP2 := Lib.hid (HP.out.only hX.drawn hgl)
      have HC := Lib.hid (below_any g (deg + 1) (dz + 1) (by have := HDZ.out; omega) (by omega) (by omega) _ hX.drawn.cur)
      have HX := Lib.hid hX
      have HFR := Lib.hid (show ∀ b ∈ [gm], w.heap.size ≤ b ∧ b ∉ Z.flatMap ElS.f from fun b hb => by
        have hb' : b = gm := by simpa using hb
        subst hb'
        have hmk := hX.nm
        refine ⟨by omega, fun hm => ?_⟩
        obtain ⟨z, hz, hzb⟩ := List.mem_flatMap.1 hm
        have := ownI_lt (HP.out.els z hz).2 b hzb
        omega)
      clear hX hmk
      go_wp2_with fail
      refine HC.out.mono ?_
      rintro e w2 ⟨y, rfl, hy, hd2⟩
      have HX2 := Lib.hid (HX.out.only hd2 hgk)
      have HP3 := Lib.hid (HP2.out.only hd2 hgl)
      clear hd2
      have hyd : y ≤ deg := by omega
      have HI0 := Lib.hid (show (∀ p ∈ zR n, 0 ≤ p) ∧ (zR n).length = n ∧ (zR n).sum + y ≤ deg from ⟨by intro p hp; rw [zR, List.mem_replicate] at hp; rw [hp.2]; omega, by simp [zR], by rw [show (zR n).sum = 0 from by simp [zR]]; omega⟩)
      have hgp : gp ≠ gm := by
        have h1 := (HP.out.row.lt gp (by simp [Value.ownBlock])).2
        have h2 := HX.out.nm
        omega
      have hgmW : w.heap.size ≤ gm := (HFR.out gm (by simp)).1
      go_wp2
      go_loopw [12] (fun sr wq => ∃ (r : Nat) (ps : List Int), r ≤ y ∧ sr = .int .i64 r ∧ MBD g n wk wq B gm c ps ∧ PolD g n deg w wq (.slice (some ⟨gp, 0, none⟩) Z.length cap) Z ∧ (∀ p ∈ ps, 0 ≤ p) ∧ ps.length = n ∧ ps.sum + r ≤ deg) (fun sr _ => (intOf sr).toNat)
      case atStart => exact ⟨y, zR n, Nat.le_refl _, rfl, HX2.out, HP3.out, HI0.out.1, HI0.out.2.1, HI0.out.2.2⟩
      case round =>
        obtain ⟨wq, rfl⟩ : ∃ W, W = wr := ⟨_, rfl⟩
        obtain ⟨r, ps, hr, rfl, hX, hPq, hp0, hpl, hps⟩ := hrel
        clear HI0
        by_cases hr0 : 0 < r
        case neg =>
          have hrI : ¬ ((0 : Int) < r) := by omega
          have e0 := hX.c0
          have e1 := hX.c1
          by_cases hcz : c = 0
          · have hczb : (c == 0) = true := by simpa using hcz
            have HPQ := Lib.hid hPq
            clear hPq hX hcz
            go_wp2
            go_roundw
            case rel => exact ⟨k - 1, Z, by omega, by go_num, HPQ.out, by omega⟩
            case measure => simp [intOf]; omega
          · have hczb : (c == 0) = false := by simpa using hcz
            have HPUT := Lib.hid (polPut_any hPq rfl (by omega) ⟨c, some ⟨gm, 0, none⟩, n, n, ps, [gm]⟩ hX.own ⟨hc0, hc1⟩ HFR.out ⟨hpl, hp0, by show ps.sum ≤ _; omega⟩)
            clear hPq hX hcz
            go_wp2_with fail
            refine HPUT.out.mono ?_
            rintro e w5 ⟨gg, cap', rfl, hP5, hl5⟩
            have HP5 := Lib.hid hP5
            clear hP5
            go_wp2
            go_roundw
            case rel => exact ⟨k - 1, _, by omega, by go_num, HP5.out, by omega⟩
            case measure => simp [intOf]; omega
        have hrI : (0 : Int) < r := by omega
        have HBE := Lib.hid (below_any g n nz HN.out h1 (by omega) wq hX.drawn.cur)
        have HX := Lib.hid hX
        have HPQ := Lib.hid hPq
        have HP0' := Lib.hid hp0
        clear hX hPq hp0
        go_wp2_with fail
        refine HBE.out.mono ?_
        rintro e w5 ⟨i, rfl, hi, hd5⟩
        have hX5 := (HX.out.only hd5 hgk).bel (Below.refl _ _).drew
        have hP5 := (HPQ.out.only hd5 hgl).bel (Below.refl _ _).drew
        obtain ⟨z, hz⟩ : ∃ z, ps[i]? = some z := ⟨_, List.getElem?_eq_getElem (by omega)⟩
        have hz0 : 0 ≤ z := HP0'.out z (List.mem_of_getElem? hz)
        have hzd : z ≤ 12 := by
          have h2 := (sum_ge HP0'.out).2 z (List.mem_of_getElem? hz)
          omega
        have e1 : w5.cell? ⟨B, 1, none⟩ = some (.slice (some ⟨gm, 0, none⟩) n n) := hX5.c1
        obtain ⟨q1, q2, hS⟩ := hX5.set hz (y := z + 1) ⟨by omega, by omega⟩ hgk
        have e2 : w5.cell? ⟨gm, i, none⟩ = some (.int .i64 z) := q1
        have e3 : w5.frozen? ⟨gm, i, none⟩ = false := q2
        have HSS := Lib.hid hS
        have HPS := Lib.hid (hP5.newer (fp := [gm]) (w' := w5.drew.setCell ⟨gm, i, none⟩ (.int .i64 (z + 1))) ((Only.refl _ _).setCell (by simp) _) (fun b hb hm => by
          simp at hm
          subst hm
          simp only [Value.ownBlock, List.mem_append, Option.mem_toList, Option.some.injEq] at hb
          rcases hb with hb | hb
          · exact hgp hb
          · exact (HFR.out b (by simp)).2 hb) (fun b hb => by simp at hb; omega) hgl)
        have HPQ1 := Lib.hid (show (∀ p ∈ ps.set i (z + 1), 0 ≤ p) ∧ (ps.set i (z + 1)).length = n ∧ (ps.set i (z + 1)).sum + ((r - 1 : Nat) : Int) ≤ deg from ⟨fun p hp => by
          rcases List.mem_or_eq_of_mem_set hp with hp | rfl
          · exact HP0'.out p hp
          · omega, by simp [hpl], by rw [sum_set hz]; omega⟩)
        have hiI : (i : Int) < n := by omega
        clear hX5 hP5 hd5 hz q1 q2 hS
        go_wp2
        (refine wp_region_still_tail 10 (by kernel_rfl) (by kernel_rfl) ?_; simp only [List.take_succ_cons, List.take_zero, List.drop_succ_cons, List.drop_zero]; (repeat (first | still_step )); refine wpStill_nil ?_; change wpList _ _ _ _ _ (World.drew _))
        go_wp2
        go_roundw
        case rel => exact ⟨r - 1, _, by omega, by go_num, HSS.out, HPS.out, HPQ1.out.1, HPQ1.out.2.1, HPQ1.out.2.2⟩
        case measure => simp [intOf]; omega
end Go.Proofs.YtbcjhpgkodeoeaaGreatDoor
