/- Monomials read from texts: the reference. Conditions: texts of at most a million bytes. -/
import Derived.Test.YtbcjhpgkodeoeaaGreatDoorG40
set_option linter.unusedSimpArgs false
set_option linter.unusedVariables false

namespace Go.Proofs.YtbcjhpgkodeoeaaGreatDoor
open Go.RowKit Go.Sort

theorem PBox.num {e B gq n cap : Nat} {W wr : World} {c C : Int} {ps : List Int} (h : PBox e W wr B gq n cap c ps) : PBox e W (wr.setCell ⟨B, 0, none⟩ (.int .i64 C)) B gq n cap C ps := by
  have hO : Only [B] wr (wr.setCell ⟨B, 0, none⟩ (.int .i64 C)) := (Only.refl _ _).setCell (by simp) _
  have hne := h.ne
  exact ⟨World.cell?_setCell_same _ _ _ h.c0, (World.cell?_setCell_other _ _ _ _ (by simp)).trans h.c1, ownI_only h.own hO (fun b hb hm => by simp at hb hm; omega), h.len, h.ne, h.hB, h.hq, h.below.setCell h.hB _⟩
/-- What reading a monomial leaves. -/
def MonGiven (d : Nat) (l : List UInt8) (w : World) : Ending → World → Prop := fun e w' =>
  ∃ (v : Value) (fp : List Nat), e = .returned v ∧ OwnMon 3 w' v (sMon d l) fp ∧ (∀ b ∈ fp, w.heap.size ≤ b) ∧ Below w.heap.size w w'
theorem sMon_no {d : Nat} {l : List UInt8} (h : ((starS l).drop 1).all (varB d) = false) : sMon d l = ⟨0, []⟩ := by rw [sMon, h]; rfl
theorem u8_wrap {x : Int} (h0 : 0 ≤ x) (h1 : x ≤ 255) : IntKind.u8.wrap (x - 97) = (x - 97) % 256 := by
  unfold IntKind.wrap
  simp [IntKind.bits, IntKind.signed]

set_option maxRecDepth 100000 in
set_option maxHeartbeats 3200000 in
theorem sMon_any (l : List UInt8) (s : ByteArray) (d : Nat) (hs : s = ByteArray.mk l.toArray) (hl : l.length ≤ 1048576) (hd1 : 1 ≤ d) (hd6 : d ≤ 6) (w : World) :
    Calls Tryz.prog 95 #[.string s, .int .i64 (d : Int)] w (MonGiven d l w) := by
  obtain ⟨W0, hW0⟩ : ∃ W, W = w.alloc (.cells #[.int .i64 0, .slice none 0 0] 56) := ⟨_, rfl⟩
  have hb0 : Below w.heap.size w W0 := hW0 ▸ (Below.refl _ _).alloc (Nat.le_refl _) _
  have HB0 := Lib.hid hb0
  have HW0 := Lib.hid hW0
  have hsz : w.heap.size < W0.heap.size := by rw [hW0]; simp
  have HR := Lib.hid (show W0.cell? ⟨w.heap.size, 0, none⟩ = some (.int .i64 0) ∧ W0.cell? ⟨w.heap.size, 1, none⟩ = some (.slice none 0 0) ∧ W0.frozen? ⟨w.heap.size, 0, none⟩ = false ∧ W0.frozen? ⟨w.heap.size, 1, none⟩ = false from by rw [hW0]; refine ⟨?_, ?_, ?_, ?_⟩ <;> simp)
  have SP := Lib.hid (show Calls Tryz.prog 146 #[.string s, .int .u8 42] W0 (Words W0 (starS l)) from sCut_any l 42 42 (by rfl) s hs hl W0)
  have HL := Lib.hid hl
  clear hs hW0 hb0
  obtain ⟨i0, hi, hz0, hz1, hz2⟩ := info_parts Tryz.info_int
  go_enter Tryz.func95, Tryz.ntmps95
  go_wp2_with fail
  rw [← HW0.out]
  refine SP.out.mono ?_
  rintro e w1 ⟨g, cap, m, rfl, hR⟩
  have hpm := hR.len
  have hm1 : 1 ≤ m := by have := List.length_pos_iff.2 (split_ne l [42]); unfold starS at hpm; omega
  obtain ⟨x0, hx0⟩ : ∃ x0, (starS l)[0]? = some x0 := ⟨_, List.getElem?_eq_getElem (by omega)⟩
  obtain ⟨y0, hy0⟩ : ∃ y0, y0 = ByteArray.mk x0.toArray := ⟨_, rfl⟩
  have hx0l : x0.length ≤ 1048576 := split_small (by simp) _ l HL.out x0 (List.mem_of_getElem? hx0)
  have hmb : m ≤ 1048580 := by
    have h1 := split_len l [42]
    have h2 := HL.out
    unfold starS at hpm
    omega
  have hib : i0.bytes * d ≤ 281474976710656 := by rw [hz2]; omega
  have HRR := Lib.hid hR
  have HX0 := Lib.hid hx0
  have HPM := Lib.hid hpm
  clear hx0 hR hpm
  go_wp2_with (first
    | (at_make; refine wpList_make_full _ rfl _ _ 35 rfl 0 3 i0 (.int .i64 0) 1 Tryz.underlying35 hi hz0 hz1 .i64 .i64 _ _ d rfl rfl rfl rfl hib (by unfold maxLen; omega) (Nat.zero_le _) ?_; intro w2 hown1 hgrow1; have hm0 : (madeCells (Value.int .i64 0).cells (d * 1)).toList = (List.replicate d (0 : Int)).map (Value.int .i64) := (by rw [Nat.mul_one, List.map_replicate]; exact toList_madeCells_one _ _); rw [hm0] at hown1; have HOWN1 := Lib.hid hown1; have HBL := Lib.hid (show Below w1.heap.size w1 w2 from (Below.refl _ _).grown hgrow1 (Nat.le_refl _) (fun k hk => by cases hk)); have hc0 := cell_below (HBL.out.alloc HBL.out.size (.cells #[.int .i64 0, .slice (some ⟨w1.heap.size, 0, none⟩) d d] 56)) (HRR.out.at HX0.out hy0); clear hown1 hgrow1 hm0)
    | fail)
  obtain ⟨W4, hW4⟩ : ∃ W, W = w2.alloc (.cells #[.int .i64 0, .slice (some ⟨w1.heap.size, 0, none⟩) d d] 56) := ⟨_, rfl⟩
  have hb4 : Below w2.heap.size w2 W4 := hW4 ▸ (Below.refl _ _).alloc (Nat.le_refl _) _
  have hlt2 : w1.heap.size < w2.heap.size := (HOWN1.out.lt _ rfl).2
  have hP0 : PBox 3 w1 W4 w2.heap.size w1.heap.size d d 0 (List.replicate d 0) :=
    ⟨by rw [hW4]; simp, by rw [hW4]; simp, ownI_only ⟨by rw [List.length_replicate]; exact HOWN1.out, rfl, fun x hx => by rw [List.mem_replicate] at hx; rw [hx.2]; exact ⟨by decide, by decide⟩⟩ (Only.of_below (fp := []) hb4) (by simp), by simp, by omega, HBL.out.size, Nat.le_refl _, HBL.out.trans (hb4.mono HBL.out.size)⟩
  subst hy0
  have PN := Lib.hid (sParseNum_any x0 _ rfl hx0l W4)
  have hfz0 : W4.frozen? ⟨w2.heap.size, 0, none⟩ = false := by rw [hW4]; simp
  have hl4 : w2.heap.size < W4.heap.size := by rw [hW4]; simp
  rw [← hW4] at hc0 ⊢
  clear hW4 hb4 hib
  refine PN.out.mono ?_
  rintro e w3 ⟨rfl, hb3⟩
  obtain ⟨C, hC⟩ : ∃ C, numV x0 = C := ⟨_, rfl⟩
  rw [hC]
  have hCI : I64 C := hC ▸ numV_i64 x0
  have HC := Lib.hid hC
  have hP3 := hP0.step hb3
  have hz3 := (hb3.frozen (p := ⟨w2.heap.size, 0, none⟩) hl4).trans hfz0
  have hcz := hP3.c0
  have HP1 := Lib.hid (hP3.num (C := C))
  have HBW1 := Lib.hid (HB0.out.trans (HRR.out.below.mono HB0.out.size))
  have HWL := Lib.hid (show ((starS l).drop 1).length + 1 = m from by rw [List.length_drop, HPM.out]; omega)
  clear hC hc0 hP0 hP3 hb3 hfz0 hl4
  go_wp2
  go_loopw [7] (fun si wr => ∃ (i : Nat) (ps : List Int), si = .int .i64 i ∧ 1 ≤ i ∧ i ≤ m ∧ PBox 3 w1 wr w2.heap.size w1.heap.size d d C ps ∧ ps = powsW digR (((starS l).drop 1).take (i - 1)) (List.replicate d 0) ∧ (((starS l).drop 1).take (i - 1)).all (varB d) = true) (fun si _ => m - (intOf si).toNat)
  case atStart => exact ⟨1, _, rfl, Nat.le_refl _, hm1, HP1.out, rfl, rfl⟩
  case round =>
    obtain ⟨wk, rfl⟩ : ∃ W, W = wr := ⟨_, rfl⟩
    clear HP1 hcz hz3
    obtain ⟨i, ps, rfl, hi1, him, hP, hps, hall⟩ := hrel
    have hbk := hP.below
    have hbr := HRR.out.below.trans (hbk.mono HRR.out.below.size)
    have hr0 := cell_below hbr HR.out.1
    have hr1 := cell_below hbr HR.out.2.1
    have hf0 := (hbr.frozen (p := ⟨w.heap.size, 0, none⟩) hsz).trans HR.out.2.2.1
    have hf1 := (hbr.frozen (p := ⟨w.heap.size, 1, none⟩) hsz).trans HR.out.2.2.2
    have hp0 := hP.c0
    have hp1 := hP.c1
    have HP := Lib.hid hP
    have HPS := Lib.hid hps
    have HALL := Lib.hid hall
    have HBK := Lib.hid (HB0.out.trans (hbr.mono HB0.out.size))
    have hB1 : w.heap.size < w1.heap.size := by have := HRR.out.below.size; omega
    have HBAD := Lib.hid (fun (hb : ((starS l).drop 1).all (varB d) = false) => show MonGiven d l w (.returned (.agg #[.int .i64 0, .slice none 0 0])) ((wk.setCell ⟨w.heap.size, 0, none⟩ (.int .i64 0)).setCell ⟨w.heap.size, 1, none⟩ (.slice none 0 0)) from by
      refine ⟨_, [], rfl, ?_, by simp, (HBK.out.setCell (Nat.le_refl _) _).setCell (Nat.le_refl _) _⟩
      rw [sMon_no hb]
      exact ⟨_, rfl, ⟨by show (-9223372036854775808 : Int) ≤ 0; decide, by show (0 : Int) ≤ 9223372036854775807; decide⟩, World.ownsRow_nil _ _ _ _, rfl, by simp⟩)
    clear hP hps hall hbk hbr
    by_cases hlt : i < m
    case neg =>
      obtain rfl : i = m := by omega
      have htk : ((starS l).drop 1).take (i - 1) = (starS l).drop 1 := List.take_of_length_le (by have := HWL.out; omega)
      have HF := Lib.hid (show MonGiven d l w (.returned (.agg #[.int .i64 C, .slice (some ⟨w1.heap.size, 0, none⟩) d d])) ((wk.setCell ⟨w.heap.size, 0, none⟩ (.int .i64 C)).setCell ⟨w.heap.size, 1, none⟩ (.slice (some ⟨w1.heap.size, 0, none⟩) d d)) from by
        have hO : Only [w.heap.size] wk ((wk.setCell ⟨w.heap.size, 0, none⟩ (.int .i64 C)).setCell ⟨w.heap.size, 1, none⟩ (.slice (some ⟨w1.heap.size, 0, none⟩) d d)) := ((Only.refl _ _).setCell (by simp) _).setCell (by simp) _
        have hE : sMon d l = ⟨C, ps⟩ := by rw [sMon, if_pos (by rw [← htk]; exact HALL.out), HPS.out, htk, HX0.out, ← HC.out]; rfl
        refine ⟨_, [w1.heap.size], rfl, ?_, by simp; omega, (HBK.out.setCell (Nat.le_refl _) _).setCell (Nat.le_refl _) _⟩
        rw [hE]
        exact ⟨_, rfl, hCI, ownI_only HP.out.own hO (fun b hb hm => by simp at hb hm; omega)⟩)
      clear HBAD
      go_wp2
      exact bodyPost_ret (v := .agg #[.int .i64 C, .slice (some ⟨w1.heap.size, 0, none⟩) d d]) (by simp [results, Tryz.results95, go_sem, hr0, hr1]) rfl HF.out
    case pos =>
      obtain ⟨j, hj⟩ : ∃ j, i = j + 1 := ⟨i - 1, by omega⟩
      obtain ⟨x, hx⟩ : ∃ x, ((starS l).drop 1)[j]? = some x := ⟨_, List.getElem?_eq_getElem (by have := HWL.out; omega)⟩
      have hx' : (starS l)[i]? = some x := by rw [hj, Nat.add_comm, ← List.getElem?_drop]; exact hx
      obtain ⟨y, hy⟩ : ∃ y, y = ByteArray.mk x.toArray := ⟨_, rfl⟩
      have hcx := cell_below HP.out.below (HRR.out.at hx' hy)
      have hiI : (i : Int) < m := by omega
      have HTK := Lib.hid (show ((starS l).drop 1).take (i + 1 - 1) = ((starS l).drop 1).take (i - 1) ++ [x] from by
        rw [show i + 1 - 1 = j + 1 by omega, show i - 1 = j by omega]
        exact take_snoc hx)
      have hysz := str_size hy
      obtain ⟨yn, hyn⟩ : ∃ n, x.length = n := ⟨_, rfl⟩
      rw [hyn] at hysz
      clear hj
      cases hxx : x with
      | nil =>
        have hyn0 : yn = 0 := by rw [← hyn, hxx]; rfl
        have hbadW : varB d x = false := by rw [hxx]; rfl
        have HF := Lib.hid (HBAD.out (List.all_eq_false.2 ⟨x, List.mem_of_getElem? hx, by rw [hbadW]; simp⟩))
        clear HBAD hx hx' hy hyn hxx hbadW
        subst hyn0
        go_wp2
        exact bodyPost_ret (v := .agg #[.int .i64 0, .slice none 0 0]) (by simp [results, Tryz.results95, go_sem, hr0, hr1]) rfl HF.out
      | cons b r =>
        obtain ⟨z, hz⟩ : ∃ z : Int, (b.toNat : Int) = z := ⟨_, rfl⟩
        obtain ⟨hi0, hs0⟩ := str_at (i := 0) hy (by rw [hxx]; rfl)
        have hzb : (y[0]'hi0).toNat = b.toNat := by rw [hs0]
        have hz0' : 0 ≤ z := by omega
        have hz255 : z ≤ 255 := by have := b.toNat_lt; omega
        have hynN : 0 < yn := by rw [← hyn, hxx]; simp
        have hynI : (0 : Int) < yn := by omega
        have hyn0 : ((yn : Int) == 0) = false := by simp; omega
        have hvB := varB_cons (d := d) (r := r) hz
        rw [← hxx] at hvB
        obtain ⟨V, hV⟩ : ∃ V, (z - 97) % 256 = V := ⟨_, rfl⟩
        have hu8 : IntKind.u8.wrap (z - 97) = V := (u8_wrap hz0' hz255).trans hV
        have hV0 : 0 ≤ V ∧ V ≤ 255 := by omega
        obtain ⟨hV1, hV2⟩ := hV0
        have hw64 : IntKind.i64.wrap V = V := IntWalk.i64_in _ (by omega)
        have hwd : IntKind.i64.wrap ((d : Int) - 1) = (d : Int) - 1 := IntWalk.i64_in _ (by omega)
        have LI := Lib.hid (fun (bb : Bool) (hb : inB V 0 ((d : Int) - 1) = bb) (W : World) => show Calls Tryz.prog 131 #[.int .i64 V, .int .i64 0, .int .i64 ((d : Int) - 1)] W fun e w' => e = .returned (.bool bb) ∧ W = w' from hb ▸ l1In_any V 0 ((d : Int) - 1) W)
        by_cases hin : 97 ≤ z ∧ z < 97 + d
        case neg =>
          have L1 := Lib.hid (LI.out false (by unfold inB; rw [decide_eq_false_iff_not]; omega))
          have HF := Lib.hid (HBAD.out (List.all_eq_false.2 ⟨x, List.mem_of_getElem? hx, by rw [hvB]; simp; omega⟩))
          clear HBAD hx hx' hy hyn hxx hs0 hvB hV LI hin
          go_wp2_with fail
          refine (L1.out _).mono ?_
          rintro e w' ⟨rfl, rfl⟩
          go_wp2
          exact bodyPost_ret (v := .agg #[.int .i64 0, .slice none 0 0]) (by simp [results, Tryz.results95, go_sem, hr0, hr1]) rfl HF.out
        case pos =>
          have L1 := Lib.hid (LI.out true (by unfold inB; rw [decide_eq_true_eq]; omega))
          obtain ⟨v, hv⟩ : ∃ v : Nat, V = (v : Int) := ⟨V.toNat, by omega⟩
          have hzv : z - 97 = (v : Int) := by omega
          obtain ⟨PW, hPW⟩ : ∃ p, powW digR x = p := ⟨_, rfl⟩
          have hPI : I64 PW := hPW ▸ powW_i64 digR_bd x
          obtain ⟨⟨cu, hcu⟩, hfz, hPS⟩ := HP.out.set (v := v) (by omega) hPI
          have hvn : varN x = v := by rw [hxx]; exact varN_cons hz hzv
          have hvd : (v : Int) < d := by omega
          have HN := Lib.hid (show PBox 3 w1 ((wk.setCell ⟨w1.heap.size, v, none⟩ (.int .i64 PW)).drew) w2.heap.size w1.heap.size d d C (ps.set v PW) ∧ ps.set v PW = powsW digR (((starS l).drop 1).take (i + 1 - 1)) (List.replicate d 0) ∧ (((starS l).drop 1).take (i + 1 - 1)).all (varB d) = true from
            ⟨hPS.step ((Below.refl _ _).drew), by rw [HTK.out, powsW_snoc, ← HPS.out, hvn, hPW], by rw [HTK.out, List.all_append, HALL.out]; simp [hvB]; omega⟩)
          by_cases hy1 : 1 < yn
          · have hy1I : (1 : Int) < yn := by omega
            have hy1J : (1 : Int) ≤ yn := by omega
            obtain ⟨u, hu⟩ : ∃ u, y.extract 1 yn = u := ⟨_, rfl⟩
            have hur : u = ByteArray.mk (x.drop 1).toArray := txt_inj (by
              rw [← hu, str_cut hy, List.take_of_length_le (by rw [List.length_drop]; omega)])
            have RD := Lib.hid (fun W : World => show Calls Tryz.prog 148 #[.string u] W fun e w' => e = .returned (.int .i64 PW) ∧ W = w' from by
              have := sDigits_any (x.drop 1) u hur W
              rwa [show digR (x.drop 1) = PW from by rw [← hPW, powW, if_pos (by omega)]] at this)
            subst hv
            clear HBAD hx hx' hy hyn hxx hs0 hvB hV LI hPS hvn hPW hur hzv
            go_wp2_with fail
            refine (L1.out _).mono ?_
            rintro e w' ⟨rfl, rfl⟩
            go_wp2_with fail
            refine (RD.out _).mono ?_
            rintro e w' ⟨rfl, rfl⟩
            go_wp2
            (refine wp_region_still_tail 7 (by kernel_rfl) (by kernel_rfl) ?_; simp only [List.take_succ_cons, List.take_zero, List.drop_succ_cons, List.drop_zero]; (repeat (first | still_step )); refine wpStill_nil ?_; change wpList _ _ _ _ _ (World.drew _))
            go_wp2
            go_roundw
            case rel => exact ⟨i + 1, _, by go_num, by omega, by omega, HN.out⟩
            case measure => (simp [intOf]; try omega)
          · have hy1I : ¬ ((1 : Int) < yn) := by omega
            have hPW1 : PW = 1 := by rw [← hPW, powW, if_neg (by omega)]
            subst hv
            clear HBAD hx hx' hy hyn hxx hs0 hvB hV LI hPS hvn hPW hzv
            subst hPW1
            go_wp2_with fail
            refine (L1.out _).mono ?_
            rintro e w' ⟨rfl, rfl⟩
            go_wp2
            (refine wp_region_still_tail 7 (by kernel_rfl) (by kernel_rfl) ?_; simp only [List.take_succ_cons, List.take_zero, List.drop_succ_cons, List.drop_zero]; (repeat (first | still_step )); refine wpStill_nil ?_; change wpList _ _ _ _ _ (World.drew _))
            go_wp2
            go_roundw
            case rel => exact ⟨i + 1, _, by go_num, by omega, by omega, HN.out⟩
            case measure => (simp [intOf]; try omega)
end Go.Proofs.YtbcjhpgkodeoeaaGreatDoor
