/- The reference's SolveSystem. Conditions: none. -/
import Derived.Deep.RegionLaw
import Derived.Test.YtbcjhpgkodeoeaaGreatDoorG16
import Derived.Test.YtbcjhpgkodeoeaaGreatDoorG18
import Derived.Test.YtbcjhpgkodeoeaaGreatDoorG19
set_option linter.unusedSimpArgs false
set_option linter.unusedVariables false

namespace Go.Proofs.YtbcjhpgkodeoeaaGreatDoor
open Go.RowKit

set_option maxRecDepth 100000 in
set_option maxHeartbeats 12800000 in
theorem solve_any (vr vx : Value) (rows : List (List Int)) (right : List Int) (w : World) (hr : RdII w vr rows) (hx : RdI w vx right) :
    Calls Tryz.prog 167 #[vr, vx] w (Gives2 (fun w' v fp => OwnI 3 w' v (solL rows right) fp) (solB rows right) w) := by
  obtain ⟨ji, hji, hji0, hji1, hji2⟩ := info_parts Tryz.info_int
  obtain ⟨ad, len, cap, rfl, hl, hlc, hcm, hr'⟩ := rdS_open hr
  obtain ⟨adx, lenx, capx, rfl, hlx, hlcx, hcmx, hx'⟩ := rdS_open hx
  have HL := Lib.hid hl
  have HLX := Lib.hid hlx
  have HNO := Lib.hid (fun (w' : World) (hb : Below w.heap.size w w') (h1 : solB rows right = false ∧ solL rows right = []) => show Gives2 (fun w' v fp => OwnI 3 w' v (solL rows right) fp) (solB rows right) w (.returned (.tuple #[.slice none 0 0, .bool false])) w' from
    ⟨.slice none 0 0, [], by rw [h1.1], by rw [h1.2]; exact ⟨World.ownsRow_nil _ _ _ _, rfl, by simp⟩, by simp, hb⟩)
  clear hr hx hl hlx
  cases h1 : rowsB rows with
  | false =>
    have HB := Lib.hid h1
    have HN := Lib.hid (solB_sys (rows := rows) (right := right) (by rw [sysB, h1]; rfl))
    clear h1
    go_enter Tryz.func167, Tryz.ntmps167
    go_wp2_with fail
    refine (l1Rows_any _ rows w hr').mono ?_
    rw [HB.out]
    rintro e w1 ⟨rfl, m, hw1⟩
    have HB1 := Lib.hid (show Below w.heap.size w w1 from hw1 ▸ blw_drewN (Below.refl _ _) m)
    clear hw1
    go_wp2
    go_ret2
    exact HNO.out _ HB1.out HN.out
  | true =>
  by_cases hlen : lenx = len
  case neg =>
    have HB := Lib.hid h1
    have HN := Lib.hid (solB_sys (rows := rows) (right := right) (by rw [sysB, h1, HLX.out, HL.out, decide_eq_false hlen]; rfl))
    have hlI : ((lenx : Int) != len) = true := by simp; omega
    clear h1
    go_enter Tryz.func167, Tryz.ntmps167
    go_wp2_with fail
    refine (l1Rows_any _ rows w hr').mono ?_
    rw [HB.out]
    rintro e w1 ⟨rfl, m, hw1⟩
    have HB1 := Lib.hid (show Below w.heap.size w w1 from hw1 ▸ blw_drewN (Below.refl _ _) m)
    clear hw1
    go_wp2
    go_ret2
    exact HNO.out _ HB1.out HN.out
  subst hlen
  cases h2 : right.all isNumB with
  | false =>
    have HB := Lib.hid h1
    have HB2 := Lib.hid h2
    have HN := Lib.hid (solB_sys (rows := rows) (right := right) (by rw [sysB, h1, h2]; simp))
    clear h1 h2
    go_enter Tryz.func167, Tryz.ntmps167
    go_wp2_with fail
    refine (l1Rows_any _ rows w hr').mono ?_
    rw [HB.out]
    rintro e w1 ⟨rfl, m, hw1⟩
    have hb1 : Below w.heap.size w w1 := hw1 ▸ blw_drewN (Below.refl _ _) m
    have HB1 := Lib.hid hb1
    have hx1 := rdI_mono hb1 hx'
    clear hw1 hb1
    go_wp2_with (go_at_call 184; ((with_reducible refine (l1All_eq _ right _ hx1 HB2.out).mono ?_); rintro e w' ⟨rfl, rfl⟩))
    go_ret2
    exact HNO.out _ HB1.out HN.out
  | true =>
  obtain ⟨hok, hr1, hr40, hc1, hc40⟩ := rowsB_ok h1
  obtain ⟨n, hn⟩ : ∃ n, (atL rows 0).length = n := ⟨_, rfl⟩
  rw [hn] at hok hc1 hc40
  rw [HL.out] at hr1 hr40
  have hnr := nums_all h2
  have hsys : sysB rows right = true := by simp only [sysB, h1, HLX.out, HL.out, decide_true, h2, Bool.and_self]
  have HB := Lib.hid h1
  have HB2 := Lib.hid h2
  have HSYS := Lib.hid hsys
  have HN := Lib.hid hn
  have HOK := Lib.hid hok
  have HNR := Lib.hid hnr
  clear h1 h2 hsys hn hok hnr
  go_enter Tryz.func167, Tryz.ntmps167
  go_wp2_with fail
  refine (l1Rows_any _ rows w hr').mono ?_
  rw [HB.out]
  rintro e w1 ⟨rfl, m, hw1⟩
  have hb1 : Below w.heap.size w w1 := hw1 ▸ blw_drewN (Below.refl _ _) m
  have HB1 := Lib.hid hb1
  have hx1 := rdI_mono hb1 hx'
  have hrr1 := rdII_mono hb1 hr'
  obtain ⟨b0, off0, ad0, len0, cap0, r0, rfl, hr0, hc0, h60, h70, h80, h90, _⟩ := rdII_get hrr1 (k := 0) (by omega)
  obtain rfl : n = len0 := by rw [← HN.out, atL_get hr0, h60]
  simp only [Nat.add_zero] at hc0
  have h0len : 0 < lenx := by omega
  have hrow : ∀ r ∈ rows, 1 ≤ r.length ∧ r.length ≤ 1000 := fun r hr => by
    obtain ⟨i, hi, rfl⟩ := List.getElem_of_mem hr
    have h := (HOK.out i hi).1
    rw [atL_get (List.getElem?_eq_getElem hi)] at h
    omega
  have HCP := Lib.hid (l1Copy_any _ rows w1 hrr1 (by rw [HL.out]; omega) hrow)
  clear hw1 hb1 hr0 h60 h70 h80 h90 hrow hrr1
  go_wp2_with (first | (go_at_call 184; ((with_reducible refine (l1All_eq _ right _ hx1 HB2.out).mono ?_); rintro e w' ⟨rfl, rfl⟩)) | fail)
  refine HCP.out.mono ?_
  rintro e w2 ⟨vm, fm, rfl, hom, hfm, hbm⟩
  obtain ⟨adm, lenm, capm, rfl, hlm, hlcm, hcmm, _⟩ := rdS_open (ownII_rd hom)
  obtain rfl : lenm = lenx := by rw [← hlm, HL.out]
  have hx2 := rdI_mono (hb := hbm) hx1
  have HB2 := Lib.hid (HB1.out.trans (hbm.mono HB1.out.size))
  have HFM := Lib.hid (fun b hb => show w.heap.size ≤ b from by have := hfm b hb; have := HB1.out.size; omega)
  have HM0 := Lib.hid (show OwnII 35 3 w2 (.slice adm lenm capm) (augI rows right 0) fm from by rw [augI_zero]; exact hom)
  clear hom hfm hbm hx1 hc0 hlm
  go_wp2
  go_loopw [8] (fun si wq => ∃ (i : Nat) (fq : List Nat), i ≤ lenm ∧ si = .int .i64 i ∧ OwnII 35 3 wq (.slice adm lenm capm) (augI rows right i) fq ∧ (∀ b ∈ fq, w.heap.size ≤ b) ∧ Below w.heap.size w wq) (fun si _ => lenm - (intOf si).toNat)
  case atStart => exact ⟨0, fm, Nat.zero_le _, rfl, HM0.out, HFM.out, HB2.out⟩
  case round =>
    obtain ⟨wk, rfl⟩ : ∃ W, W = wr := ⟨_, rfl⟩
    obtain ⟨i, fq, hi, rfl, hoq, hfq, hbq⟩ := hrel
    clear HM0 HFM HB2 hx2
    by_cases hil : i < lenm
    case pos =>
      have hxi := augI_get (rows := rows) (right := right) (i := i) (k := i) (by rw [HL.out]; exact hil)
      rw [if_neg (by omega)] at hxi
      obtain ⟨g, rfl⟩ : ∃ g, adm = some ⟨g, 0, none⟩ := by
        obtain ⟨_, _, hown, _, _, _, _⟩ := hoq
        obtain ⟨_, _, he, _, _, hg⟩ := row_open hown
        obtain ⟨g, hg⟩ := hg (by rw [augI_len, HL.out]; omega)
        injection he with e1 e2 e3
        exact ⟨g, by rw [e1, hg]⟩
      obtain ⟨p, f, q1, q2, q3, q4, q5, q6, q7⟩ := ownII_row hoq hxi
      obtain ⟨adp, lp, capp, rfl, hlp, hlpc, hcpm, hownp, _, _⟩ := ownI_open q4
      obtain rfl : lp = n := by rw [← hlp]; exact (HOK.out i (by rw [HL.out]; exact hil)).1
      obtain ⟨b2, off2, z, rfl, hz, hcz, hIz, _⟩ := rdI_get (rdI_mono hbq hx') hil
      have hgl : g < wk.heap.size := World.block_lt_of_cell? _ _ q1
      have hbl : b2 < wk.heap.size := World.block_lt_of_cell? _ _ hcz
      have hal : Below wk.heap.size wk ((wk.alloc (.cells #[.int .i64 z] 3)).drew) := ((Below.refl _ _).alloc (Nat.le_refl _) _).drew
      have hsz : ((wk.alloc (.cells #[.int .i64 z] 3)).drew).heap.size = wk.heap.size + 1 := by simp [World.drew]
      have HNX := Lib.hid (show (augI rows right i).set i (atL rows i ++ [z]) = augI rows right (i + 1) from by
        have := augI_next (rows := rows) (right := right) (i := i) (by rw [HL.out]; exact hil)
        rwa [atZ_get hz] at this)
      have HP := Lib.hid (fun (w3 : World) (gg capn : Nat) hown1 hgrow hat =>
        show ((w3.cell? ⟨g, i, none⟩ = some (.slice adp lp capp) ∧ w3.frozen? ⟨g, i, none⟩ = false) ∧ ∃ fp', OwnII 35 3 (w3.setCell ⟨g, i, none⟩ (.slice (some ⟨gg, 0, none⟩) (lp + 1) capn)) (.slice (some ⟨g, 0, none⟩) lenm capm) (augI rows right (i + 1)) fp' ∧ (∀ b ∈ fp', w.heap.size ≤ b) ∧ Below w.heap.size w (w3.setCell ⟨g, i, none⟩ (.slice (some ⟨gg, 0, none⟩) (lp + 1) capn))) from by
          obtain ⟨f', z1, z2, z3⟩ := ownI_push6 (w2 := w3) (gg := gg) (capn := capn) q4 hlp hIz hal hsz hown1 hgrow hat
          obtain ⟨k1, fp', k2, k3⟩ := q7 w3 _ _ f' z3 z1 z2
          rw [HNX.out] at k2
          refine ⟨k1, fp', k2, fun b hb => ?_, (below_newer hbq z3 (fun b hb => hfq b (q5 b hb))).setCell (hfq g q3) _⟩
          have := hbq.size
          rcases k3 b hb with h | h
          · exact hfq b h
          · omega)
      have HNP := Lib.hid hownp
      clear hoq hfq hbq hxi q4 q5 q6 q7 q3 hlp hownp hz hal hsz
      go_wp2
      go_region_law (first | (refine step_append_lies _ (by rfl) _ _ _ (by rfl) 0 3 ji _ 1 8 Tryz.underlying35 hji hji0 hji1 hji2 rfl (by omega) (.slice adp lp capp) lp _ (by rfl) ((HNP.out.alloc _).drew) ⟨wk.heap.size, 0, none⟩ 1 1 [.int .i64 z] (by rfl) (by rfl) (World.news_of_block (cs := #[.int .i64 z]) (t := 3) (fr := (0, 0)) (heap_alloc_new wk _)) (by simp [Value.oneCell']) (by omega) (by unfold maxLen; omega) (by omega) (by simp) (wk.heap.size + 1) (by simp) ?_; intro gg capn w3 hown1 hgrow hat hlt1; obtain ⟨⟨hk1, hk2⟩, hPP⟩ := HP.out w3 gg capn hown1 hgrow hat; have HPP := Lib.hid hPP; clear hown1 hgrow hat hPP))
      all_goals (
        go_wp2
        go_roundw
        case rel =>
          obtain ⟨fp', z1, z2, z3⟩ := HPP.out
          exact ⟨i + 1, fp', by omega, by go_num, z1, z2, z3⟩
        case measure => simp [intOf]; omega)
    obtain rfl : lenm = i := by omega
    rw [augI_done (by rw [HL.out]; exact Nat.le_refl _)] at hoq
    have hAok := aug_ok HOK.out HNR.out
    have hAl : (augZ rows right).length = lenm := by rw [augZ_len, HL.out]
    have HRD := Lib.hid (reduce_any (.slice adm lenm capm) (augZ rows right) fq n (n + 1) (n : Int) wk rfl hoq hAok (by omega) (by omega) (by omega))
    obtain ⟨S, hS⟩ : ∃ S, redS (augZ rows right) n = S := ⟨_, rfl⟩
    obtain ⟨s1, s2, s3, s4, s5⟩ := redS_ok hAok n
    rw [hS] at s1 s2 s3 s4 s5
    rw [hAl] at s2 s4
    have HSS := Lib.hid (show solS rows right = S from by rw [solS, HN.out, hS])
    have HS := Lib.hid hS
    have S1 := Lib.hid s1
    have S2 := Lib.hid s2
    have S5 := Lib.hid s5
    have HFQ := Lib.hid hfq
    have HBQ := Lib.hid hbq
    clear hoq hAok hAl hS s1 s2 s5 hfq hbq
    go_wp2_with fail
    refine HRD.out.mono ?_
    rintro e w3 ⟨va, fa, fp', rfl, ha, hm, hsub, hfa, hon⟩
    rw [HS.out] at ha hm
    have hb3 := below_newer HBQ.out hon HFQ.out
    obtain ⟨ada, la, capa, rfl, hla, hlac, hcma, _, _, _⟩ := ownI_open ha
    have hSl : S.2.length = la := by rw [← hla]; simp [natsZ]
    rw [hSl] at s3 s4
    have hlta := ownI_lt ha
    have hltm := ownII_lt hm
    have hib : ji.bytes * n ≤ 281474976710656 := by rw [hji2]; omega
    have HA := Lib.hid ha
    have HM := Lib.hid hm
    have HB3 := Lib.hid hb3
    have HSL := Lib.hid hSl
    have HLTA := Lib.hid hlta
    have HLTM := Lib.hid hltm
    clear ha hm hsub hfa hon hb3 hla hSl hlta hltm
    go_wp2_with (first
      | (at_make; refine wpList_make_full _ rfl _ _ 35 rfl 0 3 ji (.int .i64 0) 1 Tryz.underlying35 hji hji0 hji1 .i64 .i64 _ _ n rfl rfl rfl rfl hib (by unfold maxLen; omega) (Nat.zero_le _) ?_; intro w4 hown1 hgrow1))
    have hbl : Below w3.heap.size w3 w4 := (Below.refl _ _).grown hgrow1 (Nat.le_refl _) (fun k hk => by cases hk)
    have hm0 : (madeCells (Value.int .i64 0).cells (n * 1)).toList = (List.replicate n (0 : Int)).map (Value.int .i64) := by
      rw [Nat.mul_one]; exact (toList_madeCells_one _ _).trans (by simp)
    rw [hm0] at hown1
    obtain ⟨G, hG⟩ : ∃ G, w3.heap.size = G := ⟨_, rfl⟩
    rw [hG] at hown1
    have HO0 := Lib.hid (show OwnI 3 w4 (.slice (some ⟨G, 0, none⟩) n n) (outS S n 0) [G] from ⟨by simpa [outS] using hown1, rfl, fun x hx => by
      simp only [outS, List.mem_replicate] at hx
      rw [hx.2]
      exact ⟨by decide, by decide⟩⟩)
    have HGE := Lib.hid (show w.heap.size ≤ G from by rw [← hG]; exact HB3.out.size)
    have HA4 := Lib.hid (ownI_only HA.out (Only.of_below (fp := []) hbl) (by simp))
    have HM4 := Lib.hid (ownII_only HM.out (Only.of_below (fp := []) hbl) (by simp))
    have HB4 := Lib.hid (HB3.out.trans (hbl.mono HB3.out.size))
    have HGA := Lib.hid (fun b hb => show b ≠ G from by have := HLTA.out b hb; omega)
    have HGM := Lib.hid (fun b hb => show b ≠ G from by have := HLTM.out b hb; omega)
    have HGG := Lib.hid hG
    clear hbl hm0 hown1 hgrow1 hG hib
    rw [HGG.out]
    go_loopw [11] (fun si wq => ∃ i : Nat, i ≤ lenm ∧ si = .int .i64 i ∧ OwnI 3 wq (.slice (some ⟨G, 0, none⟩) n n) (outS S n i) [G] ∧ Only [G] w4 wq ∧ (∀ t, la ≤ t → t < i → atZ (atL S.1 t) n = 0)) (fun si _ => lenm - (intOf si).toNat)
    case atStart => exact ⟨0, Nat.zero_le _, rfl, HO0.out, Only.refl _ _, fun t h1 h2 => by omega⟩
    case round =>
      obtain ⟨wz, rfl⟩ : ∃ W, W = wr := ⟨_, rfl⟩
      obtain ⟨i, hi, rfl, hoz, honz, hz⟩ := hrel
      clear HO0
      have HB := Lib.hid (HB4.out.trans (honz.below HB4.out.size (by intro b hb; rw [List.mem_singleton.1 hb]; exact HGE.out)))
      have HZ := Lib.hid hz
      clear hz
      by_cases hil : i < lenm
      case neg =>
        obtain rfl : lenm = i := by omega
        obtain ⟨y1, y2⟩ := solB_yes HSYS.out (by rw [HSS.out, HN.out, HL.out]; exact badB_no (by rw [HSL.out]; exact HZ.out))
        rw [HSS.out, HN.out, HL.out] at y2
        have HE := Lib.hid y1
        have HE2 := Lib.hid y2
        have HOZ := Lib.hid hoz
        clear y1 y2 hoz honz
        go_wp2
        go_ret2
        exact ⟨_, [G], by rw [HE.out]; rfl, by rw [HE2.out]; exact HOZ.out, by intro b hb; rw [List.mem_singleton.1 hb]; exact HGE.out, HB.out⟩
      obtain ⟨y1, y2, y3⟩ := rows_get S1.out (i := i) (by rw [S2.out]; exact hil)
      have hmz := ownII_only HM4.out honz (fun b hb hm => HGM.out b hb (List.mem_singleton.1 hm))
      obtain ⟨b7, off7, ad7, len7, cap7, row7, rfl, hrow7, hc7, h67, h77, h87, h97, _⟩ := rdII_get (ownII_rd hmz) hil
      obtain rfl : atL S.1 i = row7 := Option.some.inj (y1.symm.trans hrow7)
      have hn1 : n < len7 := by rw [← h67, y2]; omega
      obtain ⟨b8, off8, z, rfl, hzv, hcz, hIz, _⟩ := rdI_get h97 (k := n) hn1
      have hzz : atZ (atL S.1 i) n = z := atZ_get hzv
      by_cases hia : i < la
      case pos =>
        have haz := ownI_only HA4.out honz (fun b hb hm => HGA.out b hb (List.mem_singleton.1 hm))
        obtain ⟨b9, off9, x, rfl, hx9, hcx, _, _⟩ := rdI_get (ownI_rd haz) hia
        obtain ⟨xn, hxn⟩ : ∃ xn, S.2[i]? = some xn := ⟨_, List.getElem?_eq_getElem (by rw [HSL.out]; exact hia)⟩
        obtain rfl : x = (xn : Int) := by
          rw [natsZ, List.getElem?_map, hxn] at hx9
          exact (Option.some.inj hx9).symm
        have hxl : xn < n := S5.out xn (List.mem_of_getElem? hxn)
        have hgt : (outS S n i)[xn]? = some (atZ (outS S n i) xn) := row_get (by rw [outS_len]; exact hxl)
        have hnx : outS S n (i + 1) = (outS S n i).set xn z := by rw [outS, if_pos (by rw [HSL.out]; exact hia), hxn, hzz]; rfl
        have hrow := hoz.1
        rw [outS_len] at hrow
        obtain ⟨o1, o2, o3, _⟩ := own_set (W := w4) hrow (honz.below (Nat.zero_le _) (fun b _ => Nat.zero_le _)) hgt (Nat.zero_le _) z
        have hdr : Below (wz.setCell ⟨G, xn, none⟩ (.int .i64 z)).heap.size (wz.setCell ⟨G, xn, none⟩ (.int .i64 z)) ((wz.setCell ⟨G, xn, none⟩ (.int .i64 z)).drew) := (Below.refl _ _).drew
        have HS1 := Lib.hid (show OwnI 3 ((wz.setCell ⟨G, xn, none⟩ (.int .i64 z)).drew) (.slice (some ⟨G, 0, none⟩) n n) (outS S n (i + 1)) [G] from by
          refine ownI_only ⟨?_, rfl, ?_⟩ (Only.of_below (fp := []) hdr) (by simp)
          · rw [hnx, List.length_set, outS_len]; exact o3
          · rw [hnx]
            intro y hy
            rcases List.mem_or_eq_of_mem_set hy with hy | rfl
            · exact hoz.2.2 y hy
            · exact hIz)
        have HS2 := Lib.hid ((honz.setCell (p := ⟨G, xn, none⟩) (by simp) (.int .i64 z)).drew)
        have HZ2 := Lib.hid (show ∀ t, la ≤ t → t < i + 1 → atZ (atL S.1 t) n = 0 from fun t h1 h2 => HZ.out t h1 (by omega))
        clear hnx hrow hoz honz hdr o3 hxn hx9 haz hmz y1 y2 y3 hrow7 h67 h97 hzv hzz hgt
        go_wp2
        (refine wp_region_still_tail 13 (by kernel_rfl) (by kernel_rfl) ?_; simp only [List.take_succ_cons, List.take_zero, List.drop_succ_cons, List.drop_zero]; (repeat (first | still_step )); refine wpStill_nil ?_; change wpList _ _ _ _ _ (World.drew _))
        go_wp2
        go_roundw
        case rel => exact ⟨i + 1, by omega, by go_num, HS1.out, HS2.out, HZ2.out⟩
        case measure => simp [intOf]; omega
      by_cases hz0 : z = 0
      · subst hz0
        have HS1 := Lib.hid (show OwnI 3 wz (.slice (some ⟨G, 0, none⟩) n n) (outS S n (i + 1)) [G] from by rw [outS, if_neg (by rw [HSL.out]; exact hia)]; exact hoz)
        have HZ2 := Lib.hid (show ∀ t, la ≤ t → t < i + 1 → atZ (atL S.1 t) n = 0 from fun t h1 h2 => by
          rcases (by omega : t < i ∨ t = i) with h | rfl
          · exact HZ.out t h1 h
          · exact hzz)
        clear hoz hmz y1 y2 y3 hrow7 h67 h97 hzv hzz
        go_wp2
        go_roundw
        case rel => exact ⟨i + 1, by omega, by go_num, HS1.out, honz, HZ2.out⟩
        case measure => simp [intOf]; omega
      · have hzb : (z != 0) = true := by simpa using hz0
        have HBD := Lib.hid (solB_bad (rows := rows) (right := right) (by
          rw [HSS.out, HN.out, HL.out]
          exact badB_yes (i := i) (by rw [HSL.out]; omega) hil (by rw [hzz]; exact hz0)))
        clear hoz hmz y1 y2 y3 hrow7 h67 h97 hzv hzz honz
        go_wp2
        go_ret2
        exact HNO.out _ HB.out HBD.out
end Go.Proofs.YtbcjhpgkodeoeaaGreatDoor
