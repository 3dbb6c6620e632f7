/- The program's reduction of rows. Conditions: rows of one length, of numbers. -/
import Derived.Test.YtbcjhpgkodeoeaaGreatDoorN22
import Derived.Test.YtbcjhpgkodeoeaaGreatDoorN23
set_option linter.unusedSimpArgs false
set_option linter.unusedVariables false

namespace Go.Proofs.YtbcjhpgkodeoeaaGreatDoor
open Go.RowKit

theorem elimR_zero {row pr : List Int} (h : Nums row) : elimR row pr 0 = row := by
  unfold elimR
  refine List.ext_getElem? fun j => ?_
  by_cases hj : j < row.length
  · rw [List.getElem?_map, List.getElem?_range hj, Option.map_some, row_get hj]
    congr 1
    have := nums_atZ h j
    simp only [minusZ, timesZ]
    omega
  · rw [List.getElem?_eq_none (by simp; omega), List.getElem?_eq_none (by omega)]
theorem minus_mul (z y t : Int) : minusZ z (y * t) = minusZ z (timesZ y t) := by
  simp only [minusZ, timesZ]
  omega
theorem inverse_eq {a y : Int} (h : powZ a 1000000269 = y) (w : World) : Calls Tryz.prog 127 #[.int .i64 a] w fun e w' => e = .returned (.int .i64 y) ∧ w = w' := h ▸ inverse_any a w
theorem mul_bdI {y t : Int} (hy : 0 ≤ y ∧ y ≤ 1000000270) (ht : 0 ≤ t ∧ t ≤ 1000000270) : 0 ≤ y * t ∧ y * t ≤ 1000000270 * 1000000270 := ⟨Int.mul_nonneg hy.1 ht.1, Int.mul_le_mul hy.2 ht.2 ht.1 (by omega)⟩

set_option maxRecDepth 100000 in
set_option maxHeartbeats 12800000 in
theorem reduceI_any (v : Value) (rows : List (List Int)) (fp : List Nat) (cols c : Nat) (cz : Int) (w : World) (hcz : cz = (cols : Int)) (h : OwnII 35 3 w v rows fp) (hok : RowsOk c rows) (hcc : cols ≤ c) (hc1 : c ≤ 1000) (hr1 : rows.length ≤ 1000) :
    Calls Tryz.prog 190 #[v, .int .i64 cz] w (Reduced rows cols v fp w) := by
  obtain ⟨ji, hji, hji0, hji1, hji2⟩ := info_parts Tryz.info_int
  obtain ⟨ad, len, cap, rfl, hl, hlc, hcm, _⟩ := rdS_open (ownII_rd h)
  have hfpl := ownII_lt h
  rw [hl] at hr1
  have HL := Lib.hid hl
  have HOK := Lib.hid (redS_ok hok)
  have HFPL := Lib.hid hfpl
  have HCZ := Lib.hid hcz
  have HI0 := Lib.hid (own_lit (e := 3) w)
  have hb0 := below_lit w 3
  have HO0 := Lib.hid (show OwnII 35 3 (w.alloc (.cells #[] 3)) (.slice ad len cap) (redS rows 0).1 fp from ownII_only h (Only.of_below (fp := []) hb0) (by simp))
  have HB0 := Lib.hid (Only.of_below (fp := fp) hb0)
  clear h hl hok hfpl hcz hb0
  go_enter Tryz.func190, Tryz.ntmps190
  go_wp2
  go_loopw [5, 6] (fun p kk wr => ∃ (k : Nat) (f2 fp' : List Nat), k ≤ cols ∧ kk = .int .i64 k ∧ OwnI 3 wr p (natsZ (redS rows k).2) f2 ∧ (∀ b ∈ f2, w.heap.size ≤ b) ∧ OwnII 35 3 wr (.slice ad len cap) (redS rows k).1 fp' ∧ (∀ b ∈ fp', b ∈ fp) ∧ Only fp w wr) (fun _ kk _ => cols - (intOf kk).toNat)
  case atStart => exact ⟨0, [w.heap.size], fp, Nat.zero_le _, rfl, HI0.out, by simp, HO0.out, fun b hb => hb, HB0.out⟩
  case round =>
    obtain ⟨wk, rfl⟩ : ∃ W, W = wr := ⟨_, rfl⟩
    obtain ⟨k, f2, fp', hk, rfl, hp, hf2, hO, hfp', hon⟩ := hrel
    clear HI0 HO0 HB0
    obtain ⟨hMok, hMlen, hA1, hA2, _⟩ := HOK.out k
    obtain ⟨M, hM⟩ : ∃ M, (redS rows k).1 = M := ⟨_, rfl⟩
    obtain ⟨A, hA⟩ : ∃ A, (redS rows k).2 = A := ⟨_, rfl⟩
    rw [hM] at hO hMok hMlen
    rw [hA] at hp hA1 hA2
    obtain ⟨adp, r, capp, rfl, hlp, hlpc, hcpm, hownp, _, hfe⟩ := ownI_open hp
    have hAl : A.length = r := by rw [← hlp]; simp [natsZ]
    rw [hAl] at hA1 hA2
    have hMl : M.length = len := by rw [hMlen, HL.out]
    rw [HL.out] at hA2
    have HMOK := Lib.hid hMok
    have HML := Lib.hid hMl
    have HAL := Lib.hid hAl
    have HM := Lib.hid hM
    have HA := Lib.hid hA
    have HP := Lib.hid hp
    have HF2 := Lib.hid hf2
    have HO := Lib.hid hO
    have HFP := Lib.hid hfp'
    have HON := Lib.hid hon
    have HLP := Lib.hid hlp
    clear hMok hMlen hMl hAl hM hA hp hf2 hO hfp' hon hlp hownp hfe
    by_cases hkc : k < cols
    case neg =>
      obtain rfl : k = cols := by omega
      have : ¬ ((k : Int) < cz) := by rw [HCZ.out]; omega
      go_wp2
      go_ret
      exact ⟨_, f2, fp', rfl, by rw [HA.out]; exact HP.out, by rw [HM.out]; exact HO.out, HFP.out, HF2.out, HON.out⟩
    have hkI : (k : Int) < cz := by rw [HCZ.out]; omega
    go_wp2
    go_loopw [7] (fun si wq => ∃ i : Nat, r ≤ i ∧ i ≤ len ∧ si = .int .i64 i ∧ (∀ j, r ≤ j → j < i → atZ (atL M j) k = 0) ∧ wq = wk) (fun si _ => len - (intOf si).toNat)
    case atStart => exact ⟨r, Nat.le_refl _, by omega, rfl, fun j h1 h2 => by omega, rfl⟩
    case round =>
      obtain ⟨i, hri, hil, rfl, hz, rfl⟩ := hrel
      have HZ := Lib.hid hz
      clear hz
      by_cases hlt : i < len
      case neg =>
        obtain rfl : i = len := by omega
        have HE := Lib.hid (redS_none (m := rows) (k := k) (by rw [HM.out, HA.out, HAL.out]; exact pivO_none (by rw [HML.out]; exact HZ.out)))
        go_wp2
        go_roundw
        case rel => exact ⟨k + 1, f2, fp', by omega, by go_num, by rw [HE.out, HA.out]; exact HP.out, HF2.out, by rw [HE.out, HM.out]; exact HO.out, HFP.out, HON.out⟩
        case measure => simp [intOf]; omega
      obtain ⟨hgi, hgl, hgn⟩ := rows_get HMOK.out (i := i) (by rw [HML.out]; exact hlt)
      obtain ⟨b, off, ad1, len1, cap1, row, rfl, hrow, hcell, h61, h71, h81, h91, _⟩ := rdII_get (ownII_rd HO.out) hlt
      obtain rfl : atL M i = row := Option.some.inj (hgi.symm.trans hrow)
      obtain ⟨b2, off2, z, rfl, hzx, hcz2, hIz, _⟩ := rdI_get h91 (k := k) (by omega)
      have hzz : atZ (atL M i) k = z := atZ_get hzx
      have hk1 : k < len1 := by omega
      by_cases hz0 : z = 0
      · subst hz0
        have HN := Lib.hid (show ∀ j, r ≤ j → j < i + 1 → atZ (atL M j) k = 0 from fun j h1 h2 => by
          rcases (by omega : j < i ∨ j = i) with h | rfl
          · exact HZ.out j h1 h
          · exact hzz)
        clear hgi hgl hgn hrow h61 h91 hzx hzz
        go_wp2
        go_roundw
        case rel => exact ⟨i + 1, by omega, by omega, by go_num, HN.out, trivial⟩
        case measure => simp [intOf]; omega
      -- the pivot is found
      have hrl : r < len := by omega
      have hrlI : (r : Int) < len := by omega
      have hib : ((i : Int) == len) = false := by simp; omega
      obtain ⟨wp, rfl⟩ : ∃ W, W = wr := ⟨_, rfl⟩
      have hzb : (z == 0) = false := by simpa using hz0
      have HE := Lib.hid (redS_some (m := rows) (k := k) (i := i) (by rw [HM.out, HA.out, HAL.out]; exact pivO_some hri (by rw [HML.out]; exact hlt) (by rw [hzz]; exact hz0) HZ.out))
      obtain ⟨hgr, hgrl, hgrn⟩ := rows_get HMOK.out (i := r) (by rw [HML.out]; exact hrl)
      have hg0 : ∃ g, off = 0 ∧ b = g := by
        obtain ⟨_, _, hown, _, _, _, _⟩ := HO.out
        obtain ⟨_, _, he, _, _, hg⟩ := row_open hown
        obtain ⟨g, hg⟩ := hg (by rw [HML.out]; omega)
        injection he with e1 e2 e3
        rw [hg] at e1
        simp at e1
        exact ⟨g, e1.2, e1.1⟩
      obtain ⟨g, rfl, rfl⟩ := hg0
      obtain ⟨adx, lx, cx, ady, ly, cy, q1, q2, q3, q4, q5, fp2, q6, q7⟩ := ownII_swap HO.out hgi hgr
      simp only [Nat.zero_add] at hcell
      obtain ⟨rfl, rfl, rfl⟩ : some ⟨b2, off2, none⟩ = adx ∧ len1 = lx ∧ cap1 = cx := by
        have := hcell.symm.trans q1
        simpa using this
      have hwsz : w.heap.size ≤ wp.heap.size := HON.out.size
      have hgfp : b ∈ fp := HFP.out b q5
      obtain ⟨um, hm1⟩ : ∃ u, (wp.setCell ⟨b, i, none⟩ (.slice ady ly cy)).cell? ⟨b, r, none⟩ = some u := by
        by_cases hir : i = r
        · subst hir
          exact ⟨_, World.cell?_setCell_same _ _ _ q1⟩
        · exact ⟨_, (World.cell?_setCell_other _ _ _ _ (by simp; try omega)).trans q2⟩
      obtain ⟨ws, hws⟩ : ∃ W, W = ((wp.setCell ⟨b, i, none⟩ (.slice ady ly cy)).setCell ⟨b, r, none⟩ (.slice (some ⟨b2, off2, none⟩) len1 cap1)).drew := ⟨_, rfl⟩
      have q6 : OwnII 35 3 ws (.slice (some ⟨b, 0, none⟩) len cap) (swapR M i r) fp2 := hws ▸ ownII_only q6 (Only.of_below (fp := []) (Below.refl _ _).drew) (by simp)
      have hons : Only fp wp ws := by
        rw [hws]
        exact (((Only.refl _ _).setCell hgfp _).setCell hgfp _).drew
      have HONS := Lib.hid hons
      have HWS := Lib.hid hws
      have HQ7 := Lib.hid (fun b hb => HFP.out b (q7 b hb))
      have HSW := Lib.hid (show OwnII 35 3 ws (.slice (some ⟨b, 0, none⟩) len cap) (swapR M i r) fp2 from q6)
      have HGI := Lib.hid hgi
      clear hgi hgl hgn hrow h61 h91 hzx hzz hgr hgrl hgrn q6 q7 hws hons hcell q5
      go_wp2
      go_cut [57] from 44 to 57 (fun _ wx => wx = ws)
      case first =>
        go_region_law (fail)
        all_goals (
          rw [← HWS.out]
          go_wp2_with fail
          go_meet
          rfl)
      case rest =>
      have hcut' := hcut.symm
      subst hcut'
      clear q1 q2 q3 q4 hm1
      obtain ⟨M2, hM2⟩ : ∃ X, swapR M i r = X := ⟨_, rfl⟩
      have hsok : RowsOk c M2 := hM2 ▸ HMOK.out.swap (by rw [HML.out]; exact hlt) (by rw [HML.out]; exact hrl)
      have hsl : M2.length = len := by rw [← hM2, swapR_len, HML.out]
      have hO2 := HSW.out
      rw [hM2] at hO2
      obtain ⟨g1, g2, g3⟩ := rows_get hsok (i := r) (by omega)
      obtain ⟨b3, off3, ad3, len3, cap3, row3, hb3, hrow3, hc3, h63, h73, h83, h93, _⟩ := rdII_get (ownII_rd hO2) hrl
      obtain ⟨rfl, rfl⟩ : b = b3 ∧ 0 = off3 := by simpa using hb3
      obtain rfl : atL M2 r = row3 := Option.some.inj (g1.symm.trans hrow3)
      obtain rfl : c = len3 := by rw [← h63]; exact g2.symm
      obtain ⟨b4, off4, z2, rfl, hz2, hcz4, hIz2, _⟩ := rdI_get h93 (k := k) (by omega)
      have hzz2 : atZ (atL M2 r) k = z2 := atZ_get hz2
      obtain ⟨x, hx⟩ : ∃ x, powZ z2 1000000269 = x := ⟨_, rfl⟩
      have HX := Lib.hid hx
      have HXX := Lib.hid (show powZ (atZ (atL M2 r) k) 1000000269 = x from by rw [hzz2, hx])
      obtain ⟨F, hF⟩ : ∃ F : Nat → Int → Int, F = fun _ a => timesZ a x := ⟨_, rfl⟩
      have HF := Lib.hid hF
      have hk3 : k < c := by omega
      have HS0 := Lib.hid (show OwnII 35 3 ws (.slice (some ⟨b, 0, none⟩) len cap) (M2.set r (preR F (atL M2 r) 0)) fp2 from by rw [preR_zero, set_atL (by omega)]; exact hO2)
      have HM2 := Lib.hid hM2
      have HSOK := Lib.hid hsok
      have HSL := Lib.hid hsl
      have HG2 := Lib.hid g2
      simp only [Nat.zero_add] at hc3
      clear hM2 hsok hsl hO2 g1 g2 g3 hrow3 h63 h93 hz2 hzz2 hx hF hb3
      go_wp2_with (go_at_call 127; ((with_reducible refine (inverse_eq HX.out _).mono ?_); rintro e w' ⟨rfl, rfl⟩))
      go_loopw [71] (fun sj wq => ∃ j : Nat, j ≤ c ∧ sj = .int .i64 j ∧ OwnII 35 3 wq (.slice (some ⟨b, 0, none⟩) len cap) (M2.set r (preR F (atL M2 r) j)) fp2 ∧ Only fp wp wq) (fun sj _ => c - (intOf sj).toNat)
      case atStart => exact ⟨0, Nat.zero_le _, rfl, HS0.out, HONS.out⟩
      case round =>
        obtain ⟨wj, rfl⟩ : ∃ W, W = wr := ⟨_, rfl⟩
        obtain ⟨j, hj, rfl, hoj, honj⟩ := hrel
        clear HS0 hc3 hcz4
        have hrM : r < M2.length := by rw [HSL.out]; exact hrl
        have hpl : (preR F (atL M2 r) j).length = c := by rw [preR_len, HG2.out]
        have hxr : (M2.set r (preR F (atL M2 r) j))[r]? = some (preR F (atL M2 r) j) := List.getElem?_set_self hrM
        by_cases hjc : j < c
        case pos =>
          have hz := preR_get (f := F) (row := atL M2 r) (j := j) (i := j) (by rw [HG2.out]; exact hjc)
          rw [if_neg (by omega)] at hz
          obtain ⟨z, hzv⟩ : ∃ z, atZ (atL M2 r) j = z := ⟨_, rfl⟩
          rw [hzv] at hz
          obtain ⟨g', b5, capx, hbg, _, hcg, hjx, hcz5, hfz5, hbm, hset⟩ := ownII_set hoj hxr hz
          obtain rfl : b = g' := by simpa using hbg
          have hst := hset (timesZ z x) (i64_of_bd (timesZ_bd _ _))
          have hnx : (M2.set r (preR F (atL M2 r) j)).set r ((preR F (atL M2 r) j).set j (timesZ z x)) = M2.set r (preR F (atL M2 r) (j + 1)) := by
            rw [List.set_set]
            congr 1
            have := preR_next (f := F) (row := atL M2 r) (j := j) (by rw [HG2.out]; exact hjc)
            rw [hzv, HF.out] at this
            rw [HF.out]
            exact this
          rw [hnx] at hst
          rw [hpl] at hcg hjx
          have hdr : Below (wj.setCell ⟨b5, j, none⟩ (.int .i64 (timesZ z x))).heap.size (wj.setCell ⟨b5, j, none⟩ (.int .i64 (timesZ z x))) ((wj.setCell ⟨b5, j, none⟩ (.int .i64 (timesZ z x))).drew) := (Below.refl _ _).drew
          have HS1 := Lib.hid (ownII_only hst (Only.of_below (fp := []) hdr) (by simp))
          have HS2 := Lib.hid ((honj.setCell (p := ⟨b5, j, none⟩) (HQ7.out b5 hbm) (.int .i64 (timesZ z x))).drew)
          clear hst hnx hset hoj hxr hz hbm honj hpl hzv hbg hdr hrM
          go_wp2
          (refine wp_region_still_tail 15 (by kernel_rfl) (by kernel_rfl) ?_; simp only [List.take_succ_cons, List.take_zero, List.drop_succ_cons, List.drop_zero]; (repeat (first | still_step | still_call (still_of (times_any _ _ _)))); refine wpStill_nil ?_; change wpList _ _ _ _ _ (World.drew _))
          go_wp2
          go_roundw
          case rel => exact ⟨j + 1, by omega, by go_num, HS1.out, HS2.out⟩
          case measure => simp [intOf]; omega
        obtain rfl : c = j := by omega
        have hM3e : M2.set r (preR F (atL M2 r) c) = scaleA M2 r k := by
          have := preR_scale (atL M2 r) x
          rw [HG2.out] at this
          rw [HF.out, this, scaleA, HXX.out]
        rw [hM3e] at hoj
        obtain ⟨M3, hM3⟩ : ∃ X, scaleA M2 r k = X := ⟨_, rfl⟩
        rw [hM3] at hoj
        have h3ok : RowsOk c M3 := hM3 ▸ HSOK.out.scale hrM
        have h3l : M3.length = len := by rw [← hM3, scaleA, List.length_set, HSL.out]
        have HSTEP := Lib.hid (show elimA M3 r k len = stepR M i r k from by
          rw [stepR, HM2.out, hM3, HML.out])
        obtain ⟨b6, off6, ad6, len6, cap6, row6, hb6, hrow6, hc6, h66, h76, h86, h96, _⟩ := rdII_get (ownII_rd hoj) hrl
        obtain ⟨rfl, rfl⟩ : b = b6 ∧ 0 = off6 := by simpa using hb6
        obtain rfl : atL M3 r = row6 := Option.some.inj ((rows_get h3ok (i := r) (by omega)).1.symm.trans hrow6)
        obtain rfl : c = len6 := by rw [← h66]; exact (rows_get h3ok (i := r) (by omega)).2.1.symm
        have HE0 := Lib.hid (show OwnII 35 3 wj (.slice (some ⟨b, 0, none⟩) len cap) (elimA M3 r k 0) fp2 from hoj)
        have HONJ := Lib.hid honj
        have H3OK := Lib.hid h3ok
        have H3L := Lib.hid h3l
        simp only [Nat.zero_add] at hc6
        clear hM3e hM3 hoj honj h3ok h3l hb6 hrow6 h66 h96 hpl hxr hrM
        go_wp2
        go_loopw [92] (fun si wq => ∃ i : Nat, i ≤ len ∧ si = .int .i64 i ∧ OwnII 35 3 wq (.slice (some ⟨b, 0, none⟩) len cap) (elimA M3 r k i) fp2 ∧ Only fp wp wq) (fun si _ => len - (intOf si).toNat)
        case atStart => exact ⟨0, Nat.zero_le _, rfl, HE0.out, HONJ.out⟩
        case round =>
          obtain ⟨wi, rfl⟩ : ∃ W, W = wr := ⟨_, rfl⟩
          obtain ⟨q, hq, rfl, hoq, honq⟩ := hrel
          clear HE0 hc6 HONJ
          by_cases hql : q < len
          case neg =>
            obtain rfl : len = q := by omega
            rw [HSTEP.out] at hoq
            have hp1 : OwnI 3 wi (.slice adp r capp) (natsZ A) f2 := ownI_only HP.out honq (fun b hb hm => by
              have h1 := HF2.out b hb
              have h2 := HFPL.out b hm
              omega)
            obtain ⟨_, _, _, he9, _, _, _, hownp, _, _⟩ := ownI_open hp1
            injection he9 with e91 e92 e93
            subst e91 e92 e93
            have HNP := Lib.hid hownp
            have HPU := Lib.hid (fun (w2 : World) (gg capn : Nat) hown1 hgrow hat => ownI_push3 (w2 := w2) (gg := gg) (capn := capn) (y := (k : Int)) hp1 HLP.out ⟨by omega, by omega⟩ hown1 hgrow hat)
            have HQ := Lib.hid (fun (w2 : World) (f' : List Nat) (h2 : ∀ b ∈ f', b ∈ f2 ∨ wi.heap.size ≤ b) (h3 : Only f2 wi w2) =>
              show OwnII 35 3 w2 (.slice (some ⟨b, 0, none⟩) len cap) (redS rows (k + 1)).1 fp2 ∧ (∀ b ∈ f', w.heap.size ≤ b) ∧ Only fp w w2 from
              ⟨by rw [HE.out, HM.out, HA.out, HAL.out]; exact ownII_only hoq h3 (fun b hb hm => by
                have h1 := HF2.out b hm
                have h2 := HFPL.out b (HQ7.out b hb)
                omega), fun b hb => by
                have hs1 := HON.out.size
                have hs2 := honq.size
                rcases h2 b hb with h | h
                · exact HF2.out b h
                · omega, Only.newer (HON.out.trans honq) h3 HF2.out⟩)
            have HNA := Lib.hid (show natsZ (redS rows (k + 1)).2 = natsZ A ++ [(k : Int)] from by rw [HE.out, HA.out]; simp [natsZ])
            clear hoq honq hp1 hownp
            go_wp2_with (at_builtin; refine wpList_append_lies _ rfl _ _ _ rfl 0 3 ji _ 1 8 Tryz.underlying35 hji hji0 hji1 hji2 rfl (by omega) (.slice adp r capp) r _ (by rfl) (HNP.out.alloc _) ⟨wi.heap.size, 0, none⟩ 1 1 [.int .i64 (k : Int)] (by rfl) (by rfl) (World.news_of_block (cs := #[.int .i64 (k : Int)]) (t := 3) (fr := (0, 0)) (heap_alloc_new wi _)) (by simp [Value.oneCell']) (by omega) (by unfold maxLen; omega) (by omega) (by simp) (wi.heap.size + 1) (by simp) ?_; intro gg capn wn hown1 hgrow hat hlt1; obtain ⟨f', hP1, hP2, hP3⟩ := HPU.out wn gg capn hown1 hgrow hat; have HPP := Lib.hid hP1; clear hown1 hgrow hat hP1)
            all_goals (
              go_roundw
              case rel =>
                obtain ⟨z1, z2, z3⟩ := HQ.out _ f' hP2 hP3
                exact ⟨k + 1, f', fp2, by omega, by go_num, by rw [HNA.out]; exact HPP.out, z2, z1, HQ7.out, z3⟩
              case measure => simp [intOf]; omega)
          obtain ⟨E, hE⟩ : ∃ X, elimA M3 r k q = X := ⟨_, rfl⟩
          have heok : RowsOk c E := hE ▸ H3OK.out.elim (by rw [H3L.out]; omega)
          have hel : E.length = len := by rw [← hE, elimA_len, H3L.out]
          rw [hE] at hoq
          have HEE := Lib.hid hE
          obtain ⟨y1, y2, y3⟩ := rows_get heok (i := q) (by omega)
          obtain ⟨b7, off7, ad7, len7, cap7, row7, hb7, hrow7, hc7, h67, h77, h87, h97, _⟩ := rdII_get (ownII_rd hoq) hql
          obtain ⟨rfl, rfl⟩ : b = b7 ∧ 0 = off7 := by simpa using hb7
          obtain rfl : atL E q = row7 := Option.some.inj (y1.symm.trans hrow7)
          obtain rfl : c = len7 := by rw [← h67]; exact y2.symm
          have hkc2 : k < c := by omega
          obtain ⟨b8, off8, y, rfl, hyv, hcy, hIy, _⟩ := rdI_get h97 hkc2
          have hyy : atZ (atL E q) k = y := atZ_get hyv
          have hyn : 0 ≤ y ∧ y ≤ 1000000270 := y3 y (List.mem_of_getElem? hyv)
          simp only [Nat.zero_add] at hc7
          have HHQ := Lib.hid honq
          have HOQ := Lib.hid hoq
          have HEOK := Lib.hid heok
          have HEL := Lib.hid hel
          have HYY := Lib.hid hyy
          have HY2 := Lib.hid y2
          have HY3 := Lib.hid y3
          have HYN := Lib.hid hyn
          clear hE heok hel hoq honq hb7 hrow7 h67 h97 y1 y2 y3 hyv hyy hyn
          by_cases hqr : q = r
          case pos =>
            subst hqr
            have hqrI : ((q : Int) == q) = true := by simp
            have HEN := Lib.hid (show elimA M3 q k (q + 1) = E from by rw [elimA, if_pos rfl, HEE.out])
            go_wp2
            go_roundw
            case rel => exact ⟨q + 1, by omega, by go_num, by rw [HEN.out]; exact HOQ.out, HHQ.out⟩
            case measure => simp [intOf]; omega
          have hqrI : ((q : Int) == r) = false := by simp; omega
          by_cases hy0 : y = 0
          case pos =>
            subst hy0
            have HEN := Lib.hid (show elimA M3 r k (q + 1) = E from by
              rw [elimA, if_neg hqr, HEE.out, HYY.out, elimR_zero HY3.out, set_atL (by rw [HEL.out]; exact hql)])
            go_wp2
            go_roundw
            case rel => exact ⟨q + 1, by omega, by go_num, by rw [HEN.out]; exact HOQ.out, HHQ.out⟩
            case measure => simp [intOf]; omega
          have hyb : (y == 0) = false := by simpa using hy0
          obtain ⟨y4, y5, y6⟩ := rows_get HEOK.out (i := r) (by rw [HEL.out]; exact hrl)
          obtain ⟨ri, hri2⟩ : ∃ l, atL E q = l := ⟨_, rfl⟩
          obtain ⟨pr, hpr2⟩ : ∃ l, atL E r = l := ⟨_, rfl⟩
          obtain ⟨G, hG⟩ : ∃ G : Nat → Int → Int, G = fun j a => minusZ a (timesZ y (atZ pr j)) := ⟨_, rfl⟩
          rw [hpr2] at y4 y5 y6
          have HPRN := Lib.hid y6
          have HRI := Lib.hid (show ri.length = c from by rw [← hri2]; exact HY2.out)
          have HPRL := Lib.hid y5
          have HPR := Lib.hid y4
          have HGG := Lib.hid hG
          have HEN := Lib.hid (show E.set q (preR G ri c) = elimA M3 r k (q + 1) from by
            have h1 := preR_elim ri pr y
            rw [HRI.out] at h1
            rw [elimA, if_neg hqr, HEE.out, hri2, hpr2, hG, h1, ← HYY.out, hri2])
          have HS5 := Lib.hid (show OwnII 35 3 wi (.slice (some ⟨b, 0, none⟩) len cap) (E.set q (preR G ri 0)) fp2 from by
            rw [preR_zero, ← hri2, set_atL (by rw [HEL.out]; exact hql)]; exact HOQ.out)
          have HHQ5 := Lib.hid HHQ.out
          clear y4 y5 y6 hri2 hpr2 hG
          go_wp2
          go_loopw [120] (fun sj wq => ∃ j : Nat, j ≤ c ∧ sj = .int .i64 j ∧ OwnII 35 3 wq (.slice (some ⟨b, 0, none⟩) len cap) (E.set q (preR G ri j)) fp2 ∧ Only fp wp wq) (fun sj _ => c - (intOf sj).toNat)
          case atStart => exact ⟨0, Nat.zero_le _, rfl, HS5.out, HHQ5.out⟩
          case round =>
            obtain ⟨wz, rfl⟩ : ∃ W, W = wr := ⟨_, rfl⟩
            obtain ⟨j, hj, rfl, hoz, honz⟩ := hrel
            clear HS5 HHQ5 hc7 hcy
            have hpl : (preR G ri j).length = c := by rw [preR_len, HRI.out]
            have hxq : (E.set q (preR G ri j))[q]? = some (preR G ri j) := List.getElem?_set_self (by rw [HEL.out]; exact hql)
            have hxr : (E.set q (preR G ri j))[r]? = some pr := by rw [List.getElem?_set_ne hqr]; exact HPR.out
            by_cases hjc : j < c
            case neg =>
              obtain rfl : c = j := by omega
              obtain ⟨b9, off9, ad9, len9, cap9, row9, hb9, hrow9, hc9, h69, h79, h89, h99, _⟩ := rdII_get (ownII_rd hoz) hql
              obtain ⟨rfl, rfl⟩ : b = b9 ∧ 0 = off9 := by simpa using hb9
              obtain rfl : preR G ri c = row9 := Option.some.inj (hxq.symm.trans hrow9)
              obtain rfl : c = len9 := by rw [← h69]; exact hpl.symm
              rw [HEN.out] at hoz
              have HOZ := Lib.hid hoz
              simp only [Nat.zero_add] at hc9
              clear hoz hb9 hrow9 h69 h99 hxq hxr hpl
              go_wp2
              go_roundw
              case rel => exact ⟨q + 1, by omega, by go_num, HOZ.out, honz⟩
              case measure => simp [intOf]; omega
            have hz := preR_get (f := G) (row := ri) (j := j) (i := j) (by rw [HRI.out]; exact hjc)
            rw [if_neg (by omega)] at hz
            obtain ⟨z, hzv⟩ : ∃ z, atZ ri j = z := ⟨_, rfl⟩
            rw [hzv] at hz
            obtain ⟨t, htv⟩ : ∃ t, atZ pr j = t := ⟨_, rfl⟩
            have ht := row_get (r := pr) (k := j) (by rw [HPRL.out]; exact hjc)
            rw [htv] at ht
            obtain ⟨g', b5, capx, hbg, _, hcg, hjx, hcz5, hfz5, hbm, hset⟩ := ownII_set hoz hxq hz
            obtain rfl : b = g' := by simpa using hbg
            obtain ⟨b9, off9, ad9, len9, cap9, row9, hb9, hrow9, hc9, h69, h79, h89, h99, _⟩ := rdII_get (ownII_rd hoz) hrl
            obtain ⟨rfl, rfl⟩ : b = b9 ∧ 0 = off9 := by simpa using hb9
            obtain rfl : pr = row9 := Option.some.inj (hxr.symm.trans hrow9)
            obtain rfl : c = len9 := by rw [← h69]; exact HPRL.out.symm
            obtain ⟨b11, off11, t', rfl, ht', hct, _, _⟩ := rdI_get h99 hjc
            obtain rfl : t = t' := Option.some.inj (ht.symm.trans ht')
            simp only [Nat.zero_add] at hc9
            have htn : 0 ≤ t ∧ t ≤ 1000000270 := HPRN.out t (List.mem_of_getElem? ht)
            have hwp : IntKind.i64.wrap (y * t) = y * t := IntWalk.i64_in _ (by have := mul_bdI HYN.out htn; omega)
            have hst := hset (minusZ z (timesZ y t)) (i64_of_bd (minusZ_bd _ _))
            have hnx : (E.set q (preR G ri j)).set q ((preR G ri j).set j (minusZ z (timesZ y t))) = E.set q (preR G ri (j + 1)) := by
              rw [List.set_set]
              congr 1
              have := preR_next (f := G) (row := ri) (j := j) (by rw [HRI.out]; exact hjc)
              rw [hzv, HGG.out] at this
              rw [HGG.out, ← htv]
              exact this
            rw [hnx] at hst
            rw [hpl] at hcg hjx
            have hdr : Below (wz.setCell ⟨b5, j, none⟩ (.int .i64 (minusZ z (timesZ y t)))).heap.size (wz.setCell ⟨b5, j, none⟩ (.int .i64 (minusZ z (timesZ y t)))) ((wz.setCell ⟨b5, j, none⟩ (.int .i64 (minusZ z (timesZ y t)))).drew) := (Below.refl _ _).drew
            have HS1 := Lib.hid (ownII_only hst (Only.of_below (fp := []) hdr) (by simp))
            have HS2 := Lib.hid ((honz.setCell (p := ⟨b5, j, none⟩) (HQ7.out b5 hbm) (.int .i64 (minusZ z (timesZ y t)))).drew)
            clear hst hnx hset hoz hxq hxr hz hbm honz hpl hzv htv ht ht' hbg hdr hb9 hrow9 h69 h99
            go_wp2
            (refine wp_region_still_tail 23 (by kernel_rfl) (by kernel_rfl) ?_; simp only [List.take_succ_cons, List.take_zero, List.drop_succ_cons, List.drop_zero]; (repeat (first | still_step | still_call (still_of (minus_eq' (minus_mul z y t) _)))); refine wpStill_nil ?_; change wpList _ _ _ _ _ (World.drew _))
            go_wp2
            go_roundw
            case rel => exact ⟨j + 1, by omega, by go_num, HS1.out, HS2.out⟩
            case measure => simp [intOf]; omega
end Go.Proofs.YtbcjhpgkodeoeaaGreatDoor
