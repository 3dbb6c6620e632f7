/- The reference's derivative of a field along vectors. Conditions: valid fields, a few vectors. -/
import Derived.Test.YtdaaamdighojdaaFAlong
set_option linter.unusedSimpArgs false
set_option linter.unusedVariables false
namespace Go.Proofs.Ytdaaamdighojdaa
open Go.RowKit Go.Sort

set_option maxRecDepth 100000 in
set_option maxHeartbeats 6400000 in
theorem l8Der_any (vf vy vv : Value) (f : FldZ) (ys : List (List Int)) (vs : List (List (List Int))) (n size : Nat) (w : World) (hf : RdFld w vf f) (hy : RdII w vy ys) (ha : RdIII w vv vs) (hfd : f.dim = n)
    (hfl : f.parts.length = n) (hfp : ∀ p ∈ f.parts, p.length ≤ 12 ∧ ∀ m ∈ p, MonFine n m) (hn1 : 1 ≤ n) (hn6 : n ≤ 6) (hs1 : 1 ≤ size) (hs7 : size ≤ 7) (hyl : ys.length = n) (hyj : AllJ size ys) (haj : ∀ a ∈ vs, a.length = n ∧ AllJ size a) :
    Calls Try.prog 89 #[vf, vy, vv] w (Gives (fun w' v fp => OwnII 24 3 w' v (fldE f.parts ys vs) fp) w) := by
  obtain ⟨vP, rfl, hI, hp⟩ := hf
  rw [hfd]
  obtain ⟨ad2, len2, cap2, rfl, hl2, hlc2, hcm2, h2'⟩ := rdS_open hy
  obtain ⟨ad3, len3, cap3, rfl, hl3, hlc3, hcm3, h3'⟩ := rdS_open ha
  obtain rfl : n = len2 := by omega
  obtain ⟨b0, o0, ady, ly, capy, y0, rfl, hy0, hcy, hly, hlcy, hcmy, hry, hbs⟩ := rdII_get h2' (k := 0) (by omega)
  obtain rfl : ly = size := by have := (allJ_at hyj hy0).1; omega
  have hhd : hdL ys = ly := by
    cases ys with
    | nil => simp at hy0
    | cons y ys => exact (hyj y (by simp)).1
  simp only [Nat.add_zero] at hcy
  obtain ⟨W0, hW0⟩ : ∃ W, W = w.alloc (.cells #[.int .i64 (n : Int), vP] 37) := ⟨_, rfl⟩
  obtain ⟨W, hW⟩ : ∃ W, W = W0.alloc (.cells #[] 24) := ⟨_, rfl⟩
  have hb0 : Below w.heap.size w W0 := hW0 ▸ (Below.refl _ _).alloc (Nat.le_refl _) _
  have hsz0 : W0.heap.size = w.heap.size + 1 := by rw [hW0]; simp
  have hbW : Below W0.heap.size W0 W := hW ▸ (Below.refl _ _).alloc (Nat.le_refl _) _
  obtain ⟨ad, len, cap, rfl, hl, hlc, hcm, h'⟩ := rdS_open hp
  have hd0 : W0.cell? ⟨w.heap.size, 0, none⟩ = some (.int .i64 (n : Int)) := by rw [hW0]; simp
  have hd1 : W0.cell? ⟨w.heap.size, 1, none⟩ = some (.slice ad len cap) := by rw [hW0]; simp
  obtain rfl : n = len := by omega
  have HO0 := Lib.hid (show OwnII 24 3 W (.slice (some ⟨w.heap.size + 1, 0, none⟩) 0 0) [] [w.heap.size + 1] from ⟨[], [], by
    have := World.ownsRow_lit (base := 0) (e := 24) (size := 1) W0 #[] 0 (Nat.zero_le _) (Nat.zero_le _) rfl
    rw [hW, ← hsz0]; simpa using this, by simp, rfl, rfl, by simp⟩)
  have HL := Lib.hid hl
  have HFP := Lib.hid hfp
  have HYL := Lib.hid hyl
  have HYJ := Lib.hid hyj
  have HAJ := Lib.hid haj
  have HHD := Lib.hid hhd
  have HBW := Lib.hid hbW
  have HB0 := Lib.hid hb0
  have HW := Lib.hid hW
  have HW0 := Lib.hid hW0
  have HSZ := Lib.hid hsz0
  have HD0 := Lib.hid hd0
  have HD1 := Lib.hid hd1
  have HCY := Lib.hid hcy
  clear hp hy ha hl hl2 hl3 hfl hfp hyl hyj haj hW hW0 hb0 hsz0 hd0 hd1 hbW hhd hy0 hly hry hcy
  obtain ⟨i0, hi, hz0, hz1, hz2⟩ := info_parts Try.info_int
  obtain ⟨j1, hj1, hw0, hw1, hw2⟩ := info_parts Try.info_ints
  have hib : i0.bytes * ly ≤ 281474976710656 := by rw [hz2]; omega
  go_enter Try.func89, Try.ntmps89
  go_wp2
  rw [← HW0.out, ← HW.out]
  go_loopw [7, 8] (fun u i wr => ∃ (k : Nat) (fs : List Nat), k ≤ n ∧ i = .int .i64 k ∧ OwnII 24 3 wr u ((fldE f.parts ys vs).take k) fs ∧ (∀ b ∈ fs, W0.heap.size ≤ b) ∧ Below W0.heap.size W0 wr) (fun _ i _ => n - (intOf i).toNat)
  case atStart => exact ⟨0, [w.heap.size + 1], Nat.zero_le _, rfl, by simpa using HO0.out, by simp [HSZ.out], HBW.out⟩
  case round =>
    obtain ⟨wk, rfl⟩ : ∃ W, W = wr := ⟨_, rfl⟩
    obtain ⟨k, fs0, hk, rfl, ho, hf, hb⟩ := hrel
    clear HO0
    have htl : (fldE f.parts ys vs).length = n := by simp [fldE, HL.out]
    have hd0k := cell_below hb HD0.out
    have hd1k := cell_below hb HD1.out
    have hwk := HB0.out.trans (hb.mono HB0.out.size)
    have hcyk := cell_below hwk HCY.out
    by_cases hlt : k < n
    case neg =>
      obtain rfl : k = n := by omega
      rw [List.take_of_length_le (by omega)] at ho
      go_wp2
      go_ret
      exact ⟨_, fs0, rfl, ho, fun b hb' => by { have := hf b hb'; have := HB0.out.size; omega }, hwk⟩
    have hkl : ((fldE f.parts ys vs).take k).length = k := by rw [List.length_take]; omega
    obtain ⟨us, fs, hown, hone, hels, rfl, hnd⟩ := ho
    have HOWN := Lib.hid hown
    rw [hkl] at hown
    obtain ⟨adu, capu, rfl, hluc, hcum, _⟩ := row_open hown
    have HNU := Lib.hid hown
    have HONE := Lib.hid hone
    have HELS := Lib.hid hels
    have HND := Lib.hid hnd
    have HF := Lib.hid hf
    have HKL := Lib.hid hkl
    obtain ⟨b, off, ad', len', cap', x, rfl, hx, hcx, h6, h7, h8, h9, hbs⟩ := rdMss_get (rdMss_mono hwk h') hlt
    obtain ⟨hx12, hxm⟩ := HFP.out x (List.mem_of_getElem? hx)
    have hsn : (fldE f.parts ys vs).take (k + 1) = (fldE f.parts ys vs).take k ++ [dervL x ys vs] := take_snoc (by simp [fldE, hx])
    have HSN := Lib.hid hsn
    have HB := Lib.hid hb
    have HXM := Lib.hid hxm
    have HXL := Lib.hid h6
    have HWK := Lib.hid hwk
    have HD0K := Lib.hid hd0k
    clear hown hone hels hnd hf hkl htl hx hxm h6 hsn hbs hb hwk hd0k
    have hd0k := HD0K.out
    go_wp2_with (first
      | (at_make; refine wpList_make_full _ rfl _ _ 24 rfl 0 3 i0 (.int .i64 0) 1 Try.underlying24 hi hz0 hz1 .i64 .i64 _ _ ly rfl rfl rfl rfl hib (by unfold maxLen; omega) (Nat.zero_le _) ?_; intro w3 hown3 hgrow3))
    have hm0 : (madeCells (Value.int .i64 0).cells (ly * 1)).toList = (List.replicate ly (0 : Int)).map (Value.int .i64) := by
      rw [Nat.mul_one, List.map_replicate]; exact toList_madeCells_one _ _
    rw [hm0] at hown3
    have hbl : Below wk.heap.size wk w3 := (Below.refl _ _).grown hgrow3 (Nat.le_refl _) (fun k hk => by cases hk)
    have HO3 := Lib.hid (show OwnI 3 w3 (.slice (some ⟨wk.heap.size, 0, none⟩) ly ly) (dervP x ys vs 0) [wk.heap.size] from ⟨by rw [dervP, HHD.out, List.length_replicate]; exact hown3, rfl, fun z hz => i64_of_bd (dervP_nums x ys vs 0 z hz)⟩)
    have HB3 := Lib.hid hbl
    clear hm0 hown3 hgrow3 hbl
    go_loopw [9, 10] (fun u j wr => ∃ (q : Nat) (f2 : List Nat), q ≤ len' ∧ j = .int .i64 q ∧ OwnI 3 wr u (dervP x ys vs q) f2 ∧ (∀ b ∈ f2, wk.heap.size ≤ b) ∧ Below wk.heap.size wk wr) (fun _ j _ => len' - (intOf j).toNat)
    case atStart => exact ⟨0, _, Nat.zero_le _, rfl, HO3.out, by simp, HB3.out⟩
    case round =>
      obtain ⟨wq, rfl⟩ : ∃ W, W = wr := ⟨_, rfl⟩
      obtain ⟨q, f2, hq, rfl, ho2, hf2, hbq⟩ := hrel
      clear HO3 HB3
      have hd1q := cell_below hbq hd1k
      have hcxq := cell_below hbq hcx
      by_cases hql : q < len'
      case neg =>
        obtain rfl : q = len' := by omega
        have hE : dervP x ys vs q = dervL x ys vs := by rw [dervL, HXL.out]
        rw [hE] at ho2
        obtain ⟨adp, lenp, capp, rfl, hlp, hlpc, hcpm, hownp, _, hfe⟩ := ownI_open ho2
        have hal : Below wq.heap.size wq (wq.alloc (.cells #[.slice adp lenp capp] 24)) := (Below.refl _ _).alloc (Nat.le_refl _) _
        have HNQ := Lib.hid (ownsRow_only HNU.out (Only.of_below (fp := []) hbq) (by simp))
        have HS := Lib.hid (fun (w1 : World) (gg capn : Nat) (hown1 : w1.ownsRow 0 24 1 (.slice (some ⟨gg, 0, none⟩) (k + 1) capn) (k + 1) (us.flatten ++ [.slice adp lenp capp]))
            (hgrow : (wq.alloc (.cells #[.slice adp lenp capp] 24)).grownBy w1 (Value.slice adu k capu).ownBlock) (hat : (Value.slice adu k capu).ownBlock = some gg ∨ gg = wq.heap.size + 1) =>
          ownII_push (W := W0) HONE.out HELS.out HND.out HOWN.out HKL.out ho2 hf2 HF.out HB.out hbq hal hown1 hgrow (fun b hb => by
            simp [Value.ownBlock] at hb
            subst hb
            rcases hat with hat | hat
            · left; exact hat
            · right; rw [hat]; simp))
        clear ho2 hlp hfe hownp hal hf2 hbq hE
        go_wp2_with (first | (at_builtin; refine wpList_append_lies _ rfl _ _ _ rfl 0 24 j1 _ 1 24 Try.underlying22 hj1 hw0 hw1 hw2 rfl (by omega) (.slice adu k capu) k _ (by rfl) (HNQ.out.alloc _) ⟨wq.heap.size, 0, none⟩ 1 1 [.slice adp lenp capp] (by rfl) (by rfl) (World.news_of_block (cs := #[.slice adp lenp capp]) (t := 24) (fr := (0, 0)) (heap_alloc_new wq _)) (by simp [Value.oneCell']) (by omega) (by unfold maxLen; omega) (by omega) (by simp) (wq.heap.size + 1) (by simp) ?_; intro gg capn w1 hown1 hgrow hat hlt1; obtain ⟨f', hP1, hP2, hP3⟩ := HS.out w1 gg capn hown1 hgrow hat; have HPP := Lib.hid hP1))
        all_goals (
          go_roundw
          case rel => exact ⟨k + 1, f', by omega, by go_num, by rw [HSN.out]; exact HPP.out, hP2, hP3⟩
          case measure => simp [intOf]; omega)
      obtain ⟨b5, o5, adm, lenm, capm, m, rfl, hm, hc0, hc1, hIm, h61, h71, h81, h91, _⟩ := rdMs_get (rdMs_mono hbq h9) hql
      obtain ⟨⟨hm0, hm1⟩, hmn, hmd, hmp⟩ := HXM.out m (List.mem_of_getElem? hm)
      obtain ⟨W1, hW1⟩ : ∃ W, W = wq.alloc (.cells #[.int .i64 m.coef, .slice adm lenm capm] 91) := ⟨_, rfl⟩
      have hbW1 : Below wq.heap.size wq W1 := hW1 ▸ (Below.refl _ _).alloc (Nat.le_refl _) _
      have hm0c : W1.cell? ⟨wq.heap.size, 0, none⟩ = some (.int .i64 m.coef) := by rw [hW1]; simp
      have hm1c : W1.cell? ⟨wq.heap.size, 1, none⟩ = some (.slice adm lenm capm) := by rw [hW1]; simp
      have hdr : Below W1.heap.size W1 W1.drew := (Below.refl _ _).drew
      have hwq := HWK.out.trans (hbq.mono HWK.out.size)
      have hq1 := hwq.trans ((hbW1.trans (hdr.mono hbW1.size)).mono hwq.size)
      have I1 := Lib.hid (l8One_any vs _ _ _ m.pows ys n ly W1.drew (rdI_mono (hbW1.trans (hdr.mono hbW1.size)) h91) (rdII_mono hq1 h2') (rdIII_mono hq1 h3') hmn hmp hn1 hn6 hs1 hs7 HYL.out HYJ.out HAJ.out)
      have hE : dervP x ys vs (q + 1) = addJ (dervP x ys vs q) (oneL ys vs m.pows) m.coef := by rw [dervP, hm]; rfl
      have HE := Lib.hid hE
      have HW1 := Lib.hid hW1
      have HO2 := Lib.hid ho2
      have HF2 := Lib.hid hf2
      have HBQ := Lib.hid hbq
      have HBW1 := Lib.hid hbW1
      have hol := oneL_len ys vs m.pows
      rw [HHD.out] at hol
      have HOL := Lib.hid hol
      obtain ⟨adz, lz, cz, rfl, _, _, _, _, _, _⟩ := ownI_open ho2
      clear hm hmn hmp h61 h91 hE hW1 ho2 hf2 hbq hwq hq1 hol hbW1
      go_wp2
      rw [← HW1.out]
      go_region_law (go_simp; first | (go_at_call 82; (with_reducible refine (I1.out).mono ?_); rintro e wa ⟨p1, fp1, rfl, hop1, hfp1, hba⟩; have hra := hdr.trans (hba.mono hdr.size); have hm0a := cell_below hra hm0c) | (go_at_call 61; have A1 := l8Add_any _ _ (dervP x ys vs q) (oneL ys vs m.pows) m.coef _ (ownI_rd (ownI_only HO2.out (Only.of_below (fp := []) (HBW1.out.trans (hra.mono HBW1.out.size))) (by simp))) (ownI_rd hop1) (by rw [dervP_len, HHD.out, HOL.out]; exact Nat.le_refl _) (by rw [dervP_len, HHD.out]; omega); (with_reducible refine A1.mono ?_); rintro e wb ⟨p2, fp2, rfl, hop2, hfp2, hbb⟩))
      all_goals (
        have hrb := HBW1.out.trans ((hra.trans (hbb.mono hra.size)).mono HBW1.out.size)
        have hf3 : ∀ b ∈ fp2, wk.heap.size ≤ b := fun b hb' => by { have := hfp2 b hb'; have := hra.size; have := HBW1.out.size; have := HBQ.out.size; omega }
        have HO4 := Lib.hid hop2
        have HRB := Lib.hid (HBQ.out.trans (hrb.mono HBQ.out.size))
        have HF3 := Lib.hid hf3
        clear hop1 hop2 hba hbb hrb hra A1 hfp1 hfp2 hm0a I1 hf3
        go_wp2
        go_roundw
        case rel => exact ⟨q + 1, fp2, by omega, by go_num, by rw [HE.out]; exact HO4.out, HF3.out, HRB.out⟩
        case measure => simp [intOf]; omega)
end Go.Proofs.Ytdaaamdighojdaa
