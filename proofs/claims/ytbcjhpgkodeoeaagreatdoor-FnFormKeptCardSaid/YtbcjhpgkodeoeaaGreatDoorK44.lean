/- The program's closure of the tangents' field: a polynomial in more variables. Conditions: valid polynomials. -/
import Derived.Test.YtbcjhpgkodeoeaaGreatDoorK26
import Derived.Test.YtbcjhpgkodeoeaaGreatDoorK43
set_option linter.unusedSimpArgs false
set_option linter.unusedVariables false

namespace Go.Proofs.YtbcjhpgkodeoeaaGreatDoor
open Go.RowKit Go.Sort

/-- Behind the zeros: the powers of the wider monomial. -/
theorem zeros_own {e gq n k N gg capn capq : Nat} {W1 wb w2 : World} {ps : List Int} (hop : OwnI e wb (.slice (some ⟨gq, 0, none⟩) n capq) ps [gq]) (hb : Below W1.heap.size W1 wb) (hq : W1.heap.size ≤ gq) (hl : ps.length = n) (hN : n + k = N)
    (hown : w2.ownsRow 0 e 1 (.slice (some ⟨gg, 0, none⟩) N capn) N (ps.map (Value.int .i64) ++ List.replicate k (.int .i64 0))) (hg : wb.grownBy w2 (some gq)) (hat : gq = gg ∨ gg = wb.heap.size) :
    OwnI e w2 (.slice (some ⟨gg, 0, none⟩) N capn) (ps ++ List.replicate k 0) [gg] ∧ W1.heap.size ≤ gg ∧ Below W1.heap.size W1 w2 ∧ (ps ++ List.replicate k 0).length = N := by
  have hs := hb.size
  have hlen : (ps ++ List.replicate k (0 : Int)).length = N := by rw [List.length_append, List.length_replicate, hl, hN]
  refine ⟨⟨by rw [hlen, List.map_append, List.map_replicate]; exact hown, rfl, fun x hx => ?_⟩, ?_, hb.grown hg hs (fun q hq' => by simp at hq'; omega), hlen⟩
  · rw [List.mem_append, List.mem_replicate] at hx
    rcases hx with hx | ⟨_, rfl⟩
    · exact hop.2.2 x hx
    · exact ⟨by decide, by decide⟩
  · rcases hat with h | h <;> omega
theorem wide_get {n v : Nat} {m : MonZ} (hm : MonLow n m) (hv : v < n + n) : ∃ x, (m.pows ++ List.replicate n 0)[v]? = some x ∧ 0 ≤ x ∧ x ≤ 6 := by
  obtain ⟨_, hl, hp⟩ := hm
  by_cases h : v < n
  · rw [List.getElem?_append_left (by omega), List.getElem?_eq_getElem (by omega)]
    exact ⟨_, rfl, hp _ (List.getElem_mem _)⟩
  · rw [List.getElem?_append_right (by omega), List.getElem?_replicate, if_pos (by omega)]
    exact ⟨0, rfl, by decide, by decide⟩

set_option maxRecDepth 100000 in
set_option maxHeartbeats 6400000 in
theorem wide_neg (vp : Value) (p : List MonZ) (n bf : Nat) (w : World) (hcf : w.cell? ⟨bf, 0, none⟩ = some (.int .i64 (n : Int))) (hp : RdMs w vp p) (hp12 : p.length ≤ 12) (hpm : ∀ m ∈ p, MonLow n m) (hn1 : 1 ≤ n) (hn6 : n ≤ 6) :
    Calls Tryz.prog 47 #[vp, .int .i64 (-1), .pointer (some ⟨bf, 0, none⟩)] w (Gives (fun w' v' fp => OwnMs 56 3 w' v' (wideL n (-1) p) fp ∧ SomeS v') w) := by
  obtain ⟨ad1, len1, cap1, rfl, hl1, hlc1, hcm1, h1'⟩ := rdS_open hp
  rw [hl1] at hp12
  have HL1 := Lib.hid hl1
  have HPM := Lib.hid hpm
  obtain ⟨N, hNN⟩ : ∃ N, n + n = N := ⟨_, rfl⟩
  have hN12 : N ≤ 12 := by omega
  clear hp hl1 hpm
  obtain ⟨j1, hj1, hw0, hw1, hw2⟩ := info_parts Tryz.info_mon
  obtain ⟨i0, hi, hz0, hz1, hz2⟩ := info_parts Tryz.info_int
  go_enter Tryz.func47, Tryz.ntmps47
  go_wp2
  have HO0 := Lib.hid (show OwnMs 56 3 (w.alloc (.cells #[] 56)) (.slice (some ⟨w.heap.size, 0, none⟩) 0 0) [] [w.heap.size] from ⟨[], [], by simpa using World.ownsRow_lit (base := 0) (e := 56) (size := 2) w #[] 0 (Nat.zero_le _) (Nat.zero_le _) rfl, by simp, rfl, rfl, by simp⟩)
  have HB0 := Lib.hid (show Below w.heap.size w (w.alloc (.cells #[] 56)) from (Below.refl _ _).alloc (Nat.le_refl _) _)
  go_loopw [6, 13] (fun u i wr => ∃ (k : Nat) (fs : List Nat), k ≤ len1 ∧ i = .int .i64 k ∧ SomeS u ∧ OwnMs 56 3 wr u (wideL n (-1) (p.take k)) fs ∧ (∀ b ∈ fs, w.heap.size ≤ b) ∧ Below w.heap.size w wr) (fun _ i _ => len1 - (intOf i).toNat)
  case atStart => exact ⟨0, [w.heap.size], Nat.zero_le _, rfl, someS _ _ _, by simpa [wideL] using HO0.out, by simp, HB0.out⟩
  case round =>
    obtain ⟨wk, rfl⟩ : ∃ W, W = wr := ⟨_, rfl⟩
    obtain ⟨k, fs0, hk, rfl, hsu, ho, hf, hb⟩ := hrel
    clear HO0 HB0
    obtain ⟨gu, lu, cu, rfl⟩ := hsu
    by_cases hlt : k < len1
    case neg =>
      obtain rfl : k = len1 := by omega
      rw [List.take_of_length_le (by rw [HL1.out]; exact Nat.le_refl _)] at ho
      have HO := Lib.hid ho
      clear ho
      go_wp2
      go_ret
      exact ⟨_, fs0, rfl, ⟨HO.out, someS _ _ _⟩, hf, hb⟩
    obtain ⟨b5, o5, adm, lenm, capm, m, rfl, hm, hc0, hc1, hIm, h61, h71, h81, h91, _⟩ := rdMs_get (rdMs_mono hb h1') hlt
    have hlow := HPM.out m (List.mem_of_getElem? hm)
    have hmn := hlow.2.1
    obtain rfl : n = lenm := by omega
    obtain ⟨W1, hW1⟩ : ∃ W, W = wk.alloc (.cells #[.int .i64 m.coef, .slice adm n capm] 56) := ⟨_, rfl⟩
    have hbW1 : Below wk.heap.size wk W1 := hW1 ▸ (Below.refl _ _).alloc (Nat.le_refl _) _
    have hm0c : W1.cell? ⟨wk.heap.size, 0, none⟩ = some (.int .i64 m.coef) := by rw [hW1]; simp
    have hm1c : W1.cell? ⟨wk.heap.size, 1, none⟩ = some (.slice adm n capm) := by rw [hW1]; simp
    have hcfk := cell_below hb hcf
    have hcf1 := cell_below hbW1 hcfk
    obtain ⟨us, fs, hown, hone, hels, rfl, hnd⟩ := ho
    obtain ⟨_, _, hvu, hluc, hcum, _⟩ := row_open hown
    injection hvu with e1 e2 e3
    subst e1 e3
    have hlu : lu = (p.take k).length := by rw [e2, wideL_len]
    have hLle : lu ≤ 12 := by rw [hlu, List.length_take]; omega
    clear e2
    have HOWN := Lib.hid hown
    have HONE := Lib.hid hone
    have HELS := Lib.hid hels
    have HND := Lib.hid hnd
    have HF := Lib.hid hf
    have HB := Lib.hid hb
    have HLU := Lib.hid hlu
    have hdr : Below W1.heap.size W1 W1.drew := (Below.refl _ _).drew
    have hzz : Below W1.heap.size W1 (W1.alloc (.cells #[.int .i64 0, .slice none 0 0] 56)) := (Below.refl _ _).alloc (Nat.le_refl _) _
    have hz1' : Below W1.heap.size W1 ((W1.alloc (.cells #[.int .i64 0, .slice none 0 0] 56)).drew) := ((Below.refl _ _).alloc (Nat.le_refl _) _).drew
    have SW := Lib.hid (fun (X : World) (hX : Below W1.heap.size W1 X) => show X.cell? ⟨wk.heap.size, 0, none⟩ = some (.int .i64 m.coef) ∧ X.cell? ⟨wk.heap.size, 1, none⟩ = some (.slice adm n capm) ∧ X.cell? ⟨bf, 0, none⟩ = some (.int .i64 (n : Int)) from ⟨cell_below hX hm0c, cell_below hX hm1c, cell_below hX hcf1⟩)
    have CL := Lib.hid (fun (wz : World) (hz : Below W1.heap.size W1 wz) => clone_any _ m.pows wz (rdI_mono (hbW1.trans (hz.mono hbW1.size)) h91) (by rw [h61]; omega) (by rw [h61]; omega) (i64_all h91))
    have HW1 := Lib.hid hW1
    have HBW1 := Lib.hid hbW1
    have HMN := Lib.hid hmn
    have HLOW := Lib.hid hlow
    have HM := Lib.hid hm
    have HIM := Lib.hid hIm
    clear hm h61 h91 hmn hlow hown hone hels hnd hf hb hW1 hbW1 hlu hcfk hIm
    go_wp2
    rw [← HW1.out]
    go_cut [9] from 14 to 39 (fun s9 wx => ∃ (B3 gq capq : Nat), s9 = .pointer (some ⟨B3, 0, none⟩) ∧ XBox 3 W1 wx B3 gq N capq m.coef (m.pows ++ List.replicate n 0))
    case first =>
      go_region_held3 (fun w' => w'.cell? ⟨wk.heap.size, 0, none⟩ = some (.int .i64 m.coef) ∧ w'.cell? ⟨wk.heap.size, 1, none⟩ = some (.slice adm n capm) ∧ w'.cell? ⟨bf, 0, none⟩ = some (.int .i64 (n : Int))) (first | exact SW.out _ (Below.refl _ _) | exact SW.out _ hdr | exact SW.out _ hzz | exact SW.out _ hz1' | exact SW.out _ hra | exact SW.out _ (hra.alloc hra.size _) | exact SW.out _ hrb | exact SW.out _ (hrb.alloc hrb.size _) | exact SW.out _ ((hrb.setCell (Nat.le_refl _) _).setCell (Nat.le_refl _) _) | exact SW.out _ ((hrb.setCell hra.size _).setCell hra.size _)) (first | (go_at_call 48; first | ((with_reducible refine (CL.out _ hdr).mono ?_); rintro e wa ⟨p1, fp1, rfl, hop1, hfp1, hba⟩; have hra := hdr.trans (hba.mono hdr.size); have hm0a := SW.out _ hra; obtain ⟨adq, lq, capq, rfl, hlq, _, _, hownq, hgq, hfq⟩ := ownI_open hop1; obtain rfl : n = lq := (by have := HMN.out; omega); obtain ⟨gq, rfl, rfl⟩ := hgq (by omega); have hgw : W1.heap.size ≤ gq := hfp1 gq (List.mem_singleton.2 rfl); have hgl : gq < wa.heap.size := ownI_lt hop1 gq (List.mem_singleton.2 rfl); clear hgq hfq hlq) | ((with_reducible refine (CL.out _ hz1').mono ?_); rintro e wa ⟨p1, fp1, rfl, hop1, hfp1, hba⟩; have hra := hz1'.trans (hba.mono hz1'.size); have hm0a := SW.out _ hra; have hbx := box_fresh hba; obtain ⟨adq, lq, capq, rfl, hlq, _, _, hownq, hgq, hfq⟩ := ownI_open hop1; obtain rfl : n = lq := (by have := HMN.out; omega); obtain ⟨gq, rfl, rfl⟩ := hgq (by omega); have hgw : W1.heap.size < gq := box_lt hfp1; have hgl : gq < wa.heap.size := ownI_lt hop1 gq (List.mem_singleton.2 rfl); clear hgq hfq hlq)) | (refine step_zeros_own _ (by rfl) _ _ _ _ (by rfl) 3 i0 (.int .i64 0) .i64 .i64 Tryz.underlying35 Tryz.underlying3 hi hz0 hz1 hz2 rfl rfl gq n capq _ (by rfl) hownq n (by rfl) (by omega) (by omega) N hNN wa.heap.size rfl ?_; intro gg capn w2 hown1 hgrow hat hlt1; have hbx2 := box_in hgrow hbx (by simp; omega); have hP := zeros_own hop1 hra (by omega) HMN.out hNN hown1 hgrow hat; have hrb := hP.2.2.1; have HP := Lib.hid hP; have hx0 := hbx2.1; have hx1 := hbx2.2.1; have hx2 := hbx2.2.2.1; have hx3 := hbx2.2.2.2; have hne : gg ≠ W1.heap.size := (by have := hra.size; omega); clear hP hown1 hgrow hat hbx2) | (refine step_zeros_own _ (by rfl) _ _ _ _ (by rfl) 3 i0 (.int .i64 0) .i64 .i64 Tryz.underlying35 Tryz.underlying3 hi hz0 hz1 hz2 rfl rfl gq n capq _ (by rfl) hownq n (by rfl) (by omega) (by omega) N hNN wa.heap.size rfl ?_; intro gg capn w2 hown1 hgrow hat hlt1; have hP := zeros_own hop1 hra (by omega) HMN.out hNN hown1 hgrow hat; have hrb := hP.2.2.1; have HP := Lib.hid hP; clear hP hown1 hgrow hat) | (refine step_zeros_own _ (by rfl) _ _ _ _ (by rfl) 3 i0 (.int .i64 0) .i64 .i64 Tryz.underlying35 Tryz.underlying3 hi hz0 hz1 hz2 rfl rfl gq n capq _ (by rfl) (hownq.alloc _) n (by rfl) (by omega) (by omega) N hNN (wa.heap.size + 1) (by simp) ?_; intro gg capn w2 hown1 hgrow hat hlt1; have hbx2 := box_in hgrow (box_at (w := wa) (Below.refl _ _)) (by simp; omega); have hP := zeros_own (ownI_only hop1 (Only.of_below (fp := []) ((Below.refl wa.heap.size wa).alloc (Nat.le_refl _) _)) (by simp)) (hra.alloc hra.size _) (by omega) HMN.out hNN hown1 hgrow (by simpa using hat); have hrb := hP.2.2.1; have HP := Lib.hid hP; have hx0 := hbx2.1; have hx1 := hbx2.2.1; have hx2 := hbx2.2.2.1; have hx3 := hbx2.2.2.2; have hne : gg ≠ wa.heap.size := (by omega); clear hP hown1 hgrow hat hbx2))
      all_goals (
        go_wp2_with fail
        go_meet
        first
        | exact ⟨_, gg, capn, rfl, xbox_put HP.out.2.2.1 HP.out.1 HP.out.2.2.2 HP.out.2.1 (by have := hra.size; omega) hne hx0 hx1 rfl⟩
        | exact ⟨w2.heap.size, gg, capn, rfl, xbox_alloc HP.out.2.2.1 HP.out.1 HP.out.2.2.2 HP.out.2.1 rfl⟩)
    case rest =>
      obtain ⟨B3, gq, capq, rfl, hXB⟩ := hcut
      have hXc0 := hXB.c0
      have hXc1 := hXB.c1
      have hHP : m.pows ++ List.replicate n 0 = (wideM n (-1) m).pows := (wideP_neg (v := -1) _ (by decide)).symm
      have hbk4 := HBW1.out.trans (hXB.below.mono HBW1.out.size)
      have hal : Below wc.heap.size wc (wc.alloc (.cells #[.int .i64 m.coef, .slice (some ⟨gq, 0, none⟩) N capq] 56)) := (Below.refl _ _).alloc (Nat.le_refl _) _
      have hgk : ∀ b ∈ [gq], wk.heap.size ≤ b := fun b hb => by
        have h1 := hXB.hq
        have h2 := HBW1.out.size
        rw [List.mem_singleton.1 hb]
        omega
      have HNQ := Lib.hid (show wc.ownsRow 0 56 2 (.slice (some ⟨gu, 0, none⟩) lu cu) lu us.flatten from by
        have := ownsRow_only HOWN.out (Only.of_below (fp := []) hbk4) (by simp)
        rwa [show (wideL n (-1) (p.take k)).length = lu from by rw [wideL_len, HLU.out]] at this)
      have HS := Lib.hid (fun (w2 : World) (gg capn : Nat) (hown1 : w2.ownsRow 0 56 2 (.slice (some ⟨gg, 0, none⟩) (lu + 1) capn) (lu + 1) (us.flatten ++ [.int .i64 m.coef, .slice (some ⟨gq, 0, none⟩) N capq]))
          (hgrow : (wc.alloc (.cells #[.int .i64 m.coef, .slice (some ⟨gq, 0, none⟩) N capq] 56)).grownBy w2 (some gu)) (hat : some gu = some gg ∨ gg = wc.heap.size + 1) =>
        ownMs_push (W := w) (m := wideM n (-1) m) HONE.out HELS.out HND.out HOWN.out (by rw [wideL_len, HLU.out]) (hHP ▸ hXB.own) HIM.out hgk HF.out HB.out hbk4 hal hown1 hgrow (fun b hb => by
          simp [Value.ownBlock] at hb
          subst hb
          rcases hat with hat | hat
          · left; simpa [Value.ownBlock] using hat
          · right; rw [hat]; simp))
      have hsz4 : wc.heap.size = wc.heap.size := by simp
      have HNX := Lib.hid (wideL_next (n := n) (v := (-1)) HM.out)
      clear hXB hal hgk hbk4
      go_wp2_with (first | (at_builtin; refine wpList_append_lies _ rfl _ _ _ rfl 0 56 j1 _ 2 32 Tryz.underlying24 hj1 hw0 hw1 hw2 rfl (by omega) (.slice (some ⟨gu, 0, none⟩) lu cu) lu _ (by rfl) (HNQ.out.alloc _) ⟨wc.heap.size, 0, none⟩ 1 1 [.int .i64 m.coef, .slice (some ⟨gq, 0, none⟩) N capq] (by rfl) (by rfl) (World.news_of_block (cs := #[.int .i64 m.coef, .slice (some ⟨gq, 0, none⟩) N capq]) (t := 56) (fr := (0, 0)) (by rw [← hsz4]; exact heap_alloc_new _ _)) (by simp [Value.oneCell']) (by omega) (by unfold maxLen; omega) (by omega) (by simp) (wc.heap.size + 1) (by simp) ?_; intro gg capn w2 hown1 hgrow hat hlt1; obtain ⟨f', hP1, hP2, hP3⟩ := HS.out w2 gg capn hown1 hgrow hat; have HPP := Lib.hid hP1; clear hP1 hown1 hgrow))
      go_roundw
      case rel => exact ⟨k + 1, f', by omega, by go_num, someS _ _ _, by rw [HNX.out]; exact HPP.out, hP2, hP3⟩
      case measure => simp [intOf]; omega
set_option maxRecDepth 100000 in
set_option maxHeartbeats 6400000 in
theorem wide_pos (vp : Value) (p : List MonZ) (n v bf : Nat) (vz : Int) (w : World) (hvz : vz = (v : Int)) (hcf : w.cell? ⟨bf, 0, none⟩ = some (.int .i64 (n : Int))) (hp : RdMs w vp p) (hp12 : p.length ≤ 12) (hpm : ∀ m ∈ p, MonLow n m) (hn1 : 1 ≤ n) (hn6 : n ≤ 6) (hv : v < n + n) :
    Calls Tryz.prog 47 #[vp, .int .i64 vz, .pointer (some ⟨bf, 0, none⟩)] w (Gives (fun w' v' fp => OwnMs 56 3 w' v' (wideL n vz p) fp ∧ SomeS v') w) := by
  subst hvz
  obtain ⟨ad1, len1, cap1, rfl, hl1, hlc1, hcm1, h1'⟩ := rdS_open hp
  rw [hl1] at hp12
  have HL1 := Lib.hid hl1
  have HPM := Lib.hid hpm
  obtain ⟨N, hNN⟩ : ∃ N, n + n = N := ⟨_, rfl⟩
  have hN12 : N ≤ 12 := by omega
  clear hp hl1 hpm
  obtain ⟨j1, hj1, hw0, hw1, hw2⟩ := info_parts Tryz.info_mon
  obtain ⟨i0, hi, hz0, hz1, hz2⟩ := info_parts Tryz.info_int
  have hvN : (v : Int) < N := by omega
  go_enter Tryz.func47, Tryz.ntmps47
  go_wp2
  have HO0 := Lib.hid (show OwnMs 56 3 (w.alloc (.cells #[] 56)) (.slice (some ⟨w.heap.size, 0, none⟩) 0 0) [] [w.heap.size] from ⟨[], [], by simpa using World.ownsRow_lit (base := 0) (e := 56) (size := 2) w #[] 0 (Nat.zero_le _) (Nat.zero_le _) rfl, by simp, rfl, rfl, by simp⟩)
  have HB0 := Lib.hid (show Below w.heap.size w (w.alloc (.cells #[] 56)) from (Below.refl _ _).alloc (Nat.le_refl _) _)
  go_loopw [6, 13] (fun u i wr => ∃ (k : Nat) (fs : List Nat), k ≤ len1 ∧ i = .int .i64 k ∧ SomeS u ∧ OwnMs 56 3 wr u (wideL n (v : Int) (p.take k)) fs ∧ (∀ b ∈ fs, w.heap.size ≤ b) ∧ Below w.heap.size w wr) (fun _ i _ => len1 - (intOf i).toNat)
  case atStart => exact ⟨0, [w.heap.size], Nat.zero_le _, rfl, someS _ _ _, by simpa [wideL] using HO0.out, by simp, HB0.out⟩
  case round =>
    obtain ⟨wk, rfl⟩ : ∃ W, W = wr := ⟨_, rfl⟩
    obtain ⟨k, fs0, hk, rfl, hsu, ho, hf, hb⟩ := hrel
    clear HO0 HB0
    obtain ⟨gu, lu, cu, rfl⟩ := hsu
    by_cases hlt : k < len1
    case neg =>
      obtain rfl : k = len1 := by omega
      rw [List.take_of_length_le (by rw [HL1.out]; exact Nat.le_refl _)] at ho
      have HO := Lib.hid ho
      clear ho
      go_wp2
      go_ret
      exact ⟨_, fs0, rfl, ⟨HO.out, someS _ _ _⟩, hf, hb⟩
    obtain ⟨b5, o5, adm, lenm, capm, m, rfl, hm, hc0, hc1, hIm, h61, h71, h81, h91, _⟩ := rdMs_get (rdMs_mono hb h1') hlt
    have hlow := HPM.out m (List.mem_of_getElem? hm)
    have hmn := hlow.2.1
    obtain rfl : n = lenm := by omega
    obtain ⟨W1, hW1⟩ : ∃ W, W = wk.alloc (.cells #[.int .i64 m.coef, .slice adm n capm] 56) := ⟨_, rfl⟩
    have hbW1 : Below wk.heap.size wk W1 := hW1 ▸ (Below.refl _ _).alloc (Nat.le_refl _) _
    have hm0c : W1.cell? ⟨wk.heap.size, 0, none⟩ = some (.int .i64 m.coef) := by rw [hW1]; simp
    have hm1c : W1.cell? ⟨wk.heap.size, 1, none⟩ = some (.slice adm n capm) := by rw [hW1]; simp
    have hcfk := cell_below hb hcf
    have hcf1 := cell_below hbW1 hcfk
    obtain ⟨us, fs, hown, hone, hels, rfl, hnd⟩ := ho
    obtain ⟨_, _, hvu, hluc, hcum, _⟩ := row_open hown
    injection hvu with e1 e2 e3
    subst e1 e3
    have hlu : lu = (p.take k).length := by rw [e2, wideL_len]
    have hLle : lu ≤ 12 := by rw [hlu, List.length_take]; omega
    clear e2
    have HOWN := Lib.hid hown
    have HONE := Lib.hid hone
    have HELS := Lib.hid hels
    have HND := Lib.hid hnd
    have HF := Lib.hid hf
    have HB := Lib.hid hb
    have HLU := Lib.hid hlu
    have hdr : Below W1.heap.size W1 W1.drew := (Below.refl _ _).drew
    have hzz : Below W1.heap.size W1 (W1.alloc (.cells #[.int .i64 0, .slice none 0 0] 56)) := (Below.refl _ _).alloc (Nat.le_refl _) _
    have hz1' : Below W1.heap.size W1 ((W1.alloc (.cells #[.int .i64 0, .slice none 0 0] 56)).drew) := ((Below.refl _ _).alloc (Nat.le_refl _) _).drew
    have SW := Lib.hid (fun (X : World) (hX : Below W1.heap.size W1 X) => show X.cell? ⟨wk.heap.size, 0, none⟩ = some (.int .i64 m.coef) ∧ X.cell? ⟨wk.heap.size, 1, none⟩ = some (.slice adm n capm) ∧ X.cell? ⟨bf, 0, none⟩ = some (.int .i64 (n : Int)) from ⟨cell_below hX hm0c, cell_below hX hm1c, cell_below hX hcf1⟩)
    have CL := Lib.hid (fun (wz : World) (hz : Below W1.heap.size W1 wz) => clone_any _ m.pows wz (rdI_mono (hbW1.trans (hz.mono hbW1.size)) h91) (by rw [h61]; omega) (by rw [h61]; omega) (i64_all h91))
    have HW1 := Lib.hid hW1
    have HBW1 := Lib.hid hbW1
    have HMN := Lib.hid hmn
    have HLOW := Lib.hid hlow
    have HM := Lib.hid hm
    have HIM := Lib.hid hIm
    clear hm h61 h91 hmn hlow hown hone hels hnd hf hb hW1 hbW1 hlu hcfk hIm
    go_wp2
    rw [← HW1.out]
    go_cut [9] from 14 to 39 (fun s9 wx => ∃ (B3 gq capq : Nat), s9 = .pointer (some ⟨B3, 0, none⟩) ∧ XBox 3 W1 wx B3 gq N capq m.coef (m.pows ++ List.replicate n 0))
    case first =>
      go_region_held3 (fun w' => w'.cell? ⟨wk.heap.size, 0, none⟩ = some (.int .i64 m.coef) ∧ w'.cell? ⟨wk.heap.size, 1, none⟩ = some (.slice adm n capm) ∧ w'.cell? ⟨bf, 0, none⟩ = some (.int .i64 (n : Int))) (first | exact SW.out _ (Below.refl _ _) | exact SW.out _ hdr | exact SW.out _ hzz | exact SW.out _ hz1' | exact SW.out _ hra | exact SW.out _ (hra.alloc hra.size _) | exact SW.out _ hrb | exact SW.out _ (hrb.alloc hrb.size _) | exact SW.out _ ((hrb.setCell (Nat.le_refl _) _).setCell (Nat.le_refl _) _) | exact SW.out _ ((hrb.setCell hra.size _).setCell hra.size _)) (first | (go_at_call 48; first | ((with_reducible refine (CL.out _ hdr).mono ?_); rintro e wa ⟨p1, fp1, rfl, hop1, hfp1, hba⟩; have hra := hdr.trans (hba.mono hdr.size); have hm0a := SW.out _ hra; obtain ⟨adq, lq, capq, rfl, hlq, _, _, hownq, hgq, hfq⟩ := ownI_open hop1; obtain rfl : n = lq := (by have := HMN.out; omega); obtain ⟨gq, rfl, rfl⟩ := hgq (by omega); have hgw : W1.heap.size ≤ gq := hfp1 gq (List.mem_singleton.2 rfl); have hgl : gq < wa.heap.size := ownI_lt hop1 gq (List.mem_singleton.2 rfl); clear hgq hfq hlq) | ((with_reducible refine (CL.out _ hz1').mono ?_); rintro e wa ⟨p1, fp1, rfl, hop1, hfp1, hba⟩; have hra := hz1'.trans (hba.mono hz1'.size); have hm0a := SW.out _ hra; have hbx := box_fresh hba; obtain ⟨adq, lq, capq, rfl, hlq, _, _, hownq, hgq, hfq⟩ := ownI_open hop1; obtain rfl : n = lq := (by have := HMN.out; omega); obtain ⟨gq, rfl, rfl⟩ := hgq (by omega); have hgw : W1.heap.size < gq := box_lt hfp1; have hgl : gq < wa.heap.size := ownI_lt hop1 gq (List.mem_singleton.2 rfl); clear hgq hfq hlq)) | (refine step_zeros_own _ (by rfl) _ _ _ _ (by rfl) 3 i0 (.int .i64 0) .i64 .i64 Tryz.underlying35 Tryz.underlying3 hi hz0 hz1 hz2 rfl rfl gq n capq _ (by rfl) hownq n (by rfl) (by omega) (by omega) N hNN wa.heap.size rfl ?_; intro gg capn w2 hown1 hgrow hat hlt1; have hbx2 := box_in hgrow hbx (by simp; omega); have hP := zeros_own hop1 hra (by omega) HMN.out hNN hown1 hgrow hat; have hrb := hP.2.2.1; have HP := Lib.hid hP; have hx0 := hbx2.1; have hx1 := hbx2.2.1; have hx2 := hbx2.2.2.1; have hx3 := hbx2.2.2.2; have hne : gg ≠ W1.heap.size := (by have := hra.size; omega); clear hP hown1 hgrow hat hbx2) | (refine step_zeros_own _ (by rfl) _ _ _ _ (by rfl) 3 i0 (.int .i64 0) .i64 .i64 Tryz.underlying35 Tryz.underlying3 hi hz0 hz1 hz2 rfl rfl gq n capq _ (by rfl) hownq n (by rfl) (by omega) (by omega) N hNN wa.heap.size rfl ?_; intro gg capn w2 hown1 hgrow hat hlt1; have hP := zeros_own hop1 hra (by omega) HMN.out hNN hown1 hgrow hat; have hrb := hP.2.2.1; have HP := Lib.hid hP; clear hP hown1 hgrow hat) | (refine step_zeros_own _ (by rfl) _ _ _ _ (by rfl) 3 i0 (.int .i64 0) .i64 .i64 Tryz.underlying35 Tryz.underlying3 hi hz0 hz1 hz2 rfl rfl gq n capq _ (by rfl) (hownq.alloc _) n (by rfl) (by omega) (by omega) N hNN (wa.heap.size + 1) (by simp) ?_; intro gg capn w2 hown1 hgrow hat hlt1; have hbx2 := box_in hgrow (box_at (w := wa) (Below.refl _ _)) (by simp; omega); have hP := zeros_own (ownI_only hop1 (Only.of_below (fp := []) ((Below.refl wa.heap.size wa).alloc (Nat.le_refl _) _)) (by simp)) (hra.alloc hra.size _) (by omega) HMN.out hNN hown1 hgrow (by simpa using hat); have hrb := hP.2.2.1; have HP := Lib.hid hP; have hx0 := hbx2.1; have hx1 := hbx2.2.1; have hx2 := hbx2.2.2.1; have hx3 := hbx2.2.2.2; have hne : gg ≠ wa.heap.size := (by omega); clear hP hown1 hgrow hat hbx2))
      all_goals (
        go_wp2_with fail
        go_meet
        first
        | exact ⟨_, gg, capn, rfl, xbox_put HP.out.2.2.1 HP.out.1 HP.out.2.2.2 HP.out.2.1 (by have := hra.size; omega) hne hx0 hx1 rfl⟩
        | exact ⟨w2.heap.size, gg, capn, rfl, xbox_alloc HP.out.2.2.1 HP.out.1 HP.out.2.2.2 HP.out.2.1 rfl⟩)
    case rest =>
      obtain ⟨B3, gq, capq, rfl, hXB0⟩ := hcut
      have hXc0 := hXB0.c0
      have hXc1 := hXB0.c1
      obtain ⟨x, hx, hx0, hx6⟩ := wide_get HLOW.out hv
      have hHP : (m.pows ++ List.replicate n 0).set v (x + 1) = (wideM n (v : Int) m).pows := by
        show _ = wideP n (v : Int) m.pows
        rw [wideP_pos (v := (v : Int)) _ (by omega) (by simpa using hx), Int.toNat_natCast]
      obtain ⟨hgx, hgf, hXB⟩ := hXB0.set hx (y := x + 1) ⟨by omega, by omega⟩
      have hY0 := hXB.c0
      have hY1 := hXB.c1
      have hwr : IntKind.i64.wrap (x + 1) = x + 1 := IntWalk.i64_in _ (by omega)
      clear hx hXB0
      have hbk4 := HBW1.out.trans (hXB.below.mono HBW1.out.size)
      have hal : Below (wc.setCell ⟨gq, v, none⟩ (.int .i64 (x + 1))).heap.size (wc.setCell ⟨gq, v, none⟩ (.int .i64 (x + 1))) ((wc.setCell ⟨gq, v, none⟩ (.int .i64 (x + 1))).alloc (.cells #[.int .i64 m.coef, .slice (some ⟨gq, 0, none⟩) N capq] 56)) := (Below.refl _ _).alloc (Nat.le_refl _) _
      have hgk : ∀ b ∈ [gq], wk.heap.size ≤ b := fun b hb => by
        have h1 := hXB.hq
        have h2 := HBW1.out.size
        rw [List.mem_singleton.1 hb]
        omega
      have HNQ := Lib.hid (show (wc.setCell ⟨gq, v, none⟩ (.int .i64 (x + 1))).ownsRow 0 56 2 (.slice (some ⟨gu, 0, none⟩) lu cu) lu us.flatten from by
        have := ownsRow_only HOWN.out (Only.of_below (fp := []) hbk4) (by simp)
        rwa [show (wideL n (v : Int) (p.take k)).length = lu from by rw [wideL_len, HLU.out]] at this)
      have HS := Lib.hid (fun (w2 : World) (gg capn : Nat) (hown1 : w2.ownsRow 0 56 2 (.slice (some ⟨gg, 0, none⟩) (lu + 1) capn) (lu + 1) (us.flatten ++ [.int .i64 m.coef, .slice (some ⟨gq, 0, none⟩) N capq]))
          (hgrow : ((wc.setCell ⟨gq, v, none⟩ (.int .i64 (x + 1))).alloc (.cells #[.int .i64 m.coef, .slice (some ⟨gq, 0, none⟩) N capq] 56)).grownBy w2 (some gu)) (hat : some gu = some gg ∨ gg = wc.heap.size + 1) =>
        ownMs_push (W := w) (m := wideM n (v : Int) m) HONE.out HELS.out HND.out HOWN.out (by rw [wideL_len, HLU.out]) (hHP ▸ hXB.own) HIM.out hgk HF.out HB.out hbk4 hal hown1 hgrow (fun b hb => by
          simp [Value.ownBlock] at hb
          subst hb
          rcases hat with hat | hat
          · left; simpa [Value.ownBlock] using hat
          · right; rw [hat]; simp))
      have hsz4 : (wc.setCell ⟨gq, v, none⟩ (.int .i64 (x + 1))).heap.size = wc.heap.size := by simp
      have HNX := Lib.hid (wideL_next (n := n) (v := (v : Int)) HM.out)
      clear hXB hal hgk hbk4
      go_wp2_with (first | (at_builtin; refine wpList_append_lies _ rfl _ _ _ rfl 0 56 j1 _ 2 32 Tryz.underlying24 hj1 hw0 hw1 hw2 rfl (by omega) (.slice (some ⟨gu, 0, none⟩) lu cu) lu _ (by rfl) (HNQ.out.alloc _) ⟨wc.heap.size, 0, none⟩ 1 1 [.int .i64 m.coef, .slice (some ⟨gq, 0, none⟩) N capq] (by rfl) (by rfl) (World.news_of_block (cs := #[.int .i64 m.coef, .slice (some ⟨gq, 0, none⟩) N capq]) (t := 56) (fr := (0, 0)) (by rw [← hsz4]; exact heap_alloc_new _ _)) (by simp [Value.oneCell']) (by omega) (by unfold maxLen; omega) (by omega) (by simp) (wc.heap.size + 1) (by simp) ?_; intro gg capn w2 hown1 hgrow hat hlt1; obtain ⟨f', hP1, hP2, hP3⟩ := HS.out w2 gg capn hown1 hgrow hat; have HPP := Lib.hid hP1; clear hP1 hown1 hgrow))
      go_roundw
      case rel => exact ⟨k + 1, f', by omega, by go_num, someS _ _ _, by rw [HNX.out]; exact HPP.out, hP2, hP3⟩
      case measure => simp [intOf]; omega
end Go.Proofs.YtbcjhpgkodeoeaaGreatDoor
