/- The reference's polynomial in more variables. Conditions: valid polynomials. -/
import Derived.Test.YtdaaamdighojdaaTanI
set_option linter.unusedSimpArgs false
set_option linter.unusedVariables false
namespace Go.Proofs.Ytdaaamdighojdaa
open Go.RowKit Go.Sort

theorem zeros_ne {B gq gg S : Nat} (hn : gq ≠ B) (hl : B < S) (hat : gq = gg ∨ gg = S) : gg ≠ B := by rcases hat with h | h <;> omega

set_option maxRecDepth 100000 in
set_option maxHeartbeats 6400000 in
theorem sWide_neg (vp : Value) (p : List MonZ) (n : Nat) (w : World) (hp : RdMs w vp p) (hp12 : p.length ≤ 12) (hpm : ∀ m ∈ p, MonLow n m) (hn1 : 1 ≤ n) (hn6 : n ≤ 6) :
    Calls Try.prog 103 #[vp, .int .i64 (n : Int), .int .i64 (-1)] w (Gives (fun w' v' fp => OwnMs 91 3 w' v' (wideL n (-1) p) fp ∧ SomeS v') w) := by
  obtain ⟨ad1, len1, cap1, rfl, hl1, hlc1, hcm1, h1'⟩ := rdS_open hp
  rw [hl1] at hp12
  have HL1 := Lib.hid hl1
  have HPM := Lib.hid hpm
  obtain ⟨N, hNN⟩ : ∃ N, n + n = N := ⟨_, rfl⟩
  have hN12 : N ≤ 12 := by omega
  clear hp hl1 hpm
  obtain ⟨j1, hj1, hw0, hw1, hw2⟩ := info_parts Try.info_mon
  obtain ⟨i0, hi, hz0, hz1, hz2⟩ := info_parts Try.info_int
  go_enter Try.func103, Try.ntmps103
  go_wp2
  have HO0 := Lib.hid (show OwnMs 91 3 (w.alloc (.cells #[] 91)) (.slice (some ⟨w.heap.size, 0, none⟩) 0 0) [] [w.heap.size] from ⟨[], [], by simpa using World.ownsRow_lit (base := 0) (e := 91) (size := 2) w #[] 0 (Nat.zero_le _) (Nat.zero_le _) rfl, by simp, rfl, rfl, by simp⟩)
  have HB0 := Lib.hid (show Below w.heap.size w (w.alloc (.cells #[] 91)) from (Below.refl _ _).alloc (Nat.le_refl _) _)
  go_loopw [7, 8] (fun u i wr => ∃ (k : Nat) (fs : List Nat), k ≤ len1 ∧ i = .int .i64 k ∧ SomeS u ∧ OwnMs 91 3 wr u (wideL n (-1) (p.take k)) fs ∧ (∀ b ∈ fs, w.heap.size ≤ b) ∧ Below w.heap.size w wr) (fun _ i _ => len1 - (intOf i).toNat)
  case atStart => exact ⟨0, [w.heap.size], Nat.zero_le _, rfl, someS _ _ _, by simpa [wideL] using HO0.out, by simp, HB0.out⟩
  case round =>
    obtain ⟨wk, rfl⟩ : ∃ W, W = wr := ⟨_, rfl⟩
    obtain ⟨k, fs0, hk, rfl, hsu, ho, hf, hb⟩ := hrel
    clear HO0 HB0
    obtain ⟨gu, lu, cu, rfl⟩ := hsu
    by_cases hlt : k < len1
    case neg =>
      obtain rfl : k = len1 := by omega
      rw [List.take_of_length_le (by rw [HL1.out]; exact Nat.le_refl _)] at ho
      have HO := Lib.hid ho
      clear ho
      go_wp2
      go_ret
      exact ⟨_, fs0, rfl, ⟨HO.out, someS _ _ _⟩, hf, hb⟩
    obtain ⟨b5, o5, adm, lenm, capm, m, rfl, hm, hc0, hc1, hIm, h61, h71, h81, h91, _⟩ := rdMs_get (rdMs_mono hb h1') hlt
    have hlow := HPM.out m (List.mem_of_getElem? hm)
    have hmn := hlow.2.1
    obtain rfl : n = lenm := by omega
    obtain ⟨b6, o6, _, hadm, _, _, _, _⟩ := rdI_get h91 (k := 0) (by omega)
    subst hadm
    obtain ⟨us, fs, hown, hone, hels, rfl, hnd⟩ := ho
    obtain ⟨_, _, hvu, hluc, hcum, _⟩ := row_open hown
    injection hvu with e1 e2 e3
    subst e1 e3
    have hlu : lu = (p.take k).length := by rw [e2, wideL_len]
    have hLle : lu ≤ 12 := by rw [hlu, List.length_take]; omega
    clear e2
    have HOWN := Lib.hid hown
    have HONE := Lib.hid hone
    have HELS := Lib.hid hels
    have HND := Lib.hid hnd
    have HF := Lib.hid hf
    have HB := Lib.hid hb
    have HLU := Lib.hid hlu
    have hdr : Below wk.heap.size wk wk.drew := (Below.refl _ _).drew
    have SW := Lib.hid (fun (X : World) (hX : Below wk.heap.size wk X) => show X.cell? ⟨b5, o5 + k * 2, none⟩ = some (.int .i64 m.coef) ∧ X.cell? ⟨b5, o5 + k * 2 + 1, none⟩ = some (.slice (some ⟨b6, o6, none⟩) n capm) from ⟨cell_below hX hc0, cell_below hX hc1⟩)
    have HNW := Lib.hid (fun (wz : World) (hz : Below wk.heap.size wk wz) => rdI_news (rdI_mono hz h91))
    have hbC : Below wk.heap.size wk (wk.alloc (.cells #[] 3)) := (Below.refl _ _).alloc (Nat.le_refl _) _
    have hbB : Below wk.heap.size wk ((wk.alloc (.cells #[] 3)).alloc (.cells #[.int .i64 0, .slice none 0 0] 91)) := hbC.alloc hbC.size _
    have hbX : Below wk.heap.size wk (wk.alloc (.cells #[.int .i64 0, .slice none 0 0] 91)) := (Below.refl _ _).alloc (Nat.le_refl _) _
    have hbA : Below wk.heap.size wk ((wk.alloc (.cells #[.int .i64 0, .slice none 0 0] 91)).alloc (.cells #[] 3)) := hbX.alloc hbX.size _
    have RC := Lib.hid (show ((wk.alloc (.cells #[] 3)).drew).ownsRow 0 3 1 (.slice (some ⟨wk.heap.size, 0, none⟩) 0 0) 0 [] from alloc_lit (w := wk))
    have RB := Lib.hid (show (((wk.alloc (.cells #[] 3)).alloc (.cells #[.int .i64 0, .slice none 0 0] 91)).drew).ownsRow 0 3 1 (.slice (some ⟨wk.heap.size, 0, none⟩) 0 0) 0 [] from (alloc_lit (w := wk)).alloc _)
    have RA := Lib.hid (show (((wk.alloc (.cells #[.int .i64 0, .slice none 0 0] 91)).alloc (.cells #[] 3)).drew).ownsRow 0 3 1 (.slice (some ⟨wk.heap.size + 1, 0, none⟩) 0 0) 0 [] from by
      have := alloc_lit (w := wk.alloc (.cells #[.int .i64 0, .slice none 0 0] 91)) (e := 3)
      rw [show (wk.alloc (.cells #[.int .i64 0, .slice none 0 0] 91)).heap.size = wk.heap.size + 1 by simp] at this
      exact this)
    have HB2 := Lib.hid (box_at (w := wk.alloc (.cells #[] 3)) (e := 91) (a := .int .i64 0) (b := .slice none 0 0) ((Below.refl _ _).drew))
    have HA2 := Lib.hid (box_at (w := wk) (e := 91) (a := .int .i64 0) (b := .slice none 0 0) (((Below.refl _ _).alloc (Nat.le_refl _) (.cells #[] 3)).drew))
    have hszc : (wk.alloc (.cells #[] 3)).heap.size = wk.heap.size + 1 := by simp
    rw [hszc] at HB2
    have HBC := Lib.hid hbC
    have HBB := Lib.hid hbB
    have HBA := Lib.hid hbA
    have HBX := Lib.hid hbX
    have HMN := Lib.hid hmn
    have HMI := Lib.hid (i64_all h91)
    have HLOW := Lib.hid hlow
    have HM := Lib.hid hm
    have HIM := Lib.hid hIm
    clear hm h61 h91 hmn hlow hown hone hels hnd hf hb hlu hIm hszc hbC hbB hbA hbX
    go_wp2
    go_cut [9] from 11 to 47 (fun s9 wx => ∃ (B3 gq capq : Nat), s9 = .pointer (some ⟨B3, 0, none⟩) ∧ XBox 3 wk wx B3 gq N capq m.coef (m.pows ++ List.replicate n 0))
    case first =>
      go_region_held3 (fun w' => w'.cell? ⟨b5, o5 + k * 2, none⟩ = some (.int .i64 m.coef) ∧ w'.cell? ⟨b5, o5 + k * 2 + 1, none⟩ = some (.slice (some ⟨b6, o6, none⟩) n capm)) (first | exact SW.out _ (Below.refl _ _) | exact SW.out _ hdr | exact SW.out _ HBC.out | exact SW.out _ HBX.out | exact SW.out _ HBB.out | exact SW.out _ HBA.out | exact SW.out _ HBC.out.drew | exact SW.out _ HBX.out.drew | exact SW.out _ HBB.out.drew | exact SW.out _ HBA.out.drew | exact SW.out _ hra | exact SW.out _ (hra.alloc hra.size _) | exact SW.out _ hrb | exact SW.out _ (hrb.alloc hrb.size _) | exact SW.out _ ((hrb.setCell (Nat.le_refl _) _).setCell (Nat.le_refl _) _) | exact SW.out _ ((hrb.setCell (Nat.le_succ _) _).setCell (Nat.le_succ _) _) | exact SW.out _ ((hrb.setCell hra.size _).setCell hra.size _)) (first | (refine step_append_lies _ (by rfl) _ _ _ (by rfl) 0 3 i0 _ 1 8 Try.underlying24 hi hz0 hz1 hz2 rfl (by omega) (.slice (some ⟨wk.heap.size, 0, none⟩) 0 0) 0 [] (by rfl) RC.out ⟨b6, o6, none⟩ n capm (m.pows.map (Value.int .i64)) (by rfl) (by rw [List.length_map, HMN.out, Nat.mul_one]) (HNW.out _ HBC.out.drew) (by intro u hu; simp only [List.mem_map] at hu; obtain ⟨z, _, rfl⟩ := hu; rfl) (by omega) (by unfold maxLen; omega) (by omega) (by simp) (wk.heap.size + 1) (by simp) ?_; intro gq capq wa hown1 hgrow hat hlt1; have hP := app_own HBC.out.drew hown1 (by simpa [Value.ownBlock] using hgrow) (by omega) (by simpa [Value.ownBlock] using hat) HMN.out HMI.out; have hop1 := hP.1; have hra := hP.2.2; have hSa := SW.out _ hra; have hgw := hP.2.1; have hownq : wa.ownsRow 0 3 1 (.slice (some ⟨gq, 0, none⟩) n capq) n (m.pows.map (Value.int .i64)) := (by have := hop1.1; rwa [HMN.out] at this); have hgl : gq < wa.heap.size := ownI_lt hop1 gq (List.mem_singleton.2 rfl);  clear hP hown1 hgrow; rw [show 0 + n = n from Nat.zero_add n]) | (refine step_append_lies _ (by rfl) _ _ _ (by rfl) 0 3 i0 _ 1 8 Try.underlying24 hi hz0 hz1 hz2 rfl (by omega) (.slice (some ⟨wk.heap.size, 0, none⟩) 0 0) 0 [] (by rfl) RB.out ⟨b6, o6, none⟩ n capm (m.pows.map (Value.int .i64)) (by rfl) (by rw [List.length_map, HMN.out, Nat.mul_one]) (HNW.out _ HBB.out.drew) (by intro u hu; simp only [List.mem_map] at hu; obtain ⟨z, _, rfl⟩ := hu; rfl) (by omega) (by unfold maxLen; omega) (by omega) (by simp) (wk.heap.size + 2) (by simp) ?_; intro gq capq wa hown1 hgrow hat hlt1; have hP := app_own HBB.out.drew hown1 (by simpa [Value.ownBlock] using hgrow) (by omega) (by simpa [Value.ownBlock] using hat) HMN.out HMI.out; have hop1 := hP.1; have hra := hP.2.2; have hSa := SW.out _ hra; have hgw := hP.2.1; have hownq : wa.ownsRow 0 3 1 (.slice (some ⟨gq, 0, none⟩) n capq) n (m.pows.map (Value.int .i64)) := (by have := hop1.1; rwa [HMN.out] at this); have hgl : gq < wa.heap.size := ownI_lt hop1 gq (List.mem_singleton.2 rfl); have hneq : gq ≠ wk.heap.size + 1 := (by simp [Value.ownBlock] at hat; omega); have hbx := box_in hgrow HB2.out (by simp [Value.ownBlock]); clear hP hown1 hgrow; rw [show 0 + n = n from Nat.zero_add n]) | (refine step_append_lies _ (by rfl) _ _ _ (by rfl) 0 3 i0 _ 1 8 Try.underlying24 hi hz0 hz1 hz2 rfl (by omega) (.slice (some ⟨wk.heap.size + 1, 0, none⟩) 0 0) 0 [] (by rfl) RA.out ⟨b6, o6, none⟩ n capm (m.pows.map (Value.int .i64)) (by rfl) (by rw [List.length_map, HMN.out, Nat.mul_one]) (HNW.out _ HBA.out.drew) (by intro u hu; simp only [List.mem_map] at hu; obtain ⟨z, _, rfl⟩ := hu; rfl) (by omega) (by unfold maxLen; omega) (by omega) (by simp) (wk.heap.size + 2) (by simp) ?_; intro gq capq wa hown1 hgrow hat hlt1; have hP := app_own HBA.out.drew hown1 (by simpa [Value.ownBlock] using hgrow) (by omega) (by simpa [Value.ownBlock] using hat) HMN.out HMI.out; have hop1 := hP.1; have hra := hP.2.2; have hSa := SW.out _ hra; have hgw := hP.2.1; have hownq : wa.ownsRow 0 3 1 (.slice (some ⟨gq, 0, none⟩) n capq) n (m.pows.map (Value.int .i64)) := (by have := hop1.1; rwa [HMN.out] at this); have hgl : gq < wa.heap.size := ownI_lt hop1 gq (List.mem_singleton.2 rfl); have hneq : gq ≠ wk.heap.size := (by simp [Value.ownBlock] at hat; omega); have hbx := box_in hgrow HA2.out (by simp [Value.ownBlock]); clear hP hown1 hgrow; rw [show 0 + n = n from Nat.zero_add n]) | (refine step_zeros_own _ (by rfl) _ _ _ _ (by rfl) 3 i0 (.int .i64 0) .i64 .i64 Try.underlying24 Try.underlying3 hi hz0 hz1 hz2 rfl rfl gq n capq _ (by rfl) hownq n (by rfl) (by omega) (by omega) N hNN wa.heap.size rfl ?_; intro gg capn w2 hown1 hgrow hat hlt1; have hbl := World.block_lt_of_cell? _ _ hbx.1; have hbx2 := box_in hgrow hbx (by simp; omega); have hP := zeros_own hop1 hra (by omega) HMN.out hNN hown1 hgrow hat; have hrb := hP.2.2.1; have hSb := SW.out _ hrb; have HP := Lib.hid hP; have hx0 := hbx2.1; have hx1 := hbx2.2.1; have hx2 := hbx2.2.2.1; have hx3 := hbx2.2.2.2; have hne := zeros_ne hneq hbl hat; clear hP hown1 hgrow hat hbx2 hbl) | (refine step_zeros_own _ (by rfl) _ _ _ _ (by rfl) 3 i0 (.int .i64 0) .i64 .i64 Try.underlying24 Try.underlying3 hi hz0 hz1 hz2 rfl rfl gq n capq _ (by rfl) hownq n (by rfl) (by omega) (by omega) N hNN wa.heap.size rfl ?_; intro gg capn w2 hown1 hgrow hat hlt1; have hP := zeros_own hop1 hra (by omega) HMN.out hNN hown1 hgrow hat; have hrb := hP.2.2.1; have hSb := SW.out _ hrb; have HP := Lib.hid hP; clear hP hown1 hgrow hat) | (refine step_zeros_own _ (by rfl) _ _ _ _ (by rfl) 3 i0 (.int .i64 0) .i64 .i64 Try.underlying24 Try.underlying3 hi hz0 hz1 hz2 rfl rfl gq n capq _ (by rfl) (hownq.alloc _) n (by rfl) (by omega) (by omega) N hNN (wa.heap.size + 1) (by simp) ?_; intro gg capn w2 hown1 hgrow hat hlt1; have hbx2 := box_in hgrow (box_at (w := wa) (Below.refl _ _)) (by simp; omega); have hP := zeros_own (ownI_only hop1 (Only.of_below (fp := []) ((Below.refl wa.heap.size wa).alloc (Nat.le_refl _) _)) (by simp)) (hra.alloc hra.size _) (by omega) HMN.out hNN hown1 hgrow (by simpa using hat); have hrb := hP.2.2.1; have hSb := SW.out _ hrb; have HP := Lib.hid hP; have hx0 := hbx2.1; have hx1 := hbx2.2.1; have hx2 := hbx2.2.2.1; have hx3 := hbx2.2.2.2; have hne : gg ≠ wa.heap.size := (by omega); clear hP hown1 hgrow hat hbx2))
      all_goals (
        go_wp2_with fail
        go_meet
        first
        | exact ⟨_, gg, capn, rfl, xbox_put HP.out.2.2.1 HP.out.1 HP.out.2.2.2 HP.out.2.1 (by have := hra.size; omega) hne hx0 hx1 rfl⟩
        | exact ⟨w2.heap.size, gg, capn, rfl, xbox_alloc HP.out.2.2.1 HP.out.1 HP.out.2.2.2 HP.out.2.1 rfl⟩)
    case rest =>
      obtain ⟨B3, gq, capq, rfl, hXB⟩ := hcut
      have hXc0 := hXB.c0
      have hXc1 := hXB.c1
      have hHP : m.pows ++ List.replicate n 0 = (wideM n (-1) m).pows := (wideP_neg (v := -1) _ (by decide)).symm
      have hbk4 := hXB.below
      have hal : Below wc.heap.size wc (wc.alloc (.cells #[.int .i64 m.coef, .slice (some ⟨gq, 0, none⟩) N capq] 91)) := (Below.refl _ _).alloc (Nat.le_refl _) _
      have hgk : ∀ b ∈ [gq], wk.heap.size ≤ b := fun b hb => by
        have h1 := hXB.hq
        rw [List.mem_singleton.1 hb]
        omega
      have HNQ := Lib.hid (show (wc.alloc (.cells #[.int .i64 m.coef, .slice (some ⟨gq, 0, none⟩) N capq] 91)).ownsRow 0 91 2 (.slice (some ⟨gu, 0, none⟩) lu cu) lu us.flatten from by
        have := ownsRow_only HOWN.out (Only.of_below (fp := []) (hbk4.trans (hal.mono hbk4.size))) (by simp)
        rwa [show (wideL n (-1) (p.take k)).length = lu from by rw [wideL_len, HLU.out]] at this)
      have HS := Lib.hid (fun (w2 : World) (gg capn : Nat) (hown1 : w2.ownsRow 0 91 2 (.slice (some ⟨gg, 0, none⟩) (lu + 1) capn) (lu + 1) (us.flatten ++ [.int .i64 m.coef, .slice (some ⟨gq, 0, none⟩) N capq]))
          (hgrow : (wc.alloc (.cells #[.int .i64 m.coef, .slice (some ⟨gq, 0, none⟩) N capq] 91)).grownBy w2 (some gu)) (hat : some gu = some gg ∨ gg = wc.heap.size + 1) =>
        ownMs_push (W := w) (m := wideM n (-1) m) HONE.out HELS.out HND.out HOWN.out (by rw [wideL_len, HLU.out]) (hHP ▸ hXB.own) HIM.out hgk HF.out HB.out hbk4 hal hown1 hgrow (fun b hb => by
          simp [Value.ownBlock] at hb
          subst hb
          rcases hat with hat | hat
          · left; simpa [Value.ownBlock] using hat
          · right; rw [hat]; simp [World.drew]))
      have hsz4 : wc.heap.size = wc.heap.size := by simp
      have HNX := Lib.hid (wideL_next (n := n) (v := (-1)) HM.out)
      clear hXB hal hgk hbk4
      go_wp2_with (first | (at_builtin; refine wpList_append_lies _ rfl _ _ _ rfl 0 91 j1 _ 2 32 Try.underlying45 hj1 hw0 hw1 hw2 rfl (by omega) (.slice (some ⟨gu, 0, none⟩) lu cu) lu _ (by rfl) HNQ.out ⟨wc.heap.size, 0, none⟩ 1 1 [.int .i64 m.coef, .slice (some ⟨gq, 0, none⟩) N capq] (by rfl) (by rfl) (World.news_of_block (cs := #[.int .i64 m.coef, .slice (some ⟨gq, 0, none⟩) N capq]) (t := 91) (fr := (0, 0)) (by rw [← hsz4]; exact heap_alloc_new _ _)) (by simp [Value.oneCell']) (by omega) (by unfold maxLen; omega) (by omega) (by simp) (wc.heap.size + 1) (by simp) ?_; intro gg capn w2 hown1 hgrow hat hlt1; obtain ⟨f', hP1, hP2, hP3⟩ := HS.out w2 gg capn hown1 hgrow hat; have HPP := Lib.hid hP1; clear hP1 hown1 hgrow))
      go_roundw
      case rel => exact ⟨k + 1, f', by omega, by go_num, someS _ _ _, by rw [HNX.out]; exact HPP.out, hP2, hP3⟩
      case measure => simp [intOf]; omega
set_option maxRecDepth 100000 in
set_option maxHeartbeats 6400000 in
theorem sWide_pos (vp : Value) (p : List MonZ) (n v : Nat) (vz : Int) (w : World) (hvz : vz = (v : Int)) (hp : RdMs w vp p) (hp12 : p.length ≤ 12) (hpm : ∀ m ∈ p, MonLow n m) (hn1 : 1 ≤ n) (hn6 : n ≤ 6) (hv : v < n + n) :
    Calls Try.prog 103 #[vp, .int .i64 (n : Int), .int .i64 vz] w (Gives (fun w' v' fp => OwnMs 91 3 w' v' (wideL n vz p) fp ∧ SomeS v') w) := by
  subst hvz
  obtain ⟨ad1, len1, cap1, rfl, hl1, hlc1, hcm1, h1'⟩ := rdS_open hp
  rw [hl1] at hp12
  have HL1 := Lib.hid hl1
  have HPM := Lib.hid hpm
  obtain ⟨N, hNN⟩ : ∃ N, n + n = N := ⟨_, rfl⟩
  have hN12 : N ≤ 12 := by omega
  clear hp hl1 hpm
  obtain ⟨j1, hj1, hw0, hw1, hw2⟩ := info_parts Try.info_mon
  obtain ⟨i0, hi, hz0, hz1, hz2⟩ := info_parts Try.info_int
  have hvN : (v : Int) < N := by omega
  go_enter Try.func103, Try.ntmps103
  go_wp2
  have HO0 := Lib.hid (show OwnMs 91 3 (w.alloc (.cells #[] 91)) (.slice (some ⟨w.heap.size, 0, none⟩) 0 0) [] [w.heap.size] from ⟨[], [], by simpa using World.ownsRow_lit (base := 0) (e := 91) (size := 2) w #[] 0 (Nat.zero_le _) (Nat.zero_le _) rfl, by simp, rfl, rfl, by simp⟩)
  have HB0 := Lib.hid (show Below w.heap.size w (w.alloc (.cells #[] 91)) from (Below.refl _ _).alloc (Nat.le_refl _) _)
  go_loopw [7, 8] (fun u i wr => ∃ (k : Nat) (fs : List Nat), k ≤ len1 ∧ i = .int .i64 k ∧ SomeS u ∧ OwnMs 91 3 wr u (wideL n (v : Int) (p.take k)) fs ∧ (∀ b ∈ fs, w.heap.size ≤ b) ∧ Below w.heap.size w wr) (fun _ i _ => len1 - (intOf i).toNat)
  case atStart => exact ⟨0, [w.heap.size], Nat.zero_le _, rfl, someS _ _ _, by simpa [wideL] using HO0.out, by simp, HB0.out⟩
  case round =>
    obtain ⟨wk, rfl⟩ : ∃ W, W = wr := ⟨_, rfl⟩
    obtain ⟨k, fs0, hk, rfl, hsu, ho, hf, hb⟩ := hrel
    clear HO0 HB0
    obtain ⟨gu, lu, cu, rfl⟩ := hsu
    by_cases hlt : k < len1
    case neg =>
      obtain rfl : k = len1 := by omega
      rw [List.take_of_length_le (by rw [HL1.out]; exact Nat.le_refl _)] at ho
      have HO := Lib.hid ho
      clear ho
      go_wp2
      go_ret
      exact ⟨_, fs0, rfl, ⟨HO.out, someS _ _ _⟩, hf, hb⟩
    obtain ⟨b5, o5, adm, lenm, capm, m, rfl, hm, hc0, hc1, hIm, h61, h71, h81, h91, _⟩ := rdMs_get (rdMs_mono hb h1') hlt
    have hlow := HPM.out m (List.mem_of_getElem? hm)
    have hmn := hlow.2.1
    obtain rfl : n = lenm := by omega
    obtain ⟨b6, o6, _, hadm, _, _, _, _⟩ := rdI_get h91 (k := 0) (by omega)
    subst hadm
    obtain ⟨us, fs, hown, hone, hels, rfl, hnd⟩ := ho
    obtain ⟨_, _, hvu, hluc, hcum, _⟩ := row_open hown
    injection hvu with e1 e2 e3
    subst e1 e3
    have hlu : lu = (p.take k).length := by rw [e2, wideL_len]
    have hLle : lu ≤ 12 := by rw [hlu, List.length_take]; omega
    clear e2
    have HOWN := Lib.hid hown
    have HONE := Lib.hid hone
    have HELS := Lib.hid hels
    have HND := Lib.hid hnd
    have HF := Lib.hid hf
    have HB := Lib.hid hb
    have HLU := Lib.hid hlu
    have hdr : Below wk.heap.size wk wk.drew := (Below.refl _ _).drew
    have SW := Lib.hid (fun (X : World) (hX : Below wk.heap.size wk X) => show X.cell? ⟨b5, o5 + k * 2, none⟩ = some (.int .i64 m.coef) ∧ X.cell? ⟨b5, o5 + k * 2 + 1, none⟩ = some (.slice (some ⟨b6, o6, none⟩) n capm) from ⟨cell_below hX hc0, cell_below hX hc1⟩)
    have HNW := Lib.hid (fun (wz : World) (hz : Below wk.heap.size wk wz) => rdI_news (rdI_mono hz h91))
    have hbC : Below wk.heap.size wk (wk.alloc (.cells #[] 3)) := (Below.refl _ _).alloc (Nat.le_refl _) _
    have hbB : Below wk.heap.size wk ((wk.alloc (.cells #[] 3)).alloc (.cells #[.int .i64 0, .slice none 0 0] 91)) := hbC.alloc hbC.size _
    have hbX : Below wk.heap.size wk (wk.alloc (.cells #[.int .i64 0, .slice none 0 0] 91)) := (Below.refl _ _).alloc (Nat.le_refl _) _
    have hbA : Below wk.heap.size wk ((wk.alloc (.cells #[.int .i64 0, .slice none 0 0] 91)).alloc (.cells #[] 3)) := hbX.alloc hbX.size _
    have RC := Lib.hid (show ((wk.alloc (.cells #[] 3)).drew).ownsRow 0 3 1 (.slice (some ⟨wk.heap.size, 0, none⟩) 0 0) 0 [] from alloc_lit (w := wk))
    have RB := Lib.hid (show (((wk.alloc (.cells #[] 3)).alloc (.cells #[.int .i64 0, .slice none 0 0] 91)).drew).ownsRow 0 3 1 (.slice (some ⟨wk.heap.size, 0, none⟩) 0 0) 0 [] from (alloc_lit (w := wk)).alloc _)
    have RA := Lib.hid (show (((wk.alloc (.cells #[.int .i64 0, .slice none 0 0] 91)).alloc (.cells #[] 3)).drew).ownsRow 0 3 1 (.slice (some ⟨wk.heap.size + 1, 0, none⟩) 0 0) 0 [] from by
      have := alloc_lit (w := wk.alloc (.cells #[.int .i64 0, .slice none 0 0] 91)) (e := 3)
      rw [show (wk.alloc (.cells #[.int .i64 0, .slice none 0 0] 91)).heap.size = wk.heap.size + 1 by simp] at this
      exact this)
    have HB2 := Lib.hid (box_at (w := wk.alloc (.cells #[] 3)) (e := 91) (a := .int .i64 0) (b := .slice none 0 0) ((Below.refl _ _).drew))
    have HA2 := Lib.hid (box_at (w := wk) (e := 91) (a := .int .i64 0) (b := .slice none 0 0) (((Below.refl _ _).alloc (Nat.le_refl _) (.cells #[] 3)).drew))
    have hszc : (wk.alloc (.cells #[] 3)).heap.size = wk.heap.size + 1 := by simp
    rw [hszc] at HB2
    have HBC := Lib.hid hbC
    have HBB := Lib.hid hbB
    have HBA := Lib.hid hbA
    have HBX := Lib.hid hbX
    have HMN := Lib.hid hmn
    have HMI := Lib.hid (i64_all h91)
    have HLOW := Lib.hid hlow
    have HM := Lib.hid hm
    have HIM := Lib.hid hIm
    clear hm h61 h91 hmn hlow hown hone hels hnd hf hb hlu hIm hszc hbC hbB hbA hbX
    go_wp2
    go_cut [9] from 11 to 47 (fun s9 wx => ∃ (B3 gq capq : Nat), s9 = .pointer (some ⟨B3, 0, none⟩) ∧ XBox 3 wk wx B3 gq N capq m.coef (m.pows ++ List.replicate n 0))
    case first =>
      go_region_held3 (fun w' => w'.cell? ⟨b5, o5 + k * 2, none⟩ = some (.int .i64 m.coef) ∧ w'.cell? ⟨b5, o5 + k * 2 + 1, none⟩ = some (.slice (some ⟨b6, o6, none⟩) n capm)) (first | exact SW.out _ (Below.refl _ _) | exact SW.out _ hdr | exact SW.out _ HBC.out | exact SW.out _ HBX.out | exact SW.out _ HBB.out | exact SW.out _ HBA.out | exact SW.out _ HBC.out.drew | exact SW.out _ HBX.out.drew | exact SW.out _ HBB.out.drew | exact SW.out _ HBA.out.drew | exact SW.out _ hra | exact SW.out _ (hra.alloc hra.size _) | exact SW.out _ hrb | exact SW.out _ (hrb.alloc hrb.size _) | exact SW.out _ ((hrb.setCell (Nat.le_refl _) _).setCell (Nat.le_refl _) _) | exact SW.out _ ((hrb.setCell (Nat.le_succ _) _).setCell (Nat.le_succ _) _) | exact SW.out _ ((hrb.setCell hra.size _).setCell hra.size _)) (first | (refine step_append_lies _ (by rfl) _ _ _ (by rfl) 0 3 i0 _ 1 8 Try.underlying24 hi hz0 hz1 hz2 rfl (by omega) (.slice (some ⟨wk.heap.size, 0, none⟩) 0 0) 0 [] (by rfl) RC.out ⟨b6, o6, none⟩ n capm (m.pows.map (Value.int .i64)) (by rfl) (by rw [List.length_map, HMN.out, Nat.mul_one]) (HNW.out _ HBC.out.drew) (by intro u hu; simp only [List.mem_map] at hu; obtain ⟨z, _, rfl⟩ := hu; rfl) (by omega) (by unfold maxLen; omega) (by omega) (by simp) (wk.heap.size + 1) (by simp) ?_; intro gq capq wa hown1 hgrow hat hlt1; have hP := app_own HBC.out.drew hown1 (by simpa [Value.ownBlock] using hgrow) (by omega) (by simpa [Value.ownBlock] using hat) HMN.out HMI.out; have hop1 := hP.1; have hra := hP.2.2; have hSa := SW.out _ hra; have hgw := hP.2.1; have hownq : wa.ownsRow 0 3 1 (.slice (some ⟨gq, 0, none⟩) n capq) n (m.pows.map (Value.int .i64)) := (by have := hop1.1; rwa [HMN.out] at this); have hgl : gq < wa.heap.size := ownI_lt hop1 gq (List.mem_singleton.2 rfl);  clear hP hown1 hgrow; rw [show 0 + n = n from Nat.zero_add n]) | (refine step_append_lies _ (by rfl) _ _ _ (by rfl) 0 3 i0 _ 1 8 Try.underlying24 hi hz0 hz1 hz2 rfl (by omega) (.slice (some ⟨wk.heap.size, 0, none⟩) 0 0) 0 [] (by rfl) RB.out ⟨b6, o6, none⟩ n capm (m.pows.map (Value.int .i64)) (by rfl) (by rw [List.length_map, HMN.out, Nat.mul_one]) (HNW.out _ HBB.out.drew) (by intro u hu; simp only [List.mem_map] at hu; obtain ⟨z, _, rfl⟩ := hu; rfl) (by omega) (by unfold maxLen; omega) (by omega) (by simp) (wk.heap.size + 2) (by simp) ?_; intro gq capq wa hown1 hgrow hat hlt1; have hP := app_own HBB.out.drew hown1 (by simpa [Value.ownBlock] using hgrow) (by omega) (by simpa [Value.ownBlock] using hat) HMN.out HMI.out; have hop1 := hP.1; have hra := hP.2.2; have hSa := SW.out _ hra; have hgw := hP.2.1; have hownq : wa.ownsRow 0 3 1 (.slice (some ⟨gq, 0, none⟩) n capq) n (m.pows.map (Value.int .i64)) := (by have := hop1.1; rwa [HMN.out] at this); have hgl : gq < wa.heap.size := ownI_lt hop1 gq (List.mem_singleton.2 rfl); have hneq : gq ≠ wk.heap.size + 1 := (by simp [Value.ownBlock] at hat; omega); have hbx := box_in hgrow HB2.out (by simp [Value.ownBlock]); clear hP hown1 hgrow; rw [show 0 + n = n from Nat.zero_add n]) | (refine step_append_lies _ (by rfl) _ _ _ (by rfl) 0 3 i0 _ 1 8 Try.underlying24 hi hz0 hz1 hz2 rfl (by omega) (.slice (some ⟨wk.heap.size + 1, 0, none⟩) 0 0) 0 [] (by rfl) RA.out ⟨b6, o6, none⟩ n capm (m.pows.map (Value.int .i64)) (by rfl) (by rw [List.length_map, HMN.out, Nat.mul_one]) (HNW.out _ HBA.out.drew) (by intro u hu; simp only [List.mem_map] at hu; obtain ⟨z, _, rfl⟩ := hu; rfl) (by omega) (by unfold maxLen; omega) (by omega) (by simp) (wk.heap.size + 2) (by simp) ?_; intro gq capq wa hown1 hgrow hat hlt1; have hP := app_own HBA.out.drew hown1 (by simpa [Value.ownBlock] using hgrow) (by omega) (by simpa [Value.ownBlock] using hat) HMN.out HMI.out; have hop1 := hP.1; have hra := hP.2.2; have hSa := SW.out _ hra; have hgw := hP.2.1; have hownq : wa.ownsRow 0 3 1 (.slice (some ⟨gq, 0, none⟩) n capq) n (m.pows.map (Value.int .i64)) := (by have := hop1.1; rwa [HMN.out] at this); have hgl : gq < wa.heap.size := ownI_lt hop1 gq (List.mem_singleton.2 rfl); have hneq : gq ≠ wk.heap.size := (by simp [Value.ownBlock] at hat; omega); have hbx := box_in hgrow HA2.out (by simp [Value.ownBlock]); clear hP hown1 hgrow; rw [show 0 + n = n from Nat.zero_add n]) | (refine step_zeros_own _ (by rfl) _ _ _ _ (by rfl) 3 i0 (.int .i64 0) .i64 .i64 Try.underlying24 Try.underlying3 hi hz0 hz1 hz2 rfl rfl gq n capq _ (by rfl) hownq n (by rfl) (by omega) (by omega) N hNN wa.heap.size rfl ?_; intro gg capn w2 hown1 hgrow hat hlt1; have hbl := World.block_lt_of_cell? _ _ hbx.1; have hbx2 := box_in hgrow hbx (by simp; omega); have hP := zeros_own hop1 hra (by omega) HMN.out hNN hown1 hgrow hat; have hrb := hP.2.2.1; have hSb := SW.out _ hrb; have HP := Lib.hid hP; have hx0 := hbx2.1; have hx1 := hbx2.2.1; have hx2 := hbx2.2.2.1; have hx3 := hbx2.2.2.2; have hne := zeros_ne hneq hbl hat; clear hP hown1 hgrow hat hbx2 hbl) | (refine step_zeros_own _ (by rfl) _ _ _ _ (by rfl) 3 i0 (.int .i64 0) .i64 .i64 Try.underlying24 Try.underlying3 hi hz0 hz1 hz2 rfl rfl gq n capq _ (by rfl) hownq n (by rfl) (by omega) (by omega) N hNN wa.heap.size rfl ?_; intro gg capn w2 hown1 hgrow hat hlt1; have hP := zeros_own hop1 hra (by omega) HMN.out hNN hown1 hgrow hat; have hrb := hP.2.2.1; have hSb := SW.out _ hrb; have HP := Lib.hid hP; clear hP hown1 hgrow hat) | (refine step_zeros_own _ (by rfl) _ _ _ _ (by rfl) 3 i0 (.int .i64 0) .i64 .i64 Try.underlying24 Try.underlying3 hi hz0 hz1 hz2 rfl rfl gq n capq _ (by rfl) (hownq.alloc _) n (by rfl) (by omega) (by omega) N hNN (wa.heap.size + 1) (by simp) ?_; intro gg capn w2 hown1 hgrow hat hlt1; have hbx2 := box_in hgrow (box_at (w := wa) (Below.refl _ _)) (by simp; omega); have hP := zeros_own (ownI_only hop1 (Only.of_below (fp := []) ((Below.refl wa.heap.size wa).alloc (Nat.le_refl _) _)) (by simp)) (hra.alloc hra.size _) (by omega) HMN.out hNN hown1 hgrow (by simpa using hat); have hrb := hP.2.2.1; have hSb := SW.out _ hrb; have HP := Lib.hid hP; have hx0 := hbx2.1; have hx1 := hbx2.2.1; have hx2 := hbx2.2.2.1; have hx3 := hbx2.2.2.2; have hne : gg ≠ wa.heap.size := (by omega); clear hP hown1 hgrow hat hbx2))
      all_goals (
        go_wp2_with fail
        go_meet
        first
        | exact ⟨_, gg, capn, rfl, xbox_put HP.out.2.2.1 HP.out.1 HP.out.2.2.2 HP.out.2.1 (by have := hra.size; omega) hne hx0 hx1 rfl⟩
        | exact ⟨w2.heap.size, gg, capn, rfl, xbox_alloc HP.out.2.2.1 HP.out.1 HP.out.2.2.2 HP.out.2.1 rfl⟩)
    case rest =>
      obtain ⟨B3, gq, capq, rfl, hXB0⟩ := hcut
      have hXc0 := hXB0.c0
      have hXc1 := hXB0.c1
      obtain ⟨x, hx, hx0, hx6⟩ := wide_get HLOW.out hv
      have hHP : (m.pows ++ List.replicate n 0).set v (x + 1) = (wideM n (v : Int) m).pows := by
        show _ = wideP n (v : Int) m.pows
        rw [wideP_pos (v := (v : Int)) _ (by omega) (by simpa using hx), Int.toNat_natCast]
      obtain ⟨hgx, hgf, hXB⟩ := hXB0.set hx (y := x + 1) ⟨by omega, by omega⟩
      have hY0 := hXB.c0
      have hY1 := hXB.c1
      have hwr : IntKind.i64.wrap (x + 1) = x + 1 := IntWalk.i64_in _ (by omega)
      clear hx hXB0
      go_wp2
      (refine wp_region_still_tail 10 (by kernel_rfl) (by kernel_rfl) ?_; simp only [List.take_succ_cons, List.take_zero, List.drop_succ_cons, List.drop_zero]; (repeat (first | still_step )); refine wpStill_nil ?_; change wpList _ _ _ _ _ (World.drew _))
      have hbk4 := hXB.below
      have hal : Below (wc.setCell ⟨gq, v, none⟩ (.int .i64 (x + 1))).heap.size (wc.setCell ⟨gq, v, none⟩ (.int .i64 (x + 1))) (((wc.setCell ⟨gq, v, none⟩ (.int .i64 (x + 1))).alloc (.cells #[.int .i64 m.coef, .slice (some ⟨gq, 0, none⟩) N capq] 91)).drew) := ((Below.refl _ _).alloc (Nat.le_refl _) _).drew
      have hgk : ∀ b ∈ [gq], wk.heap.size ≤ b := fun b hb => by
        have h1 := hXB.hq
        rw [List.mem_singleton.1 hb]
        omega
      have HNQ := Lib.hid (show (((wc.setCell ⟨gq, v, none⟩ (.int .i64 (x + 1))).alloc (.cells #[.int .i64 m.coef, .slice (some ⟨gq, 0, none⟩) N capq] 91)).drew).ownsRow 0 91 2 (.slice (some ⟨gu, 0, none⟩) lu cu) lu us.flatten from by
        have := ownsRow_only HOWN.out (Only.of_below (fp := []) (hbk4.trans (hal.mono hbk4.size))) (by simp)
        rwa [show (wideL n (v : Int) (p.take k)).length = lu from by rw [wideL_len, HLU.out]] at this)
      have HS := Lib.hid (fun (w2 : World) (gg capn : Nat) (hown1 : w2.ownsRow 0 91 2 (.slice (some ⟨gg, 0, none⟩) (lu + 1) capn) (lu + 1) (us.flatten ++ [.int .i64 m.coef, .slice (some ⟨gq, 0, none⟩) N capq]))
          (hgrow : (((wc.setCell ⟨gq, v, none⟩ (.int .i64 (x + 1))).alloc (.cells #[.int .i64 m.coef, .slice (some ⟨gq, 0, none⟩) N capq] 91)).drew).grownBy w2 (some gu)) (hat : some gu = some gg ∨ gg = wc.heap.size + 1) =>
        ownMs_push (W := w) (m := wideM n (v : Int) m) HONE.out HELS.out HND.out HOWN.out (by rw [wideL_len, HLU.out]) (hHP ▸ hXB.own) HIM.out hgk HF.out HB.out hbk4 hal hown1 hgrow (fun b hb => by
          simp [Value.ownBlock] at hb
          subst hb
          rcases hat with hat | hat
          · left; simpa [Value.ownBlock] using hat
          · right; rw [hat]; simp [World.drew]))
      have hsz4 : (wc.setCell ⟨gq, v, none⟩ (.int .i64 (x + 1))).heap.size = wc.heap.size := by simp
      have HNX := Lib.hid (wideL_next (n := n) (v := (v : Int)) HM.out)
      clear hXB hal hgk hbk4
      go_wp2_with (first | (at_builtin; refine wpList_append_lies _ rfl _ _ _ rfl 0 91 j1 _ 2 32 Try.underlying45 hj1 hw0 hw1 hw2 rfl (by omega) (.slice (some ⟨gu, 0, none⟩) lu cu) lu _ (by rfl) HNQ.out ⟨wc.heap.size, 0, none⟩ 1 1 [.int .i64 m.coef, .slice (some ⟨gq, 0, none⟩) N capq] (by rfl) (by rfl) (World.news_of_block (cs := #[.int .i64 m.coef, .slice (some ⟨gq, 0, none⟩) N capq]) (t := 91) (fr := (0, 0)) (by rw [← hsz4]; exact heap_alloc_new _ _)) (by simp [Value.oneCell']) (by omega) (by unfold maxLen; omega) (by omega) (by simp) (wc.heap.size + 1) (by simp) ?_; intro gg capn w2 hown1 hgrow hat hlt1; obtain ⟨f', hP1, hP2, hP3⟩ := HS.out w2 gg capn hown1 hgrow hat; have HPP := Lib.hid hP1; clear hP1 hown1 hgrow))
      go_roundw
      case rel => exact ⟨k + 1, f', by omega, by go_num, someS _ _ _, by rw [HNX.out]; exact HPP.out, hP2, hP3⟩
      case measure => simp [intOf]; omega
end Go.Proofs.Ytdaaamdighojdaa
