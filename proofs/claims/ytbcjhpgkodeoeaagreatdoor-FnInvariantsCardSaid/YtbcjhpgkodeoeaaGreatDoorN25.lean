/- The texts SolI, KnoP in one: each says at its head what it proves. Conditions: as said there. -/
import Derived.Deep.RegionLaw
import Derived.Test.YtbcjhpgkodeoeaaGreatDoorN24
import Derived.Test.YtbcjhpgkodeoeaaGreatDoorN23
import Derived.Test.YtbcjhpgkodeoeaaGreatDoorN04
import Derived.Test.YtbcjhpgkodeoeaaGreatDoorN05
set_option linter.unusedSimpArgs false
set_option linter.unusedVariables false
/- The program's SolveSystem. Conditions: a system in its form. -/
namespace Go.Proofs.YtbcjhpgkodeoeaaGreatDoor
open Go.RowKit

theorem allNumI_eq (v : Value) (xs : List Int) (w : World) (h : RdI w v xs) (hb : xs.all isNumB = true) : Calls Tryz.prog 116 #[v] w fun e w' => e = .returned (.bool true) ∧ w = w' := hb ▸ allNumbers_any v xs w h
set_option maxRecDepth 100000 in
set_option maxHeartbeats 3200000 in
theorem systemI_any (v : Value) (rows : List (List Int)) (w : World) (h : RdII w v rows) (hok : rowsB rows = true) : Calls Tryz.prog 189 #[v] w fun e w' => e = .returned (.bool true) ∧ w = w' := by
  obtain ⟨ad, len, cap, rfl, hl, hlc, hcm, h'⟩ := rdS_open h
  obtain ⟨hr, h1, h40, hc1, hc40⟩ := rowsB_ok hok
  obtain ⟨n, hn⟩ : ∃ n, (atL rows 0).length = n := ⟨_, rfl⟩
  rw [hn] at hr hc1 hc40
  rw [hl] at h1 h40
  have HL := Lib.hid hl
  have HR := Lib.hid hr
  have hl0 : 0 < len := by omega
  have hlz : ((len : Int) == 0) = false := by simp; omega
  obtain ⟨b0, off0, ad0, len0, cap0, r0, rfl, hr0, hc0, h60, _⟩ := rdII_get h' (k := 0) hl0
  obtain rfl : n = len0 := by rw [← hn, atL_get hr0, h60]
  simp only [Nat.add_zero] at hc0
  clear h hl hr hok hr0 h60 hn
  go_enter Tryz.func189, Tryz.ntmps189
  go_wp2
  go_loopw [15] (fun si wq => ∃ i : Nat, i ≤ len ∧ si = .int .i64 i ∧ wq = w) (fun si _ => len - (intOf si).toNat)
  case atStart => exact ⟨0, Nat.zero_le _, rfl, rfl⟩
  case round =>
    obtain ⟨i, hi, rfl, rfl⟩ := hrel
    by_cases hil : i < len
    case neg =>
      obtain rfl : i = len := by omega
      go_wp2
      go_ret
      exact ⟨rfl, rfl⟩
    obtain ⟨b1, off1, ad1, len1, cap1, r, hb1, hr1, hcr, h61, _, _, hrr, _⟩ := rdII_get h' (k := i) hil
    simp only [Option.some.injEq, Addr.mk.injEq, and_true] at hb1
    obtain ⟨rfl, rfl⟩ := hb1
    have hrow := HR.out i (by rw [HL.out]; exact hil)
    rw [atL_get hr1, h61] at hrow
    obtain rfl : len1 = n := hrow.1
    have HC := Lib.hid (allNumI_eq (.slice ad1 len1 cap1) r wr hrr (all_nums hrow.2))
    have hnn : ((len1 : Int) != len1) = false := by simp
    have hn0 : ((len1 : Int) == 0) = false := by simp; omega
    clear hr1 h61 hrow hrr
    go_wp2_with (go_at_call 116; ((with_reducible refine (HC.out).mono ?_); rintro e w' ⟨rfl, rfl⟩))
    go_roundw
    case rel => exact ⟨i + 1, by omega, by go_num, trivial⟩
    case measure => simp [intOf]; omega

set_option maxRecDepth 100000 in
set_option maxHeartbeats 12800000 in
theorem solveI_any (vr vx : Value) (rows : List (List Int)) (right : List Int) (w : World) (hr : RdII w vr rows) (hx : RdI w vx right) (hsys : sysB rows right = true) :
    Calls Tryz.prog 159 #[vr, vx] w (Gives2 (fun w' v fp => OwnI 3 w' v (solL rows right) fp) (solB rows right) w) := by
  obtain ⟨ji, hji, hji0, hji1, hji2⟩ := info_parts Tryz.info_int
  obtain ⟨jl, hjl, hjl0, hjl1, hjl2⟩ := info_parts Tryz.info_ints
  obtain ⟨ad, len, cap, rfl, hl, hlc, hcm, hr'⟩ := rdS_open hr
  obtain ⟨adx, lenx, capx, rfl, hlx, hlcx, hcmx, hx'⟩ := rdS_open hx
  have HL := Lib.hid hl
  have HLX := Lib.hid hlx
  have HNO := Lib.hid (fun (w' : World) (hb : Below w.heap.size w w') (h1 : solB rows right = false ∧ solL rows right = []) => show Gives2 (fun w' v fp => OwnI 3 w' v (solL rows right) fp) (solB rows right) w (.returned (.tuple #[.slice none 0 0, .bool false])) w' from
    ⟨.slice none 0 0, [], by rw [h1.1], by rw [h1.2]; exact ⟨World.ownsRow_nil _ _ _ _, rfl, by simp⟩, by simp, hb⟩)
  have hsys' := hsys
  simp only [sysB, Bool.and_eq_true, decide_eq_true_eq] at hsys'
  obtain ⟨h1, hlen, h2⟩ := hsys'
  obtain rfl : lenx = len := by omega
  obtain ⟨hok, hr1, hr40, hc1, hc40⟩ := rowsB_ok h1
  obtain ⟨n, hn⟩ : ∃ n, (atL rows 0).length = n := ⟨_, rfl⟩
  rw [hn] at hok hc1 hc40
  rw [HL.out] at hr1 hr40
  have hnr := nums_all h2
  have HB := Lib.hid (systemI_any _ rows w hr h1)
  have HB2 := Lib.hid (allNumI_eq _ right w hx h2)
  have HSYS := Lib.hid hsys
  have HN := Lib.hid hn
  have HOK := Lib.hid hok
  have HNR := Lib.hid hnr
  obtain ⟨b0, off0, ad0, len0, cap0, r0, rfl, hr0, hc0, h60, _⟩ := rdII_get hr' (k := 0) (by omega)
  obtain rfl : n = len0 := by rw [← hn, atL_get hr0, h60]
  simp only [Nat.add_zero] at hc0
  have h0len : 0 < lenx := by omega
  have hllb : ((lenx : Int) != lenx) = false := by simp
  have HI0 := Lib.hid (ownII_lit (e1 := 35) (e := 3) w)
  have HB0 := Lib.hid (below_lit w 35)
  clear h1 h2 hsys hn hok hnr hr hx hl hlx hlen hr0 h60
  go_enter Tryz.func159, Tryz.ntmps159
  go_wp2_with (first | (go_at_call 189; ((with_reducible refine (HB.out).mono ?_); rintro e w' ⟨rfl, rfl⟩)) | (go_at_call 116; ((with_reducible refine (HB2.out).mono ?_); rintro e w' ⟨rfl, rfl⟩)))
  go_loopw [7, 35] (fun p j wq => ∃ (q : Nat) (f : List Nat), q ≤ lenx ∧ j = .int .i64 q ∧ OwnII 35 3 wq p ((augZ rows right).take q) f ∧ (∀ b ∈ f, w.heap.size ≤ b) ∧ Below w.heap.size w wq) (fun _ j _ => lenx - (intOf j).toNat)
  case atStart => exact ⟨0, [w.heap.size], Nat.zero_le _, rfl, by simpa using HI0.out, by simp, HB0.out⟩
  case round =>
    obtain ⟨wk, rfl⟩ : ∃ W, W = wr := ⟨_, rfl⟩
    obtain ⟨q, fq, hq, rfl, hoq, hfq, hbq⟩ := hrel
    clear HI0 HB0
    by_cases hlt : q < lenx
    case pos =>
      obtain ⟨b, off, ad1, len1, cap1, r, hb1, hr, hcell0, h61, h71, h81, h91, _⟩ := rdII_get hr' hlt
      simp only [Option.some.injEq, Addr.mk.injEq, and_true] at hb1
      obtain ⟨rfl, rfl⟩ := hb1
      have hrow := HOK.out q (by rw [HL.out]; exact hlt)
      rw [atL_get hr, h61] at hrow
      obtain ⟨rfl, hrn⟩ := hrow
      obtain ⟨b2, off2, x, rfl, hxq, hcx0, hIx, _⟩ := rdI_get hx' hlt
      have hcell := cell_below hbq hcell0
      have hcx := cell_below hbq hcx0
      obtain ⟨adp, capp, us, rfl, hqc, hcpm, hpush⟩ := ownII_push4 hoq (n := q) (by rw [List.length_take, augZ_len, HL.out]; omega)
      have h91k := rdI_mono hbq h91
      obtain ⟨b1, o1, rfl⟩ : ∃ b1 o1, ad1 = some ⟨b1, o1, none⟩ := by
        obtain ⟨b1, o1, x, h1, _⟩ := rdI_get h91k (k := 0) (by omega)
        exact ⟨b1, o1, h1⟩
      have HSR := Lib.hid (show SrcI wk (.slice (some ⟨b1, o1, none⟩) len1 cap1) r from ⟨h91k, .inr ⟨_, _, _, _, rfl⟩⟩)
      have HLT := Lib.hid (ownII_lt hoq)
      have HNX := Lib.hid (show (augZ rows right).take (q + 1) = (augZ rows right).take q ++ [r ++ [x]] from by
        have e : (augZ rows right)[q]? = some (r ++ [x]) := by
          have := augZ_at (rows := rows) (right := right) (i := q) (by rw [HL.out]; exact hlt)
          rw [← atL_get hr, ← atZ_get hxq, ← this]
          unfold atL
          rw [List.getElem?_eq_getElem (by rw [augZ_len, HL.out]; exact hlt)]
          rfl
        exact take_snoc e)
      have HP := Lib.hid hpush
      have HF := Lib.hid hfq
      have HBQ := Lib.hid hbq
      have HN0 := Lib.hid (show ([] : List Int).length + r.length ≤ 1000000 from by rw [h61]; simp; omega)
      have HN1 := Lib.hid (show ([] ++ r : List Int).length + [x].length ≤ 1000000 from by simp [h61]; omega)
      have hIX := hIx
      -- the three orders of the two fresh literals
      have hE : Below wk.heap.size wk ((wk.alloc (.cells #[] 3)).drew) := ((Below.refl _ _).alloc (Nat.le_refl _) _).drew
      have hED : Below wk.heap.size wk (((wk.alloc (.cells #[] 3)).alloc (.cells #[.int .i64 x] 3)).drew) := (((Below.refl _ _).alloc (Nat.le_refl _) _).alloc (by simp) _).drew
      have hDE : Below wk.heap.size wk (((wk.alloc (.cells #[.int .i64 x] 3)).alloc (.cells #[] 3)).drew) := (((Below.refl _ _).alloc (Nat.le_refl _) _).alloc (by simp) _).drew
      have hsa : ∀ o : Obj, (wk.alloc o).heap.size = wk.heap.size + 1 := fun o => by simp
      have HE1 := Lib.hid (ownI_only (own_lit (e := 3) wk) (Only.of_below (fp := []) ((Below.refl _ _).drew)) (by simp) : OwnI 3 ((wk.alloc (.cells #[] 3)).drew) (.slice (some ⟨wk.heap.size, 0, none⟩) 0 0) [] [wk.heap.size])
      have HE2 := Lib.hid (ownI_only (own_lit (e := 3) wk) (Only.of_below (fp := []) (((Below.refl _ _).alloc (Nat.le_refl _) _).drew)) (by simp) : OwnI 3 (((wk.alloc (.cells #[] 3)).alloc (.cells #[.int .i64 x] 3)).drew) (.slice (some ⟨wk.heap.size, 0, none⟩) 0 0) [] [wk.heap.size])
      have HE3 := Lib.hid (show OwnI 3 (((wk.alloc (.cells #[.int .i64 x] 3)).alloc (.cells #[] 3)).drew) (.slice (some ⟨wk.heap.size + 1, 0, none⟩) 0 0) [] [wk.heap.size + 1] from by
        have := own_lit (e := 3) (wk.alloc (.cells #[.int .i64 x] 3))
        rw [hsa] at this
        exact ownI_only this (Only.of_below (fp := []) ((Below.refl _ _).drew)) (by simp))
      have hlo : ∀ w : World, OwnI 3 (w.alloc (.cells #[.int .i64 x] 3)) (.slice (some ⟨w.heap.size, 0, none⟩) 1 1) [x] [w.heap.size] := fun w => lit_own w [x] (by simpa using hIX) (by simp) _ rfl 1 rfl
      have HD2 := Lib.hid (show OwnI 3 (((wk.alloc (.cells #[] 3)).alloc (.cells #[.int .i64 x] 3)).drew) (.slice (some ⟨wk.heap.size + 1, 0, none⟩) 1 1) [x] [wk.heap.size + 1] from by
        have := hlo (wk.alloc (.cells #[] 3))
        rw [hsa] at this
        exact ownI_only this (Only.of_below (fp := []) ((Below.refl _ _).drew)) (by simp))
      have HD3 := Lib.hid (show OwnI 3 (((wk.alloc (.cells #[.int .i64 x] 3)).alloc (.cells #[] 3)).drew) (.slice (some ⟨wk.heap.size, 0, none⟩) 1 1) [x] [wk.heap.size] from
        ownI_only (hlo wk) (Only.of_below (fp := []) (((Below.refl _ _).alloc (Nat.le_refl _) _).drew)) (by simp))
      have HS1 := Lib.hid (srcI_below HSR.out hE)
      have HS2 := Lib.hid (srcI_below HSR.out hED)
      have HS3 := Lib.hid (srcI_below HSR.out hDE)
      have HBE := Lib.hid hE
      have HBED := Lib.hid hED
      have HBDE := Lib.hid hDE
      have HIX := Lib.hid hIX
      have hcxA : ∀ o : Obj, (wk.alloc o).cell? ⟨b2, off2 + q, none⟩ = some (.int .i64 x) := fun o => cell_below ((Below.refl _ _).alloc (Nat.le_refl _) _) hcx
      have hcxB : ∀ o o' : Obj, ((wk.alloc o).alloc o').cell? ⟨b2, off2 + q, none⟩ = some (.int .i64 x) := fun o o' => cell_below ((Below.refl _ _).alloc (Nat.le_refl _) _) (hcxA o)
      have HSA := Lib.hid hsa
      clear hE hED hDE hsa hIX hoq hfq hbq hpush hr hrn hxq h61 h91 h91k hIx hcell0 hcx0
      go_wp2
      go_region_law (first | (refine step_append_I _ (by rfl) _ _ 35 3 (by rfl) ji Tryz.underlying35 hji hji0 hji1 hji2 (v := .slice (some ⟨wk.heap.size, 0, none⟩) 0 0) (vx := .slice (some ⟨b1, o1, none⟩) len1 cap1) (by rfl) (by rfl) HE1.out HS1.out HN0.out ?_; intro v1 w1 f1 hv1 hv2 hv3; obtain ⟨adv, lv, cv, rfl, hlv, _⟩ := ownI_open hv1; have HV1 := Lib.hid hv1; have HB1 := Lib.hid (HBE.out.trans (hv3.below HBE.out.size (by intro b hb; simp at hb; omega))); have hcxw := cell_below HB1.out hcx; have HF1 := Lib.hid (fun b hb => show wk.heap.size ≤ b from by { have h1 := HBE.out.size; rcases hv2 b hb with h | h; (simp at h; omega); omega }); clear hv1 hv2 hv3 hlv) | (refine step_append_I _ (by rfl) _ _ 35 3 (by rfl) ji Tryz.underlying35 hji hji0 hji1 hji2 (v := .slice (some ⟨wk.heap.size, 0, none⟩) 0 0) (vx := .slice (some ⟨b1, o1, none⟩) len1 cap1) (by rfl) (by rfl) HE2.out HS2.out HN0.out ?_; intro v1 w1 f1 hv1 hv2 hv3; obtain ⟨adv, lv, cv, rfl, hlv, _⟩ := ownI_open hv1; have HV1 := Lib.hid hv1; have HD := Lib.hid (srcI_own (ownI_only HD2.out hv3 (by simp))); have HB1 := Lib.hid (HBED.out.trans (hv3.below HBED.out.size (by intro b hb; simp at hb; omega))); have hcxw := cell_below HB1.out hcx; have HF1 := Lib.hid (fun b hb => show wk.heap.size ≤ b from by { have h1 := HBED.out.size; rcases hv2 b hb with h | h; (simp at h; omega); omega }); clear hv1 hv2 hv3 hlv) | (refine step_append_I _ (by rfl) _ _ 35 3 (by rfl) ji Tryz.underlying35 hji hji0 hji1 hji2 (v := .slice (some ⟨wk.heap.size + 1, 0, none⟩) 0 0) (vx := .slice (some ⟨b1, o1, none⟩) len1 cap1) (by rfl) (by rfl) HE3.out HS3.out HN0.out ?_; intro v1 w1 f1 hv1 hv2 hv3; obtain ⟨adv, lv, cv, rfl, hlv, _⟩ := ownI_open hv1; have HV1 := Lib.hid hv1; have HD := Lib.hid (srcI_own (ownI_only HD3.out hv3 (by simp))); have HB1 := Lib.hid (HBDE.out.trans (hv3.below HBDE.out.size (by intro b hb; simp at hb; omega))); have hcxw := cell_below HB1.out hcx; have HF1 := Lib.hid (fun b hb => show wk.heap.size ≤ b from by { have h1 := HBDE.out.size; rcases hv2 b hb with h | h; (simp at h; omega); omega }); clear hv1 hv2 hv3 hlv) | (refine step_append_I _ (by rfl) _ _ 35 3 (by rfl) ji Tryz.underlying35 hji hji0 hji1 hji2 (v := .slice adv lv cv) (vx := .slice (some ⟨w1.heap.size, 0, none⟩) 1 1) (by rfl) (by rfl) (ownI_only HV1.out (Only.of_below (fp := []) (below_lit1 w1 3 x)) (by simp)) (src_lit (e := 3) w1 x HIX.out) HN1.out ?_; intro v2 w2 f2 hv1 hv2 hv3; obtain ⟨adv2, lv2, cv2, rfl, hlv, _⟩ := ownI_open hv1; have hbw : Below wk.heap.size wk w2 := (HB1.out.trans ((below_lit1 w1 3 x).mono HB1.out.size)).trans (hv3.below (HB1.out.trans ((below_lit1 w1 3 x).mono HB1.out.size)).size (fun b hb => HF1.out b hb)); have HF2 := Lib.hid (fun b hb => show wk.heap.size ≤ b from by { have h1 := (HB1.out.trans ((below_lit1 w1 3 x).mono HB1.out.size)).size; rcases hv2 b hb with h | h; (exact HF1.out b h); omega }); have HB2 := Lib.hid hbw; obtain ⟨hrowa, hcl⟩ := HP.out w2 [] (Only.of_below hbw) (by simp); have HNP := Lib.hid hrowa; have HPA := Lib.hid (fun (w3 : World) (gg2 capn2 : Nat) hown2 hgrow2 hat2 => hcl _ (([] ++ r) ++ [x]) f2 w3 gg2 capn2 hv1 (fun b hb hm => (by have h1 := HLT.out b hm; have h2 := HF2.out b hb; omega)) hown2 hgrow2 hat2); clear hv1 hv2 hv3 hlv hbw hrowa hcl) | (refine step_append_I _ (by rfl) _ _ 35 3 (by rfl) ji Tryz.underlying35 hji hji0 hji1 hji2 (v := .slice adv lv cv) (vx := _) (by rfl) (by rfl) HV1.out HD.out HN1.out ?_; intro v2 w2 f2 hv1 hv2 hv3; obtain ⟨adv2, lv2, cv2, rfl, hlv, _⟩ := ownI_open hv1; have hbw : Below wk.heap.size wk w2 := HB1.out.trans (hv3.below HB1.out.size (fun b hb => HF1.out b hb)); have HF2 := Lib.hid (fun b hb => show wk.heap.size ≤ b from by { have h1 := HB1.out.size; rcases hv2 b hb with h | h; (exact HF1.out b h); omega }); have HB2 := Lib.hid hbw; obtain ⟨hrowa, hcl⟩ := HP.out w2 [] (Only.of_below hbw) (by simp); have HNP := Lib.hid hrowa; have HPA := Lib.hid (fun (w3 : World) (gg2 capn2 : Nat) hown2 hgrow2 hat2 => hcl _ (([] ++ r) ++ [x]) f2 w3 gg2 capn2 hv1 (fun b hb hm => (by have h1 := HLT.out b hm; have h2 := HF2.out b hb; omega)) hown2 hgrow2 hat2); clear hv1 hv2 hv3 hlv hbw hrowa hcl) | (refine step_append_lies _ (by rfl) _ _ _ (by rfl) 0 35 jl _ 1 24 Tryz.underlying25 hjl hjl0 hjl1 hjl2 rfl (by omega) (.slice adp q capp) q _ (by rfl) (HNP.out.alloc _) ⟨w2.heap.size, 0, none⟩ 1 1 [.slice adv2 lv2 cv2] (by rfl) (by rfl) (World.news_of_block (cs := #[.slice adv2 lv2 cv2]) (t := 35) (fr := (0, 0)) (heap_alloc_new w2 _)) (by simp [Value.oneCell']) (by omega) (by unfold maxLen; omega) (by omega) (by simp) (w2.heap.size + 1) (by simp) ?_; intro gg capn wn hown1 hgrow hat hlt1; obtain ⟨f', hP1, hP2, hP3⟩ := HPA.out wn gg capn hown1 hgrow hat; have HPP := Lib.hid hP1; have HP2 := Lib.hid hP2; have HP3 := Lib.hid hP3; clear hown1 hgrow hat hP1 hP2 hP3))
      all_goals (
        go_wp2
        go_roundw
        case rel => exact ⟨q + 1, f', by omega, by go_num, by rw [HNX.out]; simpa using HPP.out, fun b hb => by
          have h1 := HB2.out.size
          have h2 := HBQ.out.size
          rcases HP2.out b hb with h | h | h
          · exact HF.out b h
          · have := HF2.out b h; omega
          · omega, (HBQ.out.trans (HB2.out.mono HBQ.out.size)).trans (HP3.out.below (HBQ.out.trans (HB2.out.mono HBQ.out.size)).size (fun b hb => HF.out b hb))⟩
        case measure => simp [intOf]; omega)
    obtain rfl : q = lenx := by omega
    obtain ⟨adm, lenm, capm, rfl, hlm, hlcm, hcmm, _⟩ := rdS_open (ownII_rd hoq)
    rw [List.take_of_length_le (by rw [augZ_len, HL.out]; exact Nat.le_refl _)] at hoq hlm
    obtain rfl : q = lenm := by rw [← hlm, augZ_len, HL.out]
    have hAok := aug_ok HOK.out HNR.out
    have hAl : (augZ rows right).length = q := by rw [augZ_len, HL.out]
    have HRD := Lib.hid (reduceI_any (.slice adm q capm) (augZ rows right) fq n (n + 1) (n : Int) wk rfl hoq hAok (by omega) (by omega) (by omega))
    obtain ⟨S, hS⟩ : ∃ S, redS (augZ rows right) n = S := ⟨_, rfl⟩
    obtain ⟨s1, s2, s3, s4, s5⟩ := redS_ok hAok n
    rw [hS] at s1 s2 s3 s4 s5
    rw [hAl] at s2 s4
    have HSS := Lib.hid (show solS rows right = S from by rw [solS, HN.out, hS])
    have HS := Lib.hid hS
    have S1 := Lib.hid s1
    have S2 := Lib.hid s2
    have S5 := Lib.hid s5
    have HFQ := Lib.hid hfq
    have HBQ := Lib.hid hbq
    clear hoq hAok hAl hS s1 s2 s5 hfq hbq
    go_wp2_with fail
    refine HRD.out.mono ?_
    rintro e w3 ⟨va, fa, fp', rfl, ha, hm, hsub, hfa, hon⟩
    rw [HS.out] at ha hm
    have hb3 := below_newer HBQ.out hon HFQ.out
    obtain ⟨ada, la, capa, rfl, hla, hlac, hcma, _, _, _⟩ := ownI_open ha
    have hSl : S.2.length = la := by rw [← hla]; simp [natsZ]
    rw [hSl] at s3 s4
    have hlta := ownI_lt ha
    have hltm := ownII_lt hm
    have hib : ji.bytes * n ≤ 281474976710656 := by rw [hji2]; omega
    have HA := Lib.hid ha
    have HM := Lib.hid hm
    have HB3 := Lib.hid hb3
    have HSL := Lib.hid hSl
    have HLTA := Lib.hid hlta
    have HLTM := Lib.hid hltm
    clear ha hm hsub hfa hon hb3 hla hSl hlta hltm
    go_wp2_with (first
      | (at_make; refine wpList_make_full _ rfl _ _ 35 rfl 0 3 ji (.int .i64 0) 1 Tryz.underlying35 hji hji0 hji1 .i64 .i64 _ _ n rfl rfl rfl rfl hib (by unfold maxLen; omega) (Nat.zero_le _) ?_; intro w4 hown1 hgrow1))
    have hbl : Below w3.heap.size w3 w4 := (Below.refl _ _).grown hgrow1 (Nat.le_refl _) (fun k hk => by cases hk)
    have hm0 : (madeCells (Value.int .i64 0).cells (n * 1)).toList = (List.replicate n (0 : Int)).map (Value.int .i64) := by
      rw [Nat.mul_one]; exact (toList_madeCells_one _ _).trans (by simp)
    rw [hm0] at hown1
    obtain ⟨G, hG⟩ : ∃ G, w3.heap.size = G := ⟨_, rfl⟩
    rw [hG] at hown1
    have HO0 := Lib.hid (show OwnI 3 w4 (.slice (some ⟨G, 0, none⟩) n n) (outS S n 0) [G] from ⟨by simpa [outS] using hown1, rfl, fun x hx => by
      simp only [outS, List.mem_replicate] at hx
      rw [hx.2]
      exact ⟨by decide, by decide⟩⟩)
    have HGE := Lib.hid (show w.heap.size ≤ G from by rw [← hG]; exact HB3.out.size)
    have HA4 := Lib.hid (ownI_only HA.out (Only.of_below (fp := []) hbl) (by simp))
    have HM4 := Lib.hid (ownII_only HM.out (Only.of_below (fp := []) hbl) (by simp))
    have HB4 := Lib.hid (HB3.out.trans (hbl.mono HB3.out.size))
    have HGA := Lib.hid (fun b hb => show b ≠ G from by have := HLTA.out b hb; omega)
    have HGM := Lib.hid (fun b hb => show b ≠ G from by have := HLTM.out b hb; omega)
    have HGG := Lib.hid hG
    clear hbl hm0 hown1 hgrow1 hG hib
    rw [HGG.out]
    go_loopw [60] (fun si wq => ∃ i : Nat, i ≤ q ∧ si = .int .i64 i ∧ OwnI 3 wq (.slice (some ⟨G, 0, none⟩) n n) (outS S n i) [G] ∧ Only [G] w4 wq ∧ (∀ t, la ≤ t → t < i → atZ (atL S.1 t) n = 0)) (fun si _ => q - (intOf si).toNat)
    case atStart => exact ⟨0, Nat.zero_le _, rfl, HO0.out, Only.refl _ _, fun t h1 h2 => by omega⟩
    case round =>
      obtain ⟨wz, rfl⟩ : ∃ W, W = wr := ⟨_, rfl⟩
      obtain ⟨i, hi, rfl, hoz, honz, hz⟩ := hrel
      clear HO0
      have HB := Lib.hid (HB4.out.trans (honz.below HB4.out.size (by intro b hb; rw [List.mem_singleton.1 hb]; exact HGE.out)))
      have HZ := Lib.hid hz
      clear hz
      by_cases hil : i < q
      case neg =>
        obtain rfl : q = i := by omega
        obtain ⟨y1, y2⟩ := solB_yes HSYS.out (by rw [HSS.out, HN.out, HL.out]; exact badB_no (by rw [HSL.out]; exact HZ.out))
        rw [HSS.out, HN.out, HL.out] at y2
        have HE := Lib.hid y1
        have HE2 := Lib.hid y2
        have HOZ := Lib.hid hoz
        clear y1 y2 hoz honz
        go_wp2
        go_ret2
        exact ⟨_, [G], by rw [HE.out]; rfl, by rw [HE2.out]; exact HOZ.out, by intro b hb; rw [List.mem_singleton.1 hb]; exact HGE.out, HB.out⟩
      obtain ⟨y1, y2, y3⟩ := rows_get S1.out (i := i) (by rw [S2.out]; exact hil)
      have hmz := ownII_only HM4.out honz (fun b hb hm => HGM.out b hb (List.mem_singleton.1 hm))
      obtain ⟨b7, off7, ad7, len7, cap7, row7, rfl, hrow7, hc7, h67, h77, h87, h97, _⟩ := rdII_get (ownII_rd hmz) hil
      obtain rfl : atL S.1 i = row7 := Option.some.inj (y1.symm.trans hrow7)
      have hn1 : n < len7 := by rw [← h67, y2]; omega
      obtain ⟨b8, off8, z, rfl, hzv, hcz, hIz, _⟩ := rdI_get h97 (k := n) hn1
      have hzz : atZ (atL S.1 i) n = z := atZ_get hzv
      by_cases hia : i < la
      case pos =>
        have haz := ownI_only HA4.out honz (fun b hb hm => HGA.out b hb (List.mem_singleton.1 hm))
        obtain ⟨b9, off9, x, rfl, hx9, hcx, _, _⟩ := rdI_get (ownI_rd haz) hia
        obtain ⟨xn, hxn⟩ : ∃ xn, S.2[i]? = some xn := ⟨_, List.getElem?_eq_getElem (by rw [HSL.out]; exact hia)⟩
        obtain rfl : x = (xn : Int) := by
          rw [natsZ, List.getElem?_map, hxn] at hx9
          exact (Option.some.inj hx9).symm
        have hxl : xn < n := S5.out xn (List.mem_of_getElem? hxn)
        have hgt : (outS S n i)[xn]? = some (atZ (outS S n i) xn) := row_get (by rw [outS_len]; exact hxl)
        have hnx : outS S n (i + 1) = (outS S n i).set xn z := by rw [outS, if_pos (by rw [HSL.out]; exact hia), hxn, hzz]; rfl
        have hrow := hoz.1
        rw [outS_len] at hrow
        obtain ⟨o1, o2, o3, _⟩ := own_set (W := w4) hrow (honz.below (Nat.zero_le _) (fun b _ => Nat.zero_le _)) hgt (Nat.zero_le _) z
        have hdr : Below (wz.setCell ⟨G, xn, none⟩ (.int .i64 z)).heap.size (wz.setCell ⟨G, xn, none⟩ (.int .i64 z)) ((wz.setCell ⟨G, xn, none⟩ (.int .i64 z)).drew) := (Below.refl _ _).drew
        have HS1 := Lib.hid (show OwnI 3 ((wz.setCell ⟨G, xn, none⟩ (.int .i64 z)).drew) (.slice (some ⟨G, 0, none⟩) n n) (outS S n (i + 1)) [G] from by
          refine ownI_only ⟨?_, rfl, ?_⟩ (Only.of_below (fp := []) hdr) (by simp)
          · rw [hnx, List.length_set, outS_len]; exact o3
          · rw [hnx]
            intro y hy
            rcases List.mem_or_eq_of_mem_set hy with hy | rfl
            · exact hoz.2.2 y hy
            · exact hIz)
        have HS2 := Lib.hid ((honz.setCell (p := ⟨G, xn, none⟩) (by simp) (.int .i64 z)).drew)
        have HZ2 := Lib.hid (show ∀ t, la ≤ t → t < i + 1 → atZ (atL S.1 t) n = 0 from fun t h1 h2 => HZ.out t h1 (by omega))
        clear hnx hrow hoz honz hdr o3 hxn hx9 haz hmz y1 y2 y3 hrow7 h67 h97 hzv hzz hgt
        go_wp2
        (refine wp_region_still_tail 13 (by kernel_rfl) (by kernel_rfl) ?_; simp only [List.take_succ_cons, List.take_zero, List.drop_succ_cons, List.drop_zero]; (repeat (first | still_step )); refine wpStill_nil ?_; change wpList _ _ _ _ _ (World.drew _))
        go_wp2
        go_roundw
        case rel => exact ⟨i + 1, by omega, by go_num, HS1.out, HS2.out, HZ2.out⟩
        case measure => simp [intOf]; omega
      by_cases hz0 : z = 0
      · subst hz0
        have HS1 := Lib.hid (show OwnI 3 wz (.slice (some ⟨G, 0, none⟩) n n) (outS S n (i + 1)) [G] from by rw [outS, if_neg (by rw [HSL.out]; exact hia)]; exact hoz)
        have HZ2 := Lib.hid (show ∀ t, la ≤ t → t < i + 1 → atZ (atL S.1 t) n = 0 from fun t h1 h2 => by
          rcases (by omega : t < i ∨ t = i) with h | rfl
          · exact HZ.out t h1 h
          · exact hzz)
        clear hoz hmz y1 y2 y3 hrow7 h67 h97 hzv hzz
        go_wp2
        go_roundw
        case rel => exact ⟨i + 1, by omega, by go_num, HS1.out, honz, HZ2.out⟩
        case measure => simp [intOf]; omega
      · have hzb : (z != 0) = true := by simpa using hz0
        have HBD := Lib.hid (solB_bad (rows := rows) (right := right) (by
          rw [HSS.out, HN.out, HL.out]
          exact badB_yes (i := i) (by rw [HSL.out]; omega) hil (by rw [hzz]; exact hz0)))
        clear hoz hmz y1 y2 y3 hrow7 h67 h97 hzv hzz honz
        go_wp2
        go_ret2
        exact HNO.out _ HB.out HBD.out
end Go.Proofs.YtbcjhpgkodeoeaaGreatDoor

/- Rows of powers. Conditions: short rows. -/
namespace Go.Proofs.YtbcjhpgkodeoeaaGreatDoor
open Go.RowKit

end Go.Proofs.YtbcjhpgkodeoeaaGreatDoor
