/- Whether a field keeps a polynomial: the reference. Conditions: none. -/
import Derived.Test.YtdaaamdighojdaaSTim
import Derived.Test.YtdaaamdighojdaaSHam
set_option linter.unusedSimpArgs false
set_option linter.unusedVariables false
namespace Go.Proofs.Ytdaaamdighojdaa
open Go.RowKit Go.Sort

theorem putAll_append (p a b : List MonZ) : putAll p (a ++ b) = putAll (putAll p a) b := by simp [putAll, List.foldl_append]

set_option maxRecDepth 100000 in
set_option maxHeartbeats 3200000 in
theorem sKeeps_any (vf vh : Value) (f : FldZ) (h : List MonZ) (w : World) (hf : RdFld w vf f) (hh : RdMs w vh h) :
    Calls Try.prog 46 #[vf, vh] w fun e w' => e = .returned (.bool (keepsB f h)) ∧ Below w.heap.size w w' := by
  have hff' := hf
  obtain ⟨vP, rfl, hIf, hP⟩ := hf
  obtain ⟨adp, lp, cp, rfl⟩ := rdMss_slice hP
  obtain ⟨adh, lh, ch, rfl, hlh, _, _, hh'⟩ := rdS_open hh
  have hb0 : Below w.heap.size w (w.alloc (.cells #[.int .i64 f.dim, .slice adp lp cp] 37)) := (Below.refl _ _).alloc (Nat.le_refl _) _
  have FOK := Lib.hid (fun (c : Bool) (hc : fldOkB f = c) => sFldOk_eq (.agg #[.int .i64 f.dim, .slice adp lp cp]) f _ (rdFld_mono hb0 hff') hc)
  have HB0 := Lib.hid hb0
  cases hfo : fldOkB f with
  | false =>
    have F1 := Lib.hid (FOK.out false hfo)
    have HE := Lib.hid (keepsB_fld (h := h) hfo)
    clear hff' hP hh hh' hlh hb0 hfo FOK
    go_enter Try.func46, Try.ntmps46
    go_wp2_with fail
    refine F1.out.mono ?_
    rintro e w1 ⟨rfl, hb1⟩
    go_wp2
    go_ret
    exact ⟨ret_bool HE.out.symm, HB0.out.trans (hb1.mono HB0.out.size)⟩
  | true =>
  have F1 := Lib.hid (FOK.out true hfo)
  have POK := Lib.hid (fun (c : Bool) (hc : polyOkB h f.dim = c) (W : World) (hW : Below w.heap.size w W) => sPolyOk_eq (.slice adh lh ch) h f.dim W (rdMs_mono hW hh') hc)
  have HF0 := Lib.hid (show (w.alloc (.cells #[.int .i64 f.dim, .slice adp lp cp] 37)).cell? ⟨w.heap.size, 0, none⟩ = some (.int .i64 f.dim) ∧ (w.alloc (.cells #[.int .i64 f.dim, .slice adp lp cp] 37)).cell? ⟨w.heap.size, 1, none⟩ = some (.slice adp lp cp) from ⟨by simp, by simp⟩)
  cases hpo : polyOkB h f.dim with
  | false =>
    have P1 := Lib.hid (POK.out false hpo)
    have HE := Lib.hid (keepsB_pol (f := f) hpo)
    clear hff' hP hh hh' hlh hb0 hfo FOK POK hpo
    go_enter Try.func46, Try.ntmps46
    go_wp2_with fail
    refine F1.out.mono ?_
    rintro e w1 ⟨rfl, hb1⟩
    have c0 := cell_below hb1 HF0.out.1
    have hb1w := HB0.out.trans (hb1.mono HB0.out.size)
    go_wp2_with fail
    refine (P1.out _ hb1w).mono ?_
    rintro e w2 hq
    obtain ⟨rfl, hb2⟩ := hq.below
    clear hq
    go_wp2
    go_ret
    exact ⟨ret_bool HE.out.symm, hb1w.trans (hb2.mono hb1w.size)⟩
  | true =>
  have P1 := Lib.hid (POK.out true hpo)
  have HE := Lib.hid (keepsB_yes hfo hpo)
  obtain ⟨n, hdn, hpn, hn1, hn6, hparts⟩ := fldOk_parts hfo
  rw [hdn] at hpo
  obtain ⟨_, _, hh12, hhm⟩ := polyOk_facts hpo
  have hlp : lp = n := by
    obtain ⟨ad', len', cap', he, hl', _⟩ := rdS_open hP
    injection he with e1 e2 e3
    omega
  subst hlp
  have HPARTS := Lib.hid hparts
  have HPN := Lib.hid hpn
  have HHM := Lib.hid hhm
  have HH12 := Lib.hid hh12
  have HHR := Lib.hid hh'
  have HPR := Lib.hid hP
  have HDN := Lib.hid hdn
  have HALL := Lib.hid (allL_len (parts := f.parts) hh12 (fun p hp => (hparts p hp).1))
  rw [hdn] at HF0 F1 HB0 P1
  clear hff' hP hh hh' hlh hb0 hfo FOK POK hpo hparts hpn hhm hh12
  rw [hdn]
  go_enter Try.func46, Try.ntmps46
  clear hdn
  go_wp2_with fail
  refine F1.out.mono ?_
  rintro e w1 ⟨rfl, hb1⟩
  have c0 := cell_below hb1 HF0.out.1
  have c1 := cell_below hb1 HF0.out.2
  have hb1w := HB0.out.trans (hb1.mono HB0.out.size)
  go_wp2_with fail
  refine (P1.out _ hb1w).mono ?_
  rintro e w2 hq
  obtain ⟨rfl, hb2⟩ := hq.below
  clear hq
  have c0b := cell_below hb2 c0
  have c1b := cell_below hb2 c1
  have hb2w := hb1w.trans (hb2.mono hb1w.size)
  obtain ⟨W3, hW3⟩ : ∃ W, W = w2.alloc (.cells #[] 91) := ⟨_, rfl⟩
  have hb3 : Below w2.heap.size w2 W3 := hW3 ▸ (Below.refl _ _).alloc (Nat.le_refl _) _
  have hb3w := hb2w.trans (hb3.mono hb2w.size)
  have HS0 := Lib.hid (show SumI w W3 (.slice (some ⟨w2.heap.size, 0, none⟩) 0 0) (putAll [] (allL f.parts h 0)) 0 ∧ W3.cell? ⟨w.heap.size, 0, none⟩ = some (.int .i64 (lp : Int)) ∧ W3.cell? ⟨w.heap.size, 1, none⟩ = some (.slice adp lp cp) from
    ⟨⟨⟨_, _, rfl⟩, ⟨[], rfl, by rw [hW3]; simpa [rowS] using World.ownsRow_lit (base := 0) (e := 91) (size := 2) w2 #[] 0 (Nat.zero_le _) (Nat.zero_le _) rfl, by simp⟩, hb3w⟩, cell_below hb3 c0b, cell_below hb3 c1b⟩)
  have HW3 := Lib.hid hW3
  clear hb1 hb2 hb3 c0 c1 hb1w hb2w hb3w hW3
  go_wp2
  rw [← HW3.out]
  go_loopw [5, 6] (fun u si wr => ∃ (k zl : Nat), si = .int .i64 k ∧ k ≤ lp ∧ SumI w wr u (putAll [] (allL f.parts h k)) zl ∧ wr.cell? ⟨w.heap.size, 0, none⟩ = some (.int .i64 (lp : Int)) ∧ wr.cell? ⟨w.heap.size, 1, none⟩ = some (.slice adp lp cp)) (fun _ si _ => lp - (intOf si).toNat)
  case atStart => exact ⟨0, 0, rfl, Nat.zero_le _, HS0.out⟩
  case round =>
    obtain ⟨wk, rfl⟩ : ∃ W, W = wr := ⟨_, rfl⟩
    clear HS0 c0b c1b
    obtain ⟨k, zl, rfl, hk, hs, hc0, hc1⟩ := hrel
    obtain ⟨gs, caps, rfl⟩ := hs.shape
    by_cases hlt : k < lp
    case neg =>
      obtain rfl : k = lp := by omega
      have hb := hs.below
      have HE2 := Lib.hid (show keepsB f h = decide (zl = 0) from by have := HE.out; rwa [HPN.out, hs.len] at this)
      clear hs
      go_wp2
      go_ret
      exact ⟨ret_bool (by rw [HE2.out, Bool.eq_iff_iff]; simp), hb⟩
    obtain ⟨bp, op, ad5, l5, c5, p, rfl, hp, hc5, h51, h52, h53, h54, _⟩ := rdMss_get (rdMss_mono hs.below HPR.out) hlt
    obtain ⟨hp12, hpm⟩ := HPARTS.out p (List.mem_of_getElem? hp)
    have hzl : zl ≤ 864 := by
      have h1 := putAll_len (allL f.parts h k) []
      have h2 := HALL.out k
      rw [hs.len] at h1
      simp at h1
      omega
    have hb := hs.below
    have HSW := Lib.hid (fun (X : World) (hX : Below wk.heap.size wk X) => show X.cell? ⟨w.heap.size, 1, none⟩ = some (.slice (some ⟨bp, op, none⟩) lp cp) ∧ X.cell? ⟨bp, op + k, none⟩ = some (.slice ad5 l5 c5) from ⟨cell_below hX hc1, cell_below hX hc5⟩)
    have PA := Lib.hid (sPart_any (.slice adh lh ch) h k lp 1 wk.drew (rdMs_mono (hb.trans ((Below.refl _ _).drew.mono hb.size)) HHR.out) HH12.out HHM.out hn6 hlt (by omega))
    have TI := Lib.hid (fun (v1 : Value) (fp1 : List Nat) (w1 : World) (ho1 : OwnMs 91 3 w1 v1 (partL k 1 h) fp1) (hb1 : Below wk.heap.size wk w1) =>
      sTimes3_any (.slice (some ⟨gs, 0, none⟩) zl caps) v1 (.slice ad5 l5 c5) _ (partL k 1 h) p lp zl w w1 (hs.step hb1) (ownMs_rd ho1) (rdMs_mono hb1 h54) (Nat.le_trans (partL_len _ _ _) HH12.out) hp12 (partL_small HHM.out) (fine_small hpm) hn1 hn6 (by omega))
    have HNX := Lib.hid (allL_next (h := h) hp)
    have HS0 := HSW.out wk.drew ((Below.refl _ _).drew)
    have HSD := Lib.hid HS0
    have HC0 := Lib.hid hc0
    have HBW := Lib.hid hb
    have hkI : (k : Int) < lp := by omega
    clear hs hp h51 h54 hp12 hpm hb HS0
    go_wp2
    go_region_held3 (fun w' => w'.cell? ⟨w.heap.size, 1, none⟩ = some (.slice (some ⟨bp, op, none⟩) lp cp) ∧ w'.cell? ⟨bp, op + k, none⟩ = some (.slice ad5 l5 c5)) (first | exact HSD.out | exact hSa | exact hSb) (first | (go_at_call 75; (with_reducible refine (PA.out).mono ?_); rintro e wa ⟨v1, fp1, rfl, ho1, hf1, hba⟩; have hra := (show Below wk.heap.size wk wa from ((Below.refl _ _).drew).trans (hba.mono (Nat.le_refl _))); have hSa := HSW.out wa hra; have T1 := Lib.hid (TI.out v1 fp1 wa ho1 hra); have HRA := Lib.hid hra; obtain ⟨ad1, l1, c1', rfl⟩ := ownMs_open ho1; clear ho1 hf1 hba hra) | (go_at_call 93; (with_reducible refine (T1.out).mono ?_); rintro e wb ⟨gn, zn, cn, rfl, hsn, hbb⟩; have hrb := HRA.out.trans (hbb.mono HRA.out.size); have hSb := HSW.out wb hrb; have HSN := Lib.hid hsn; have HRB := Lib.hid hrb; clear hsn hbb hrb))
    all_goals (
      have HN := Lib.hid (show SumI w wb (.slice (some ⟨gn, 0, none⟩) zn cn) (putAll [] (allL f.parts h (k + 1))) zn ∧ wb.cell? ⟨w.heap.size, 0, none⟩ = some (.int .i64 (lp : Int)) ∧ wb.cell? ⟨w.heap.size, 1, none⟩ = some (.slice (some ⟨bp, op, none⟩) lp cp) from ⟨by rw [HNX.out, putAll_append]; exact HSN.out, cell_below HRB.out HC0.out, hSb.1⟩)
      clear hSa hSb
      go_wp2
      go_roundw
      case rel => exact ⟨k + 1, zn, by go_num, by omega, HN.out⟩
      case measure => (simp [intOf]; try omega))
end Go.Proofs.Ytdaaamdighojdaa
