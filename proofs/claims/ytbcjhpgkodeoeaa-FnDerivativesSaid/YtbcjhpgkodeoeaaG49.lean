/- ValueAlong of the program and of the reference. Conditions: lengths of slices up to 2^20. -/
import Derived.Test.YtbcjhpgkodeoeaaG48
set_option linter.unusedSimpArgs false
set_option linter.unusedVariables false

namespace Go.Proofs.Ytbcjhpgkodeoeaa
open Go.RowKit Go.Sort

def fpOkB (f : FldZ) (xs : List (List Int)) : Bool := fldOkB f && pathOkB xs f.dim
theorem pathOk_lit {w : World} {xs : List (List Int)} {d : Int} {b : Bool} {v : Value} (h : RdII w v xs) (hb : pathOkB xs d = b) : Calls Try.prog 18 #[v, .int .i64 d] w fun e w' => e = .returned (.bool b) ∧ w = w' := hb ▸ pathOk_any v xs d w h
set_option maxHeartbeats 1600000 in
theorem fpOk_any (vf vx : Value) (f : FldZ) (xs : List (List Int)) (w : World) (hf : RdFld w vf f) (hx : RdII w vx xs) (hfit : ∀ p ∈ f.parts, ∀ m ∈ p, Fit_Mon m) :
    Calls Try.prog 17 #[vf, vx] w fun e w' => e = .returned (.bool (fpOkB f xs)) ∧ Below w.heap.size w w' := by
  obtain ⟨vP, rfl, hI, hp⟩ := hf
  obtain ⟨ad1, len1, cap1, rfl, hl1, hlc1, hcm1, h1'⟩ := rdS_open hx
  obtain ⟨adp, lenp, capp, rfl, hlp, hlcp, hcmp, hp'⟩ := rdS_open hp
  obtain ⟨W, hW⟩ : ∃ W, W = w.alloc (.cells #[.int .i64 f.dim, .slice adp lenp capp] 29) := ⟨_, rfl⟩
  have hb0 : Below w.heap.size w W := hW ▸ (Below.refl _ _).alloc (Nat.le_refl _) _
  have hd0 : W.cell? ⟨w.heap.size, 0, none⟩ = some (.int .i64 f.dim) := by rw [hW]; simp
  have hd1 : W.cell? ⟨w.heap.size, 1, none⟩ = some (.slice adp lenp capp) := by rw [hW]; simp
  have HW := Lib.hid hW
  have hfW : RdFld W (.agg #[.int .i64 f.dim, .slice adp lenp capp]) f := ⟨_, rfl, hI, rdMss_mono hb0 hp'⟩
  clear hW hx hp hl1 hlp
  cases hk : fldOkB f with
  | false =>
    have HR := Lib.hid (show fpOkB f xs = false by rw [fpOkB, hk]; rfl)
    go_enter Try.func17, Try.ntmps17
    go_wp2_with fail
    rw [← HW.out]
    refine (fldOk_eq _ f W hfW hfit hk).mono ?_
    rintro e w1 ⟨rfl, hb1⟩
    have hd0a := cell_below hb1 hd0
    go_wp2
    go_ret
    exact ⟨ret_bool HR.out.symm, hb0.trans (hb1.mono hb0.size)⟩
  | true =>
    obtain ⟨b, hb⟩ : ∃ b, pathOkB xs f.dim = b := ⟨_, rfl⟩
    have HR := Lib.hid (show fpOkB f xs = b by rw [fpOkB, hk, hb]; rfl)
    go_enter Try.func17, Try.ntmps17
    go_wp2_with fail
    rw [← HW.out]
    refine (fldOk_eq _ f W hfW hfit hk).mono ?_
    rintro e w1 ⟨rfl, hb1⟩
    have hd0a := cell_below hb1 hd0
    have hbb := hb0.trans (hb1.mono hb0.size)
    have hxr := rdII_mono hbb h1'
    go_wp2_with (go_at_call 18; ((with_reducible refine (pathOk_lit hxr hb).mono ?_); rintro e w2 ⟨rfl, rfl⟩))
    go_ret
    exact ⟨ret_bool HR.out.symm, hbb⟩

theorem fpOk_eq {b : Bool} (vf vx : Value) (f : FldZ) (xs : List (List Int)) (w : World) (hf : RdFld w vf f) (hx : RdII w vx xs) (hfit : ∀ p ∈ f.parts, ∀ m ∈ p, Fit_Mon m) (h : fpOkB f xs = b) :
    Calls Try.prog 17 #[vf, vx] w fun e w' => e = .returned (.bool b) ∧ Below w.heap.size w w' := h ▸ fpOk_any vf vx f xs w hf hx hfit
def valueL (f : FldZ) (xs : List (List Int)) : List (List Int) := if fpOkB f xs then turnZ (fldE f.parts (turnZ xs f.dim.toNat) []) xs.length else []
theorem fpOk_facts {f : FldZ} {xs : List (List Int)} (h : fpOkB f xs = true) : ∃ n : Nat, f.dim = n ∧ f.parts.length = n ∧ 1 ≤ n ∧ n ≤ 6 ∧ (∀ p ∈ f.parts, p.length ≤ 12 ∧ ∀ m ∈ p, MonFine n m) ∧ pathOkB xs n = true := by
  simp only [fpOkB, Bool.and_eq_true] at h
  obtain ⟨n, h1, h2, h3, h4, h5⟩ := fldOk_facts h.1
  exact ⟨n, h1, h2, h3, h4, h5, h1 ▸ h.2⟩
theorem fldE_row {parts : List (List MonZ)} {ys : List (List Int)} {vs : List (List (List Int))} : ∀ y ∈ fldE parts ys vs, y.length = hdL ys := fun y hy => by
  simp only [fldE, List.mem_map] at hy
  obtain ⟨p, _, rfl⟩ := hy
  exact dervP_len _ _ _ _
theorem fldD_nil {parts : List (List MonZ)} {ys : List (List Int)} {size n : Nat} (hs : size = hdL ys) (h : ∀ p ∈ parts, p.length ≤ 12 ∧ ∀ m ∈ p, MonFine n m) : fldD parts ys [] size = fldE parts ys [] := by
  refine List.map_congr_left fun p hp => ?_
  exact derL_nil hs (fine_coef (h p hp).2)

set_option maxRecDepth 100000 in
set_option maxHeartbeats 3200000 in
theorem vAlong_any (vf vx : Value) (f : FldZ) (xs : List (List Int)) (w : World) (hf : RdFld w vf f) (hx : RdII w vx xs) (hfit : ∀ p ∈ f.parts, ∀ m ∈ p, Fit_Mon m) :
    Calls Try.prog 8 #[vf, vx] w (Gives (fun w' v fp => OwnII 24 3 w' v (valueL f xs) fp) w) := by
  obtain ⟨vP, rfl, hI, hp⟩ := hf
  obtain ⟨ad1, len, cap, rfl, hl, hlc1, hcm1, h1'⟩ := rdS_open hx
  obtain ⟨adp, lenp, capp, rfl, hlp, hlcp, hcmp, hp'⟩ := rdS_open hp
  obtain ⟨W, hW⟩ : ∃ W, W = w.alloc (.cells #[.int .i64 f.dim, .slice adp lenp capp] 29) := ⟨_, rfl⟩
  have hb0 : Below w.heap.size w W := hW ▸ (Below.refl _ _).alloc (Nat.le_refl _) _
  have hd0 : W.cell? ⟨w.heap.size, 0, none⟩ = some (.int .i64 f.dim) := by rw [hW]; simp
  have hd1 : W.cell? ⟨w.heap.size, 1, none⟩ = some (.slice adp lenp capp) := by rw [hW]; simp
  have HW := Lib.hid hW
  have hfW : RdFld W (.agg #[.int .i64 f.dim, .slice adp lenp capp]) f := ⟨_, rfl, hI, rdMss_mono hb0 hp'⟩
  have hxW := rdII_mono hb0 h1'
  have HL := Lib.hid hl
  clear hW hx hp hl hlp
  cases hk : fpOkB f xs with
  | false =>
    have HR := Lib.hid (show valueL f xs = [] by rw [valueL, hk]; rfl)
    go_enter Try.func8, Try.ntmps8
    go_wp2_with fail
    rw [← HW.out]
    refine (fpOk_eq _ _ f xs W hfW hxW hfit hk).mono ?_
    rintro e w1 ⟨rfl, hb1⟩
    go_wp2
    go_ret
    exact ⟨_, [], rfl, by rw [HR.out]; exact ⟨[], [], World.ownsRow_nil _ _ _ _, by simp, rfl, rfl, by simp⟩, by simp, hb0.trans (hb1.mono hb0.size)⟩
  | true =>
    obtain ⟨n, f1, f2, f3, f4, f5, f6⟩ := fpOk_facts hk
    obtain ⟨q1, q2, q3, q4⟩ := pathOk_facts f6
    have htok := turn_ok f6
    rw [HL.out] at q1 q2 htok
    have hth : hdL (turnZ xs n) = len := by rw [hdL_turn (by omega), HL.out]
    have hR : valueL f xs = turnZ (fldD f.parts (turnZ xs n) [] len) len := by
      rw [valueL, hk, f1, HL.out, fldD_nil hth.symm f5]; rfl
    have hdl : (fldD f.parts (turnZ xs n) [] len).length = n := by simp [fldD, f2]
    have hdr0 : ∀ y ∈ fldD f.parts (turnZ xs n) [] len, y.length = len := fun y hy => by
      rw [fldD_nil hth.symm f5] at hy
      rw [fldE_row y hy, hth]
    have HR := Lib.hid hR
    have F2 := Lib.hid f2
    have F5 := Lib.hid f5
    have Q3 := Lib.hid q3
    have TOK := Lib.hid htok
    have HDL := Lib.hid hdl
    have HDR := Lib.hid hdr0
    have hd0n : W.cell? ⟨w.heap.size, 0, none⟩ = some (.int .i64 (n : Int)) := by rw [← f1]; exact hd0
    have F1 := Lib.hid f1
    clear hR f2 f5 f6 q3 q4 htok hdl hdr0 hth hd0 f1
    go_enter Try.func8, Try.ntmps8
    go_wp2_with fail
    rw [← HW.out]
    refine (fpOk_eq _ _ f xs W hfW hxW hfit hk).mono ?_
    rintro e w1 ⟨rfl, hb1⟩
    have hd0a := cell_below hb1 hd0n
    have hd1a := cell_below hb1 hd1
    have hbb := hb0.trans (hb1.mono hb0.size)
    have hdr : Below w1.heap.size w1 w1.drew := (Below.refl _ _).drew
    have hbd := hbb.trans (hdr.mono hbb.size)
    have hfd : RdFld w1.drew (.agg #[.int .i64 (n : Int), .slice adp lenp capp]) f := ⟨_, by rw [F1.out], hI, rdMss_mono hbd hp'⟩
    have J1 := Lib.hid (jets_any _ xs n w1.drew (rdII_mono hbd h1') (by omega) (by rw [HL.out]; exact q2) Q3.out)
    have HBB := Lib.hid hbb
    have HFD := Lib.hid hfd
    clear hd0n hd1 hbd hxW hfW hfd hbb
    go_wp2
    go_region_law (go_simp; first | (go_at_call 19; (with_reducible refine (J1.out).mono ?_); rintro e wa ⟨p1, fp1, rfl, hop1, hfp1, hba⟩; have hra := hdr.trans (hba.mono hdr.size); have hd0b := cell_below hra hd0a; have hd1b := cell_below hra hd1a) | (go_at_call 21; have A1 := fieldAlong_any _ _ (.slice none 0 0) f (turnZ xs n) [] n len _ (rdFld_mono hba HFD.out) (ownII_rd hop1) (rdIII_nil _) F2.out F5.out f3 f4 q1 q2 (turnZ_len _ _) TOK.out (by simp) (by simp); (with_reducible refine A1.mono ?_); rintro e wb ⟨p2, fp2, rfl, hop2, hfp2, hbb⟩) | (go_at_call 20; have A2 := points_any _ (fldD f.parts (turnZ xs n) [] len) len _ (ownII_rd hop2) q2 (by rw [HDL.out]; omega) HDR.out; (with_reducible refine A2.mono ?_); rintro e wc ⟨p3, fp3, rfl, hop3, hfp3, hbc⟩))
    all_goals (
      have hrc := hra.trans ((hbb.trans (hbc.mono hbb.size)).mono hra.size)
      have hrw := HBB.out.trans (hrc.mono HBB.out.size)
      have hn3 : ∀ b ∈ fp3, w.heap.size ≤ b := fun b hb' => by { have := hfp3 b hb'; have := hbb.size; have := hra.size; have := HBB.out.size; omega }
      have HO3 := Lib.hid hop3
      have HRW := Lib.hid hrw
      have HN3 := Lib.hid hn3
      clear hop1 hop2 hop3 hba hbb hbc hra hrc hrw A1 A2 hfp1 hfp2 hfp3 hn3 hd0a hd1a hd0b hd1b
      go_wp2
      go_ret
      exact ⟨_, fp3, rfl, by rw [HR.out]; exact HO3.out, HN3.out, HRW.out⟩)

end Go.Proofs.Ytbcjhpgkodeoeaa
