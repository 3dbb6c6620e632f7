/- DerivativeAt of the program and of the reference. Conditions: lengths of slices up to 2^20. -/
import Derived.Test.YtbcjhpgkodeoeaaG49
import Derived.Test.YtbcjhpgkodeoeaaG19
set_option linter.unusedSimpArgs false
set_option linter.unusedVariables false

namespace Go.Proofs.Ytbcjhpgkodeoeaa
open Go.RowKit Go.Sort

-- slices of slices of slices of the call's own
def OElIII (e1 e : Nat) (w : World) (us : List Value) (x : List (List Int)) (fp : List Nat) : Prop := ∃ u, us = [u] ∧ OwnII e1 e w u x fp
def OwnIII (e2 e1 e : Nat) : World → Value → List (List (List Int)) → List Nat → Prop := OwnS e2 1 (OElIII e1 e)
theorem oelIII_only {e1 e : Nat} {w w' : World} {us : List Value} {x : List (List Int)} {fp fp' : List Nat} (h : OElIII e1 e w us x fp) (ho : Only fp' w w') (hd : ∀ g ∈ fp, g ∉ fp') : OElIII e1 e w' us x fp := by
  obtain ⟨u, rfl, h⟩ := h
  exact ⟨u, rfl, ownII_only h ho hd⟩
theorem oelIII_lt {e1 e : Nat} {w : World} {us : List Value} {x : List (List Int)} {fp : List Nat} (h : OElIII e1 e w us x fp) : ∀ g ∈ fp, g < w.heap.size := by
  obtain ⟨u, rfl, h⟩ := h
  exact ownII_lt h
theorem ownIII_rd {e2 e1 e : Nat} {w : World} {v : Value} {xs : List (List (List Int))} {fp : List Nat} (h : OwnIII e2 e1 e w v xs fp) : RdIII w v xs :=
  ownS_rd (fun _ _ _ ⟨u, hu, h⟩ => ⟨u, hu, ownII_rd h⟩) h
theorem ownII_nodup {e1 e : Nat} {w : World} {v : Value} {xs : List (List Int)} {fp : List Nat} (h : OwnII e1 e w v xs fp) : fp.Nodup := by
  obtain ⟨_, _, _, _, _, _, h⟩ := h
  exact h
theorem ownIII_push {e2 e1 e : Nat} {W wr wq w1 w2 : World} {v v' p : Value} {xs : List (List (List Int))} {ys : List (List Int)} {f : List Nat} {us : List (List Value)} {fs : List Nat} {n : Nat}
    (hone : ∀ u ∈ us, u.length = 1) (hels : OwnEls (OElIII e1 e) wr us xs fs) (hnd : (v.ownBlock.toList ++ fs).Nodup) (hown0 : wr.ownsRow 0 e2 1 v xs.length us.flatten) (hn : xs.length = n)
    (hp : OwnII e1 e wq p ys f) (hf : ∀ b ∈ f, wr.heap.size ≤ b) (hfp : ∀ b ∈ v.ownBlock.toList ++ fs, W.heap.size ≤ b) (hW : Below W.heap.size W wr) (hq : Below wr.heap.size wr wq)
    (h1 : Below wq.heap.size wq w1) (hown : w2.ownsRow 0 e2 1 v' (n + 1) (us.flatten ++ [p])) (hg : w1.grownBy w2 v.ownBlock) (hv : ∀ b, v'.ownBlock = some b → v.ownBlock = some b ∨ w1.heap.size ≤ b) :
    ∃ fp', OwnIII e2 e1 e w2 v' (xs ++ [ys]) fp' ∧ (∀ b ∈ fp', W.heap.size ≤ b) ∧ Below W.heap.size W w2 := by
  have hlt : ∀ b ∈ v.ownBlock.toList ++ fs, b < wr.heap.size := fun b hb => by
    simp only [List.mem_append, Option.mem_toList] at hb
    rcases hb with hb | hb
    · exact (hown0.lt b hb).2
    · exact ownEls_lt (fun _ _ _ h => oelIII_lt h) hels b hb
  refine ownS_push (El := OElIII e1 e) (W := W) (w := wq) (w1 := w1) (f := f) (fs := fs) (fun w w' u x f g h ho hd => oelIII_only h ho hd) hone (ownEls_only (fun u x f' h hd => oelIII_only h (Only.of_below (fp := []) hq) hd) hels (by simp)) hnd ⟨p, rfl, hp⟩ rfl
    (fun b hb hm => by have := hf b hb; have := hlt b hm; omega) (ownII_nodup hp) (ownII_lt hp) (fun b hb => by have := hlt b (by simp [hb]); have := hq.size; omega) hn (fun b hb => ?_) (hW.trans (hq.mono hW.size)) h1 hown hg hv
  rw [List.mem_append] at hb
  rcases hb with hb | hb
  · exact hfp b hb
  · have := hf b hb
    have := hW.size
    omega
/-- One row of rows of the call's own. -/
theorem ownII_rowD {e1 e : Nat} {w : World} {ad : Option Addr} {len cap : Nat} {xs : List (List Int)} {fp : List Nat} (h : OwnII e1 e w (.slice ad len cap) xs fp) {k : Nat} {x : List Int} (hx : xs[k]? = some x) :
    ∃ b u f, ad = some ⟨b, 0, none⟩ ∧ k < len ∧ w.cell? ⟨b, k, none⟩ = some u ∧ OwnI e w u x f ∧ ∀ g ∈ f, g ∈ fp := by
  obtain ⟨us, fs, hown, hone, hels, rfl, hnd⟩ := h
  obtain ⟨u, f, hu, ⟨u', rfl, hO⟩, hsub⟩ := ownEls_get hels hx
  have hk := (List.getElem?_eq_some_iff.1 hx).1
  obtain ⟨ad', cap', he, _, _, hg⟩ := row_open hown
  injection he with e1 e2 e3
  subst e1
  obtain ⟨g, rfl⟩ := hg (by omega)
  have hfl := flat_get hone hu (j := 0) rfl
  simp only [Nat.mul_one, Nat.add_zero] at hfl
  refine ⟨g, u', f, rfl, by omega, ?_, hO, fun b hb => by simp [hsub b hb]⟩
  rw [e2] at hown
  rw [hown.cellAt k (by omega), hfl]

theorem Try.info_jets : (Try.prog.info? 47).map (fun i => (i.zero, i.size, i.bytes)) = some (some (.slice none 0 0), 1, 24) := by kernel_rfl
theorem Try.info_intss : (Try.prog.info? 30).map (fun i => (i.zero, i.size, i.bytes)) = some (some (.slice none 0 0), 1, 24) := by kernel_rfl
theorem points_at (v : Value) (xs : List (List Int)) (n : Nat) (nz : Int) (w : World) (hz : nz = (n : Int)) (h : RdII w v xs) (hn : n ≤ 7) (hx7 : xs.length ≤ 7) (hrow : ∀ y ∈ xs, y.length = n) :
    Calls Try.prog 20 #[v, .int .i64 nz] w (Gives (fun w' v fp => OwnII 24 3 w' v (turnZ xs n) fp) w) := by
  subst hz
  exact points_any v xs n w h hn hx7 hrow
/-- A slice of one row that was just laid. -/
theorem rdII_one {w W : World} {t : TypeId} {u : Value} {y : List Int} (h : RdI w u y) (hW : W = w.alloc (.cells #[u] t)) : RdII W (.slice (some ⟨w.heap.size, 0, none⟩) 1 1) [y] := by
  have hb : Below w.heap.size w W := hW ▸ (Below.refl _ _).alloc (Nat.le_refl _) _
  refine ⟨_, _, rfl, Nat.le_refl _, by omega, fun _ => ⟨_, _, rfl, fun i x hx => ?_⟩⟩
  cases i with
  | zero =>
    simp at hx
    subst hx
    refine ⟨[u], rfl, fun j z hz => ?_, u, rfl, rdI_mono hb h⟩
    cases j with
    | zero => simp at hz; subst hz; rw [hW]; simp
    | succ j => simp at hz
  | succ i => simp at hx
def dirsL (vs : List (List Int)) (n : Nat) : List (List (List Int)) := vs.map fun v => turnZ [v] n
def daOkB (f : FldZ) (y : List Int) (vs : List (List Int)) : Bool := fpOkB f [y] && (decide (vs.length ≤ 6) && vs.all fun v => pathOkB [v] f.dim)
def derAtL (f : FldZ) (y : List Int) (vs : List (List Int)) : List Int := if daOkB f y vs then colZ (fldE f.parts (turnZ [y] f.dim.toNat) (dirsL vs f.dim.toNat)) 0 else []
theorem turn_J1 {xs : List Int} {n : Nat} : J1 (turnZ [xs] n) := fun v hv => by
  rw [turnZ_len] at hv
  exact one1_of (by rw [turn_at hv, colZ_len]; rfl)
theorem fldD_dirs {parts : List (List MonZ)} {y : List Int} {vs : List (List Int)} {n : Nat} (hn : 1 ≤ n) (h : ∀ p ∈ parts, p.length ≤ 12 ∧ ∀ m ∈ p, MonFine n m) :
    fldD parts (turnZ [y] n) (dirsL vs n) 1 = fldE parts (turnZ [y] n) (dirsL vs n) := by
  refine List.map_congr_left fun p hp => ?_
  refine derL_one turn_J1 (by rw [hdL_turn (by omega)]; rfl) (fun a ha => ?_) (fun m hm => ?_)
  · simp only [dirsL, List.mem_map] at ha
    obtain ⟨v, _, rfl⟩ := ha
    exact ⟨turn_J1, by rw [turnZ_len, turnZ_len]; exact Nat.le_refl _⟩
  · obtain ⟨h1, h2, h3, _⟩ := (h p hp).2 m hm
    exact ⟨h1.1, h1.2, by rw [turnZ_len, h2]; exact Nat.le_refl _, h3⟩
theorem dirs_ok {vs : List (List Int)} {n : Nat} (h : ∀ v ∈ vs, pathOkB [v] n = true) : ∀ a ∈ dirsL vs n, a.length = n ∧ AllJ 1 a := fun a ha => by
  simp only [dirsL, List.mem_map] at ha
  obtain ⟨v, hv, rfl⟩ := ha
  exact ⟨turnZ_len _ _, turn_ok (h v hv)⟩

set_option maxRecDepth 100000 in
set_option maxHeartbeats 6400000 in
theorem dAt_any (vf vy vv : Value) (f : FldZ) (y : List Int) (vs : List (List Int)) (w : World) (hf : RdFld w vf f) (hy : RdI w vy y) (hv : RdII w vv vs) (hfit : ∀ p ∈ f.parts, ∀ m ∈ p, Fit_Mon m) :
    Calls Try.prog 6 #[vf, vy, vv] w (Gives (fun w' v fp => OwnI 3 w' v (derAtL f y vs) fp) w) := by
  have hnone : ∀ W, Below w.heap.size w W → daOkB f y vs = false → Gives (fun w' v fp => OwnI 3 w' v (derAtL f y vs) fp) w (.returned (.slice none 0 0)) W := by
    intro W hW hd
    refine ⟨_, [], rfl, ?_, by simp, hW⟩
    rw [derAtL, hd]
    exact ⟨World.ownsRow_nil _ _ _ _, rfl, by simp⟩
  obtain ⟨vP, rfl, hI, hp⟩ := hf
  obtain ⟨ady, ly, capy, rfl, hly, hlcy, hcmy, hy'⟩ := rdS_open hy
  obtain ⟨adv, len, capv, rfl, hlv, hlcv, hcmv, hv'⟩ := rdS_open hv
  obtain ⟨adp, lenp, capp, rfl, hlp, hlcp, hcmp, hp'⟩ := rdS_open hp
  obtain ⟨W, hW⟩ : ∃ W, W = w.alloc (.cells #[.int .i64 f.dim, .slice adp lenp capp] 29) := ⟨_, rfl⟩
  obtain ⟨W2, hW2⟩ : ∃ W2, W2 = W.alloc (.cells #[.slice ady ly capy] 24) := ⟨_, rfl⟩
  have hb0 : Below w.heap.size w W := hW ▸ (Below.refl _ _).alloc (Nat.le_refl _) _
  have hb1 : Below w.heap.size w W2 := hW2 ▸ hb0.alloc hb0.size _
  have hsz : W.heap.size = w.heap.size + 1 := by rw [hW]; simp
  have hd0 : W2.cell? ⟨w.heap.size, 0, none⟩ = some (.int .i64 f.dim) := by rw [hW2, hW]; simp
  have hd1 : W2.cell? ⟨w.heap.size, 1, none⟩ = some (.slice adp lenp capp) := by rw [hW2, hW]; simp
  have hyW : RdII W2 (.slice (some ⟨W.heap.size, 0, none⟩) 1 1) [y] := rdII_one (rdI_mono hb0 hy') hW2
  rw [hsz] at hyW
  have hfW : RdFld W2 (.agg #[.int .i64 f.dim, .slice adp lenp capp]) f := ⟨_, rfl, hI, rdMss_mono hb1 hp'⟩
  have HW := Lib.hid hW
  have HW2 := Lib.hid hW2
  have HLV := Lib.hid hlv
  clear hW hW2 hy hv hp hlp hb0 hsz
  cases hk : fpOkB f [y] with
  | false =>
    have HN := Lib.hid (fun W hW => hnone W hW (by rw [daOkB, hk]; rfl))
    clear hnone hlv
    go_enter Try.func6, Try.ntmps6
    go_wp2_with fail
    rw [← HW.out, ← HW2.out]
    refine (fpOk_eq _ _ f [y] W2 hfW hyW hfit hk).mono ?_
    rintro e w1 ⟨rfl, hb2⟩
    go_wp2
    go_ret
    exact HN.out _ (hb1.trans (hb2.mono hb1.size))
  | true =>
  by_cases h6 : 6 < len
  · have HN := Lib.hid (fun W hW => hnone W hW (by rw [daOkB, hk, hlv, decide_eq_false (by omega)]; rfl))
    clear hnone hlv
    go_enter Try.func6, Try.ntmps6
    go_wp2_with fail
    rw [← HW.out, ← HW2.out]
    refine (fpOk_eq _ _ f [y] W2 hfW hyW hfit hk).mono ?_
    rintro e w1 ⟨rfl, hb2⟩
    go_wp2
    go_ret
    exact HN.out _ (hb1.trans (hb2.mono hb1.size))
  have h6i : (len : Int) ≤ 6 := by omega
  obtain ⟨n, f1, f2, f3, f4, f5, f6⟩ := fpOk_facts hk
  have hda : daOkB f y vs = vs.all (fun v => pathOkB [v] n) := by rw [daOkB, hk, hlv, decide_eq_true (by omega), f1]; rfl
  have HDA := Lib.hid hda
  have hd0n : W2.cell? ⟨w.heap.size, 0, none⟩ = some (.int .i64 (n : Int)) := by rw [← f1]; exact hd0
  have F1 := Lib.hid f1
  have F2 := Lib.hid f2
  have F5 := Lib.hid f5
  have F6 := Lib.hid f6
  have HK := Lib.hid hk
  have HFW := Lib.hid hfW
  have HNONE := Lib.hid hnone
  clear hlv hda hd0 f1 f2 f5 f6 hnone
  obtain ⟨j2, hj2, hw0, hw1, hw2⟩ := info_parts Try.info_jets
  go_enter Try.func6, Try.ntmps6
  go_wp2_with fail
  rw [← HW.out, ← HW2.out]
  refine (fpOk_eq _ _ f [y] W2 hfW hyW hfit HK.out).mono ?_
  rintro e w1 ⟨rfl, hb2⟩
  have hbw1 := hb1.trans (hb2.mono hb1.size)
  have hc0 := cell_below hb2 hd0n
  have hc1 := cell_below hb2 hd1
  have HBW1 := Lib.hid hbw1
  clear hfW hyW hd0n hd1 hb1 hb2 hbw1 hk
  go_wp2
  have HO0 := Lib.hid (show OwnIII 47 68 3 (w1.alloc (.cells #[] 47)) (.slice (some ⟨w1.heap.size, 0, none⟩) 0 0) [] [w1.heap.size] from ⟨[], [], by simpa using World.ownsRow_lit (base := 0) (e := 47) (size := 1) w1 #[] 0 (Nat.zero_le _) (Nat.zero_le _) rfl, by simp, rfl, rfl, by simp⟩)
  have HB0 := Lib.hid (show Below w1.heap.size w1 (w1.alloc (.cells #[] 47)) from (Below.refl _ _).alloc (Nat.le_refl _) _)
  go_loopw [7, 23] (fun u i wr => ∃ (k : Nat) (fs : List Nat), k ≤ len ∧ i = .int .i64 k ∧ OwnIII 47 68 3 wr u ((dirsL vs n).take k) fs ∧ (∀ b ∈ fs, w1.heap.size ≤ b) ∧ Below w1.heap.size w1 wr ∧ (vs.take k).all (fun v => pathOkB [v] n) = true) (fun _ i _ => len - (intOf i).toNat)
  case atStart => exact ⟨0, [w1.heap.size], Nat.zero_le _, rfl, by simpa using HO0.out, by simp, HB0.out, by simp⟩
  case round =>
    obtain ⟨wk, rfl⟩ : ∃ W, W = wr := ⟨_, rfl⟩
    obtain ⟨k, fs0, hk, rfl, ho, hf, hb, hall⟩ := hrel
    clear HO0 HB0
    have htl : (dirsL vs n).length = len := by simp [dirsL, HLV.out]
    have hwk := HBW1.out.trans (hb.mono HBW1.out.size)
    have hd0k := cell_below hb hc0
    have hd1k := cell_below hb hc1
    by_cases hlt : k < len
    case neg =>
      obtain rfl : k = len := by omega
      rw [List.take_of_length_le (by omega)] at ho
      rw [List.take_of_length_le (by rw [HLV.out]; exact Nat.le_refl _)] at hall
      have hallT : ∀ v ∈ vs, pathOkB [v] n = true := fun v hv => List.all_eq_true.1 hall v hv
      obtain ⟨ada, la, capa, rfl, _, _, _, hal'⟩ := rdS_open (ownIII_rd ho)
      have hbY : Below wk.heap.size wk ((wk.alloc (.cells #[.slice ady ly capy] 24)).drew) := ((Below.refl _ _).alloc (Nat.le_refl _) _).drew
      have hd0Y := cell_below ((Below.refl wk.heap.size wk).alloc (Nat.le_refl _) (.cells #[.slice ady ly capy] 24)) hd0k
      have hd1Y := cell_below ((Below.refl wk.heap.size wk).alloc (Nat.le_refl _) (.cells #[.slice ady ly capy] 24)) hd1k
      obtain ⟨_, _, q3, _⟩ := pathOk_facts F6.out
      have J1 := Lib.hid (jets_any (.slice (some ⟨wk.heap.size, 0, none⟩) 1 1) [y] n ((wk.alloc (.cells #[.slice ady ly capy] 24)).drew) (rdII_mono ((Below.refl _ _).drew) (rdII_one (rdI_mono hwk hy') rfl)) (by omega) (by simp) q3)
      have hE : (turnZ (fldD f.parts (turnZ [y] n) (dirsL vs n) 1) 1)[0]? = some (derAtL f y vs) := by
        rw [turnZ_get _ (by omega), fldD_dirs f3 F5.out, derAtL, HDA.out, if_pos hall, F1.out]
        rfl
      have hth : hdL (turnZ [y] n) = 1 := by rw [hdL_turn (by omega)]; rfl
      have hdl : (fldD f.parts (turnZ [y] n) (dirsL vs n) 1).length = n := by simp [fldD, F2.out]
      have hdrow : ∀ z ∈ fldD f.parts (turnZ [y] n) (dirsL vs n) 1, z.length = 1 := fun z hz => by
        rw [fldD_dirs f3 F5.out] at hz
        rw [fldE_row z hz, hth]
      have HE := Lib.hid hE
      have HDL := Lib.hid hdl
      have HDR := Lib.hid hdrow
      have HAT := Lib.hid (dirs_ok hallT)
      have TOK := Lib.hid (turn_ok F6.out)
      have HAL := Lib.hid hal'
      have HWK := Lib.hid hwk
      have HFK := Lib.hid (show RdFld wk (.agg #[.int .i64 (n : Int), .slice adp lenp capp]) f from ⟨_, by rw [F1.out], hI, rdMss_mono hwk hp'⟩)
      have HDLL := Lib.hid (show (dirsL vs n).length ≤ 8 by omega)
      clear ho hf hall hallT hE hth hdl hdrow hal' q3 htl hwk
      go_wp2
      go_region_law (go_simp; first | (go_at_call 19; refine (J1.out).mono ?_; rintro e wa ⟨p1, fp1, rfl, hop1, hfp1, hba⟩; have hra := hbY.trans (hba.mono hbY.size); have hd0b := cell_below hra hd0k; have hd1b := cell_below hra hd1k) | (go_at_call 21; have A1 := fieldAlong_any _ _ (.slice ada la capa) f (turnZ [y] n) (dirsL vs n) n 1 _ (rdFld_mono hra HFK.out) (ownII_rd hop1) (rdIII_mono hra HAL.out) F2.out F5.out f3 f4 (Nat.le_refl _) (by omega) (turnZ_len _ _) TOK.out HDLL.out HAT.out; (with_reducible refine A1.mono ?_); rintro e wb ⟨p2, fp2, rfl, hop2, hfp2, hbb⟩) | (go_at_call 20; have A2 := points_at _ (fldD f.parts (turnZ [y] n) (dirsL vs n) 1) 1 1 _ rfl (ownII_rd hop2) (by omega) (by rw [HDL.out]; omega) HDR.out; (with_reducible refine A2.mono ?_); rintro e wc ⟨p3, fp3, rfl, hop3, hfp3, hbc⟩; obtain ⟨ad9, l9, c9, rfl, _, _, _, _⟩ := rdS_open (ownII_rd hop3); obtain ⟨b9, u9, f9, rfl, hl9, hc9, ho9, hsub9⟩ := ownII_rowD hop3 HE.out; obtain ⟨ad8, l8, c8, rfl, _, _, _, _, _, _⟩ := ownI_open ho9; have hl9i : (0 : Int) < l9 := by omega))
      all_goals (
        have hrc := hra.trans ((hbb.trans (hbc.mono hbb.size)).mono hra.size)
        have hrw := HWK.out.trans (hrc.mono HWK.out.size)
        have hn3 : ∀ b ∈ f9, w.heap.size ≤ b := fun b hb' => by { have := hfp3 b (hsub9 b hb'); have := hbb.size; have := hra.size; have := HWK.out.size; omega }
        have HO3 := Lib.hid ho9
        have HRW := Lib.hid hrw
        have HN3 := Lib.hid hn3
        clear hop1 hop2 hop3 hba hbb hbc hra hrc hrw A1 A2 hfp1 hfp2 hfp3 hn3 hd0b hd1b ho9 hsub9
        go_wp2
        go_ret
        exact ⟨_, f9, rfl, HO3.out, HN3.out, HRW.out⟩)
    have hkl : ((dirsL vs n).take k).length = k := by rw [List.length_take]; omega
    obtain ⟨us, fs, hown, hone, hels, rfl, hnd⟩ := ho
    have HOWN := Lib.hid hown
    rw [hkl] at hown
    obtain ⟨adu, capu, rfl, hluc, hcum, _⟩ := row_open hown
    have HNU := Lib.hid hown
    have HONE := Lib.hid hone
    have HELS := Lib.hid hels
    have HND := Lib.hid hnd
    have HF := Lib.hid hf
    have HKL := Lib.hid hkl
    obtain ⟨b5, o5, ad5, l5, c5, v, rfl, hvx, hcv, h51, h52, h53, h54, _⟩ := rdII_get (rdII_mono hwk hv') hlt
    obtain ⟨wk1, hwk1⟩ : ∃ W, W = wk.alloc (.cells #[.slice ad5 l5 c5] 24) := ⟨_, rfl⟩
    have hbk1 : Below wk.heap.size wk wk1 := hwk1 ▸ (Below.refl _ _).alloc (Nat.le_refl _) _
    have hr1 : RdII wk1 (.slice (some ⟨wk.heap.size, 0, none⟩) 1 1) [v] := rdII_one h54 hwk1
    have hd0A := cell_below ((Below.refl wk.heap.size wk).alloc (Nat.le_refl _) (.cells #[.slice ad5 l5 c5] 24)) hd0k
    have hd0k1 := cell_below hbk1 hd0k
    have HWK1 := Lib.hid hwk1
    have HB := Lib.hid hb
    cases hpv : pathOkB [v] n with
    | false =>
      have HN := Lib.hid (HNONE.out wk1 (hwk.trans (hbk1.mono hwk.size)) (by rw [HDA.out]; exact all_false hvx hpv))
      clear hown hone hels hnd hf hkl htl h51 h54 hwk1 hb hall hvx
      go_wp2_with fail
      rw [← HWK1.out]
      refine (pathOk_lit hr1 hpv).mono ?_
      rintro e w' ⟨rfl, rfl⟩
      go_wp2
      go_ret
      exact HN.out
    | true =>
      obtain ⟨wk2, hwk2⟩ : ∃ W, W = wk1.alloc (.cells #[.slice ad5 l5 c5] 24) := ⟨_, rfl⟩
      have hd0B := cell_below ((Below.refl wk1.heap.size wk1).alloc (Nat.le_refl _) (.cells #[.slice ad5 l5 c5] 24)) hd0k1
      have hbk2 : Below wk.heap.size wk wk2 := hwk2 ▸ hbk1.alloc hbk1.size _
      have hr2 : RdII wk2 (.slice (some ⟨wk1.heap.size, 0, none⟩) 1 1) [v] := rdII_one (rdI_mono hbk1 h54) hwk2
      have HWK2 := Lib.hid hwk2
      obtain ⟨_, _, q3, _⟩ := pathOk_facts hpv
      have J1 := Lib.hid (jets_any _ [v] n wk2 hr2 (by omega) (by simp) q3)
      have hsn : (dirsL vs n).take (k + 1) = (dirsL vs n).take k ++ [turnZ [v] n] := take_snoc (by simp [dirsL, hvx])
      have HSN := Lib.hid hsn
      have HALL := Lib.hid (all_snoc hvx hall hpv)
      have HBK2 := Lib.hid hbk2
      clear hown hone hels hnd hf hkl htl h51 h54 hwk1 hb hall hvx hwk2 hr2 q3 hsn hbk2
      go_wp2_with fail
      rw [← HWK1.out]
      refine (pathOk_lit hr1 hpv).mono ?_
      rintro e w' ⟨rfl, rfl⟩
      go_wp2_with fail
      rw [← HWK2.out]
      refine (J1.out).mono ?_
      rintro e wa ⟨p1, fp1, rfl, hop1, hfp1, hba⟩
      obtain ⟨adq, lq, capq, rfl, _, _, _, _⟩ := rdS_open (ownII_rd hop1)
      have hwa := HBK2.out.trans (hba.mono HBK2.out.size)
      have hf2 : ∀ b ∈ fp1, wk.heap.size ≤ b := fun b hb => by { have := hfp1 b hb; have := HBK2.out.size; omega }
      have hal : Below wa.heap.size wa (wa.alloc (.cells #[.slice adq lq capq] 47)) := (Below.refl _ _).alloc (Nat.le_refl _) _
      have HNQ := Lib.hid (ownsRow_only HNU.out (Only.of_below (fp := []) hwa) (by simp))
      have HS := Lib.hid (fun (w2 : World) (gg capn : Nat) (hown1 : w2.ownsRow 0 47 1 (.slice (some ⟨gg, 0, none⟩) (k + 1) capn) (k + 1) (us.flatten ++ [.slice adq lq capq]))
          (hgrow : (wa.alloc (.cells #[.slice adq lq capq] 47)).grownBy w2 (Value.slice adu k capu).ownBlock) (hat : (Value.slice adu k capu).ownBlock = some gg ∨ gg = wa.heap.size + 1) =>
        ownIII_push (W := w1) HONE.out HELS.out HND.out HOWN.out HKL.out hop1 hf2 HF.out HB.out hwa hal hown1 hgrow (fun b hb => by
          simp [Value.ownBlock] at hb
          subst hb
          rcases hat with hat | hat
          · left; exact hat
          · right; rw [hat]; simp))
      clear hop1 hal hfp1 hba hf2 hwa
      go_wp2_with (first | (at_builtin; refine wpList_append_lies _ rfl _ _ _ rfl 0 47 j2 _ 1 24 Try.underlying45 hj2 hw0 hw1 hw2 rfl (by omega) (.slice adu k capu) k _ (by rfl) (HNQ.out.alloc _) ⟨wa.heap.size, 0, none⟩ 1 1 [.slice adq lq capq] (by rfl) (by rfl) (World.news_of_block (cs := #[.slice adq lq capq]) (t := 47) (fr := (0, 0)) (heap_alloc_new wa _)) (by simp [Value.oneCell']) (by omega) (by unfold maxLen; omega) (by omega) (by simp) (wa.heap.size + 1) (by simp) ?_; intro gg capn w2 hown1 hgrow hat hlt1; obtain ⟨f', hP1, hP2, hP3⟩ := HS.out w2 gg capn hown1 hgrow hat; have HPP := Lib.hid hP1))
      all_goals (
        go_roundw
        case rel => exact ⟨k + 1, f', by omega, by go_num, by rw [HSN.out]; exact HPP.out, hP2, hP3, HALL.out⟩
        case measure => simp [intOf]; omega)

end Go.Proofs.Ytbcjhpgkodeoeaa
