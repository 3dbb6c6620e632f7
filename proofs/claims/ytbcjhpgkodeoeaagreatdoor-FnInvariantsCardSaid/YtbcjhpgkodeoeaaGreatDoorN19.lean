/- The texts DrwV, DrwC, DrwI, TxtN, Join, FmtL, FmtP, FmtW, FmtS, FmtF, DrwB in one: each says at its head what it proves. Conditions: as said there. -/
import Derived.Lib.MinMax
import Derived.Lib.SlBytesRow
import Derived.Laws.IdiomStrings
import Derived.Shelf.Strings.OnBuilder
import Derived.Lib.Join
import Derived.Deep.AppendLies
import Derived.Deep.RegionLaw
import Derived.Test.YtbcjhpgkodeoeaaGreatDoorN14
import Derived.Test.YtbcjhpgkodeoeaaGreatDoorN12
import Derived.Test.YtbcjhpgkodeoeaaGreatDoorN16
import Derived.Test.YtbcjhpgkodeoeaaGreatDoorN18
import Derived.Test.YtbcjhpgkodeoeaaGreatDoorN04
import Derived.Test.YtbcjhpgkodeoeaaGreatDoorN06
import Derived.Test.YtbcjhpgkodeoeaaGreatDoorN10
set_option linter.unusedSimpArgs false
set_option linter.unusedVariables false
/- A drawn field and a polynomial that it may keep. Conditions: none. -/
namespace Go.Proofs.YtbcjhpgkodeoeaaGreatDoor
open Go.RowKit Go.Sort

/-- What a box of two cells holds. -/
structure K2 (w : World) (B : Nat) (a c : Value) : Prop where
  k0 : w.cell? ⟨B, 0, none⟩ = some a
  k1 : w.cell? ⟨B, 1, none⟩ = some c
theorem K2.only {w w' : World} {B : Nat} {a c : Value} {fp : List Nat} (h : K2 w B a c) (ho : Only fp w w') (hB : B ∉ fp) : K2 w' B a c := ⟨cell_only ho hB h.k0, cell_only ho hB h.k1⟩
theorem K2.cells {w : World} {B : Nat} {a c : Value} (h : K2 w B a c) : w.cell? ⟨B, 0, none⟩ = some a ∧ w.cell? ⟨B, 1, none⟩ = some c := ⟨h.k0, h.k1⟩
theorem K2.set2 {w : World} {B R : Nat} {a c u0 u1 : Value} (h : K2 w B a c) (hne : B ≠ R) : K2 ((w.setCell ⟨R, 0, none⟩ u0).setCell ⟨R, 1, none⟩ u1) B a c :=
  h.only (fp := [R]) (((Only.refl _ _).setCell (by simp) _).setCell (by simp) _) (by simpa using hne)

/-- Some field, some polynomial. -/
def DrawsK (w : World) : Ending → World → Prop := fun e w' => ∃ (vM vh : Value) (f : FldZ) (h : List MonZ), e = .returned (.tuple #[.agg #[.int .i64 f.dim, vM], vh]) ∧ RdFld w' (.agg #[.int .i64 f.dim, vM]) f ∧ RdMs w' vh h ∧ (∀ p ∈ f.parts, ∀ m ∈ p, Fit_Mon m) ∧ (∀ m ∈ h, Fit_Mon m) ∧ Below w.heap.size w w'
set_option maxRecDepth 100000 in
set_option maxHeartbeats 3200000 in
theorem drawKeeps_any (v : Value) (bs : List Int) (w : World) (h : RdB w v bs) : Calls Tryz.prog 18 #[v] w (DrawsK w) := by
  obtain ⟨adc, lc, cc, rfl, _, _, _, h'⟩ := rdS_open h
  obtain ⟨W0, hW0⟩ : ∃ W, W = w.alloc (.cells #[.int .i64 0, .slice none 0 0] 30) := ⟨_, rfl⟩
  have hb0 : Below w.heap.size w W0 := hW0 ▸ (Below.refl _ _).alloc (Nat.le_refl _) _
  have HY0 := Lib.hid (show B2 W0 w.heap.size from hW0 ▸ B2.new w (.int .i64 0) (.slice none 0 0) 30)
  have hs0 : W0.heap.size = w.heap.size + 1 := by rw [hW0]; simp
  have HNE := Lib.hid (new_any _ bs W0 (rdS_mono (w := w) (w' := W0) (El := ElB) (fun _ _ h => h) hb0 h'))
  have HW0 := Lib.hid hW0
  have HB0 := Lib.hid hb0
  have HS0 := Lib.hid hs0
  clear h h' hW0 hb0 hs0
  go_enter Tryz.func18, Tryz.ntmps18
  go_wp2_with fail
  rw [← HW0.out]
  refine HNE.out.mono ?_
  rintro e w1 ⟨g, rfl, hg, hcu, hb1⟩
  have HB1 := Lib.hid (HB0.out.trans (hb1.mono HB0.out.size))
  have HY1 := Lib.hid (HY0.out.only (fp := []) (Only.of_below hb1) (by simp))
  have hg0 : w.heap.size ≠ g := by have := HS0.out; omega
  have hgl := hcu.lt
  go_wp2_with fail
  refine (once_any g 3 3 rfl (by omega) (by omega) w1 hcu).mono ?_
  rintro e w2 ⟨b, rfl, hd2⟩
  have HY2 := Lib.hid (HY1.out.only hd2.only (by simpa using hg0))
  have HD2 := Lib.hid hd2
  clear hd2
  cases b with
  | true =>
    go_wp2_with fail
    refine (anyField_any g w2 HD2.out.cur).mono ?_
    rintro e w3 ⟨vf, f, rfl, ⟨fp, hof, hfp⟩, hsm, hd3⟩
    obtain ⟨vM, rfl, hI, hM⟩ := hof
    obtain ⟨adf, lf, cf, rfl⟩ := ownMss_slice hM
    obtain ⟨w4, hw4⟩ : ∃ W, W = w3.alloc (.cells #[.int .i64 f.dim, .slice adf lf cf] 30) := ⟨_, rfl⟩
    have hal : Below w3.heap.size w3 w4 := hw4 ▸ (Below.refl _ _).alloc (Nat.le_refl _) _
    have hdr : Below w4.heap.size w4 w4.drew := (Below.refl _ _).drew
    have hs0' := HS0.out
    have h23 := hd3.only.size
    have h12 := HD2.out.only.size
    have hgl1 := hcu.lt
    have hr3 : w.heap.size < w3.heap.size := by omega
    have hgb3 : g < w3.heap.size := by omega
    have hne : w3.heap.size ≠ w.heap.size := by omega
    have HYD := Lib.hid ((HY2.out.only hd3.only (by simpa using hg0)).only (Only.of_below (fp := []) (hal.trans (hdr.mono hal.size))) (by simp))
    have HKD := Lib.hid (K2.only (show K2 w4 w3.heap.size (.int .i64 f.dim) (.slice adf lf cf) from by rw [hw4]; exact ⟨by simp, by simp⟩) (Only.of_below (fp := []) hdr) (by simp))
    have HDD := Lib.hid (((HD2.out.trans hd3).below hal).below hdr)
    obtain ⟨n, hn, hn1, hn6⟩ : ∃ n : Nat, (if 1 < f.dim then f.dim else 1) = (n : Int) ∧ 1 ≤ n ∧ n ≤ 6 := by
      have h1 := hsm.1
      have h2 := hsm.2.1
      refine ⟨(if 1 < f.dim then f.dim else 1).toNat, ?_, ?_, ?_⟩ <;> split <;> omega
    have hmx : max 1 f.dim = (n : Int) := by rw [← hn]; split <;> omega
    have HM1 := Lib.hid (monomials_any g n 3 3 n 3 3 rfl rfl rfl hn1 hn6 (by omega) (by omega) w4.drew HDD.out.cur)
    have HOM := Lib.hid (ownMss_only (ownMss_only hM (Only.of_below (fp := []) hal) (by simp)) (Only.of_below (fp := []) hdr) (by simp))
    have HII := Lib.hid hI
    have HSM := Lib.hid hsm
    have HFP := Lib.hid hfp
    have HFL := Lib.hid (ownMss_lt hM)
    have HSZ := Lib.hid (show w3.heap.size < w4.drew.heap.size from by show w3.heap.size < w4.heap.size; rw [hw4]; simp)
    have HG2 := Lib.hid (show g < w2.heap.size ∧ w.heap.size < w2.heap.size from by omega)
    have HW4 := Lib.hid hw4
    clear hI hM hw4 hal hdr hfp hsm hd3
    go_wp2
    rw [← HW4.out]
    go_region_held3 (fun w' => w'.cell? ⟨w3.heap.size, 0, none⟩ = some (.int .i64 f.dim) ∧ w'.cell? ⟨w3.heap.size, 1, none⟩ = some (.slice adf lf cf)) (first | with_reducible exact HKD.out.cells | with_reducible exact HKA.out.cells | with_reducible exact (HKA.out.set2 hne).cells) (first | (go_at_call 41; (with_reducible refine (HM1.out).mono ?_); rintro e wa ⟨vh, Z, rfl, hp, hZ⟩; have HKA := Lib.hid (HKD.out.only hp.drawn.only (by simp; omega)); obtain ⟨⟨y0, hy0⟩, ⟨y1, hy1⟩, hz0, hz1⟩ := HYD.out.only hp.drawn.only (by simp; omega); have HPA := Lib.hid hp; clear hp))
    all_goals (
      go_wp2
      refine bodyPost_ret (v := .tuple #[.agg #[.int .i64 f.dim, .slice adf lf cf], vh]) (by simp [results, Tryz.results18, go_sem, hy0, hy1]) rfl ?_
      have hO : Only [w.heap.size] wa ((wa.setCell ⟨w.heap.size, 0, none⟩ (.int .i64 f.dim)).setCell ⟨w.heap.size, 1, none⟩ (.slice adf lf cf)) := ((Only.refl _ _).setCell (by simp) _).setCell (by simp) _
      have hfit : ∀ m ∈ Z.map monS, Fit_Mon m := fun m hm => by
        obtain ⟨z, hz, rfl⟩ := List.mem_map.1 hm
        have := (HPA.out.mons z hz).1
        unfold Fit_Mon
        omega
      have hfitF : ∀ p ∈ f.parts, ∀ m ∈ p, Fit_Mon m := fun p hp m hm => by
        have := (HSM.out.2.2.2 p hp).2 m hm
        unfold Fit_Mon
        omega
      have hD := HDD.out.trans HPA.out.drawn
      have hs4 : w3.heap.size < w4.drew.heap.size := HSZ.out
      refine ⟨_, vh, f, Z.map monS, rfl, ⟨_, rfl, HII.out, ownMss_rd (ownMss_only (ownMss_only HOM.out HPA.out.drawn.only (fun b hb hm => by have := HFP.out b hb; have := HG2.out; simp at hm; omega)) hO (fun b hb hm => by have := HFP.out b hb; have := HG2.out; simp at hm; omega))⟩, ownMs_rd (ownMs_only HPA.out.own hO (fun b hb hm => by have := HPA.out.new b hb; simp at hm; omega)), hfitF, hfit, ?_⟩
      have hb1' := HB1.out.trans (hD.only.below HB1.out.size (by intro b hb; rw [List.mem_singleton.1 hb]; have := HS0.out; omega))
      exact hb1'.trans (hO.below hb1'.size (by intro b hb; rw [List.mem_singleton.1 hb]; exact Nat.le_refl _)))
  | false =>
  go_wp2_with fail
  refine (once_any g 2 2 rfl (by omega) (by omega) w2 HD2.out.cur).mono ?_
  rintro e w3 ⟨b, rfl, hd3⟩
  have HY3 := Lib.hid (HY2.out.only hd3.only (by simpa using hg0))
  have HD3 := Lib.hid (HD2.out.trans hd3)
  have hs23 := HD3.out.only.size
  clear hd3 HY2 HD2
  cases b with
  | true =>
    go_wp2_with fail
    refine (monomials_any g 2 3 4 2 3 4 rfl rfl rfl (by omega) (by omega) (by omega) (by omega) w3 HD3.out.cur).mono ?_
    rintro e w4 ⟨vh, Z, rfl, hp, hZ⟩
    have hgl3 := HD3.out.cur.lt
    have hfit : ∀ m ∈ Z.map monS, Fit_Mon m := fun m hm => by
      obtain ⟨z, hz, rfl⟩ := List.mem_map.1 hm
      have := (hp.mons z hz).1
      unfold Fit_Mon
      omega
    have hlt4 := ownMs_lt hp.own
    have HSH := Lib.hid (sHam_any vh (Z.map monS) 2 w4 (ownMs_rd hp.own) ⟨by omega, by omega⟩)
    have HY4 := Lib.hid (HY3.out.only hp.drawn.only (by simpa using hg0))
    have HD4 := Lib.hid (HD3.out.trans hp.drawn)
    have HP := Lib.hid hp
    have HFT := Lib.hid hfit
    clear hp hfit hlt4
    go_wp2_with fail
    refine HSH.out.mono ?_
    rintro e w5 ⟨vf, ff, rfl, ⟨vM, rfl, hI, hM⟩, hff, hb5⟩
    obtain ⟨adf, lf, cf, rfl⟩ := ownMss_slice hM
    obtain ⟨ff0, hff0⟩ : ∃ F, F = hamF (Z.map monS) 2 := ⟨_, rfl⟩
    have hfitF : ∀ p ∈ ff0.parts, ∀ m ∈ p, Fit_Mon m := fun p hp m hm => by
      rw [hff0] at hp
      unfold hamF at hp
      split at hp
      · have hpl : ∀ m ∈ Z.map monS, m.pows.length = 2 := fun m hm => by
          obtain ⟨z, hz, rfl⟩ := List.mem_map.1 hm
          exact (HP.out.mons z hz).1
        have he : hamP ((2 : Int).toNat / 2) (Z.map monS) = [partL 1 1 (Z.map monS), partL 0 (-1) (Z.map monS)] := rfl
        simp only [he, List.mem_cons, List.not_mem_nil, or_false] at hp
        unfold Fit_Mon
        rcases hp with rfl | rfl
        · rw [partL_pows (n := 2) hpl m hm]; omega
        · rw [partL_pows (n := 2) hpl m hm]; omega
      · cases hp
    rw [← hff0] at hI hM ⊢
    have hy := (HY4.out.only (fp := []) (Only.of_below hb5) (by simp)).al (.cells #[.int .i64 ff0.dim, .slice adf lf cf] 30)
    obtain ⟨⟨y0, hy0⟩, ⟨y1, hy1⟩, hz0, hz1⟩ := hy
    have hal : Below w5.heap.size w5 (w5.alloc (.cells #[.int .i64 ff0.dim, .slice adf lf cf] 30)) := (Below.refl _ _).alloc (Nat.le_refl _) _
    have HM5 := Lib.hid (ownMss_only hM (Only.of_below (fp := []) hal) (by simp))
    have HB5 := Lib.hid (hb5.trans (hal.mono hb5.size))
    have HFF := Lib.hid hff
    have HIF := Lib.hid hI
    have HFIT2 := Lib.hid hfitF
    have hws3 : w.heap.size < w3.heap.size := by have := HB1.out.size; have := HD3.out.only.size; have := HS0.out; have := hgl; omega
    have hws : w.heap.size < w4.heap.size := by have := HB1.out.size; have := HD4.out.only.size; have := HS0.out; have := hgl; omega
    clear hM hal hb5 hff hI hff0 hfitF
    go_wp2
    refine bodyPost_ret (v := .tuple #[.agg #[.int .i64 ff0.dim, .slice adf lf cf], vh]) (by simp [results, Tryz.results18, go_sem, hy0, hy1]) rfl ?_
    have hO : Only [w.heap.size] (w5.alloc (.cells #[.int .i64 ff0.dim, .slice adf lf cf] 30)) (((w5.alloc (.cells #[.int .i64 ff0.dim, .slice adf lf cf] 30)).setCell ⟨w.heap.size, 0, none⟩ (.int .i64 ff0.dim)).setCell ⟨w.heap.size, 1, none⟩ (.slice adf lf cf)) := ((Only.refl _ _).setCell (by simp) _).setCell (by simp) _
    refine ⟨_, vh, ff0, Z.map monS, rfl, ⟨_, rfl, HIF.out, ownMss_rd (ownMss_only HM5.out hO (fun b hb hm => by have := HFF.out b hb; simp at hm; omega))⟩, ownMs_rd (ownMs_only (ownMs_only HP.out.own (Only.of_below (fp := []) HB5.out) (by simp)) hO (fun b hb hm => by have := HP.out.new b hb; simp at hm; omega)), HFIT2.out, HFT.out, ?_⟩
    have hb1' := HB1.out.trans (HD4.out.only.below HB1.out.size (by intro b hb; rw [List.mem_singleton.1 hb]; have := HS0.out; omega))
    have hb2' := hb1'.trans (HB5.out.mono hb1'.size)
    exact hb2'.trans (hO.below hb2'.size (by intro b hb; rw [List.mem_singleton.1 hb]; exact Nat.le_refl _))
  | false =>
    go_wp2_with fail
    refine (num_any g w3 HD3.out.cur).mono ?_
    rintro e w4 ⟨x, rfl, hx0, hx1, hd4⟩
    have HY4 := Lib.hid (HY3.out.only hd4.only (by simpa using hg0))
    have HD4 := Lib.hid (HD3.out.trans hd4)
    have HR := Lib.hid (sRotor_any 1 x (-2) w4 ⟨by omega, by omega⟩ ⟨by omega, by omega⟩ ⟨by omega, by omega⟩)
    clear hd4 HY3 HD3
    go_wp2_with fail
    refine HR.out.mono ?_
    rintro e w5 ⟨vf, ff, rfl, ⟨vM, rfl, hI, hM⟩, hff, hb5⟩
    obtain ⟨adf, lf, cf, rfl⟩ := ownMss_slice hM
    obtain ⟨y9, hy9⟩ : ∃ y, fracZ 1 2 = y := ⟨_, rfl⟩
    obtain ⟨F, hF⟩ : ∃ F, F = rotF 1 x (-2) := ⟨_, rfl⟩
    rw [← hF] at hI hM ⊢
    have HFE := Lib.hid hF
    clear hF
    have hy := (((((HY4.out.only (fp := []) (Only.of_below hb5) (by simp)).al (.cells #[.int .i64 F.dim, .slice adf lf cf] 30)).al (.cells #[.int .i64 2, .int .i64 0, .int .i64 0] 3)).al (.cells #[.int .i64 0, .int .i64 0, .int .i64 2] 3)).al (.cells #[.int .i64 1, .slice (some ⟨w5.heap.size + 1, 0, none⟩) 3 3, .int .i64 y9, .slice (some ⟨w5.heap.size + 1 + 1, 0, none⟩) 3 3] 56))
    obtain ⟨⟨y0, hy0⟩, ⟨y1, hy1⟩, hz0, hz1⟩ := hy
    go_wp2_with (first | (go_at_call 75; ((with_reducible refine (sFraction_eq hy9 _).mono ?_); rintro e w' ⟨rfl, rfl⟩)))
    refine bodyPost_ret (v := .tuple #[.agg #[.int .i64 F.dim, .slice adf lf cf], .slice (some ⟨w5.heap.size + 1 + 1 + 1, 0, none⟩) 2 2]) (by simp [results, Tryz.results18, go_sem, hy0, hy1]) rfl ?_
    have hc9 : I64 y9 := numZ_i64 (hy9 ▸ fracZ_bd _ _)
    obtain ⟨A1, hA1⟩ : ∃ W, W = w5.alloc (.cells #[.int .i64 F.dim, .slice adf lf cf] 30) := ⟨_, rfl⟩
    rw [← hA1]
    have s1 : A1.heap.size = w5.heap.size + 1 := by rw [hA1]; simp
    have b1 : Below w5.heap.size w5 A1 := hA1 ▸ (Below.refl _ _).alloc (Nat.le_refl _) _
    have o2 := lit_own (e := 3) A1 [2, 0, 0] (fun x hx => by simp at hx; rcases hx with rfl | rfl <;> exact ⟨by decide, by decide⟩) (by simp) #[.int .i64 2, .int .i64 0, .int .i64 0] rfl 3 rfl
    obtain ⟨A2, hA2⟩ : ∃ W, W = A1.alloc (.cells #[.int .i64 2, .int .i64 0, .int .i64 0] 3) := ⟨_, rfl⟩
    rw [← hA2] at o2 ⊢
    have s2 : A2.heap.size = w5.heap.size + 1 + 1 := by rw [hA2, ← s1]; simp
    have b2 : Below A1.heap.size A1 A2 := hA2 ▸ (Below.refl _ _).alloc (Nat.le_refl _) _
    have o3 := lit_own (e := 3) A2 [0, 0, 2] (fun x hx => by simp at hx; rcases hx with rfl | rfl <;> exact ⟨by decide, by decide⟩) (by simp) #[.int .i64 0, .int .i64 0, .int .i64 2] rfl 3 rfl
    obtain ⟨A3, hA3⟩ : ∃ W, W = A2.alloc (.cells #[.int .i64 0, .int .i64 0, .int .i64 2] 3) := ⟨_, rfl⟩
    rw [← hA3] at o3 ⊢
    have s3 : A3.heap.size = w5.heap.size + 1 + 1 + 1 := by rw [hA3, ← s2]; simp
    have b3 : Below A2.heap.size A2 A3 := hA3 ▸ (Below.refl _ _).alloc (Nat.le_refl _) _
    have o2' := ownI_only o2 (Only.of_below (fp := []) b3) (by simp)
    rw [s1] at o2'
    rw [s2] at o3
    have hL := lit_mons (e2 := 56) (e := 3) (w := A3) (X := [⟨1, some ⟨w5.heap.size + 1, 0, none⟩, 3, 3, [2, 0, 0], [w5.heap.size + 1]⟩, ⟨y9, some ⟨w5.heap.size + 1 + 1, 0, none⟩, 3, 3, [0, 0, 2], [w5.heap.size + 1 + 1]⟩])
      #[.int .i64 1, .slice (some ⟨w5.heap.size + 1, 0, none⟩) 3 3, .int .i64 y9, .slice (some ⟨w5.heap.size + 1 + 1, 0, none⟩) 3 3] rfl 2 rfl (by omega)
      (fun z hz => by
        simp only [List.mem_cons, List.not_mem_nil, or_false] at hz
        rcases hz with rfl | rfl
        · exact ⟨⟨by show (-9223372036854775808 : Int) ≤ 1; omega, by show (1 : Int) ≤ 9223372036854775807; omega⟩, o2'⟩
        · exact ⟨hc9, o3⟩) (by simp)
    obtain ⟨A4, hA4⟩ : ∃ W, W = A3.alloc (.cells #[.int .i64 1, .slice (some ⟨w5.heap.size + 1, 0, none⟩) 3 3, .int .i64 y9, .slice (some ⟨w5.heap.size + 1 + 1, 0, none⟩) 3 3] 56) := ⟨_, rfl⟩
    rw [← hA4] at hL ⊢
    have b4 : Below A3.heap.size A3 A4 := hA4 ▸ (Below.refl _ _).alloc (Nat.le_refl _) _
    have b14 : Below w5.heap.size w5 A4 := b1.trans ((b2.trans ((b3.trans (b4.mono b3.size)).mono b2.size)).mono b1.size)
    rw [s3] at hL
    have hws : w.heap.size < w4.heap.size := by have := HB1.out.size; have := HD4.out.only.size; have := HS0.out; have := hgl; omega
    have h45 := hb5.size
    have hO : Only [w.heap.size] A4 ((A4.setCell ⟨w.heap.size, 0, none⟩ (.int .i64 F.dim)).setCell ⟨w.heap.size, 1, none⟩ (.slice adf lf cf)) := ((Only.refl _ _).setCell (by simp) _).setCell (by simp) _
    refine ⟨_, _, F, _, rfl, ⟨_, rfl, hI, ownMss_rd (ownMss_only (ownMss_only hM (Only.of_below (fp := []) b14) (by simp)) hO (fun b hb hm => by have := hff b hb; simp at hm; omega))⟩, ownMs_rd (ownMs_only hL hO (fun b hb hm => by simp at hb hm; omega)), ?_, ?_, ?_⟩
    · intro p hp m hm
      rw [HFE.out] at hp
      have hr : ∀ k y, ∀ m ∈ rotM k y, m.pows.length = 3 := fun k y m hm => by
        unfold rotM at hm
        split at hm
        · cases hm
        · rw [List.mem_singleton] at hm; subst hm; simp
      simp only [rotF, List.mem_cons, List.not_mem_nil, or_false] at hp
      unfold Fit_Mon
      rcases hp with rfl | rfl | rfl
      · rw [hr 0 1 m hm]; omega
      · rw [hr 1 x m hm]; omega
      · rw [hr 2 (-2) m hm]; omega
    · intro m hm
      simp only [List.map_cons, List.map_nil, List.mem_cons, List.not_mem_nil, or_false] at hm
      unfold Fit_Mon
      rcases hm with rfl | rfl <;> (show (3 : Nat) ≤ 1048576; omega)
    · have hb1' := HB1.out.trans (HD4.out.only.below HB1.out.size (by intro b hb; rw [List.mem_singleton.1 hb]; have := HS0.out; omega))
      have hb2' := hb1'.trans ((hb5.trans (b14.mono hb5.size)).mono hb1'.size)
      exact hb2'.trans (hO.below hb2'.size (by intro b hb; rw [List.mem_singleton.1 hb]; exact Nat.le_refl _))
end Go.Proofs.YtbcjhpgkodeoeaaGreatDoor

/- A text that is drawn out of another one: a byte more, less or changed. Conditions: a cursor, a short text. -/
namespace Go.Proofs.YtbcjhpgkodeoeaaGreatDoor
open Go.RowKit

/-- The first cells hold short texts. -/
def Str1At (w : World) (b n : Nat) : Prop := ∀ i, i < n → ∃ s : ByteArray, w.cell? ⟨b, i, none⟩ = some (.string s) ∧ s.size ≤ 1
theorem Str1At.only {w w' : World} {b n : Nat} {fp : List Nat} (h : Str1At w b n) (ho : Only fp w w') (hb : b ∉ fp) : Str1At w' b n := fun i hi => by
  obtain ⟨s, hs, h1⟩ := h i hi
  exact ⟨s, cell_only ho hb hs, h1⟩
end Go.Proofs.YtbcjhpgkodeoeaaGreatDoor

/- Drawn integers. Conditions: a cursor. -/
namespace Go.Proofs.YtbcjhpgkodeoeaaGreatDoor
open Go.RowKit

/-- An integer is drawn. -/
def DrawsInt (g : Nat) (w : World) : Ending → World → Prop := fun e w' => ∃ x : Int, e = .returned (.int .i64 x) ∧ I64 x ∧ Drawn g w w'
set_option maxHeartbeats 1600000 in
theorem pickInt_any (g n : Nat) (v : Value) (xs : List Int) (w : World) (hc : Cur w g) (h : RdI w v xs) (hl : xs.length = n) (h1 : 1 ≤ n) (hn : n ≤ 1000) (hap : ∀ w', Only [g] w w' → RdI w' v xs) :
    Calls Tryz.prog 130 #[.pointer (some ⟨g, 0, none⟩), v] w (DrawsInt g w) := by
  obtain ⟨ad, len, cap, rfl, hll, _, _, _⟩ := rdS_open h
  obtain rfl : len = n := by omega
  have HN := Lib.hid (below_any g len len rfl h1 (by omega) w hc)
  have HAP := Lib.hid hap
  clear hap h hll hl
  go_enter Tryz.func130, Tryz.ntmps130
  go_wp2_with fail
  refine HN.out.mono ?_
  rintro e w1 ⟨x, rfl, hx, hd⟩
  obtain ⟨b, o, z, rfl, _, hcz, hI, _⟩ := rdI_get (HAP.out w1 hd.only) hx
  have hxI : (x : Int) < len := by omega
  have HI := Lib.hid hI
  clear hI
  go_wp2
  go_ret
  exact ⟨z, rfl, HI.out, hd⟩
set_option maxRecDepth 100000 in
set_option maxHeartbeats 1600000 in
theorem int_any (g : Nat) (w : World) (hc : Cur w g) : Calls Tryz.prog 76 #[.pointer (some ⟨g, 0, none⟩)] w (DrawsInt g w) := by
  have HO := Lib.hid (once_any g 3 3 rfl (by omega) (by omega) w hc)
  have hgl := hc.lt
  go_enter Tryz.func76, Tryz.ntmps76
  go_wp2_with fail
  refine HO.out.mono ?_
  rintro e w1 ⟨b, rfl, hd⟩
  cases b with
  | false =>
    have HU := Lib.hid (num_any g w1 hd.cur)
    go_wp2_with fail
    refine HU.out.mono ?_
    rintro e w2 ⟨x, rfl, hx0, hx1, hd2⟩
    go_wp2
    go_ret
    exact ⟨x, rfl, ⟨by omega, by omega⟩, hd.trans hd2⟩
  | true =>
    obtain ⟨ds, hds⟩ : ∃ ds : List Int, ds = [-1, 0, 2, 3, 5, 6, 15, 1000000270, 1000000271, 1000000272, -1000000271, 9223372036854775807, -9223372036854775808, 1000000007, -7] := ⟨_, rfl⟩
    obtain ⟨W, hW⟩ : ∃ W, W = w1.alloc (.cells (ds.map (Value.int .i64)).toArray 3) := ⟨_, rfl⟩
    have hdI : ∀ x ∈ ds, I64 x := by
      intro x hx
      rw [hds] at hx
      simp only [List.mem_cons, List.not_mem_nil, or_false] at hx
      unfold I64
      omega
    have hal : Below w1.heap.size w1 W := hW ▸ (Below.refl _ _).alloc (Nat.le_refl _) _
    have hg1 : g < w1.heap.size := by have := hd.only.size; omega
    have hO : OwnI 3 W (.slice (some ⟨w1.heap.size, 0, none⟩) 15 15) ds [w1.heap.size] := by
      rw [hW]
      exact lit_own w1 ds hdI (by rw [hds]; simp) _ rfl 15 (by rw [hds]; rfl)
    have HD := Lib.hid (hd.below hal)
    have HP := Lib.hid (pickInt_any g 15 _ ds W (hd.below hal).cur (ownI_rd hO) (by rw [hds]; rfl) (by omega) (by omega) (fun w' ho => ownI_rd (ownI_only hO ho (by simp; omega))))
    have HW : Hid (W = w1.alloc (.cells #[.int .i64 (-1), .int .i64 0, .int .i64 2, .int .i64 3, .int .i64 5, .int .i64 6, .int .i64 15, .int .i64 1000000270, .int .i64 1000000271, .int .i64 1000000272, .int .i64 (-1000000271), .int .i64 9223372036854775807, .int .i64 (-9223372036854775808), .int .i64 1000000007, .int .i64 (-7)] 3)) := Lib.hid (by rw [hW, hds]; rfl)
    clear hW hds hal hO hdI
    go_wp2_with fail
    rw [← HW.out]
    refine HP.out.mono ?_
    rintro e w3 ⟨x, rfl, hx, hd3⟩
    have HX := Lib.hid hx
    clear hx
    go_wp2
    go_ret
    exact ⟨x, rfl, HX.out, HD.out.trans hd3⟩
end Go.Proofs.YtbcjhpgkodeoeaaGreatDoor

/- Field numbers as texts. Conditions: none. -/
namespace Go.Proofs.YtbcjhpgkodeoeaaGreatDoor
open Go.RowKit Go.Sort

/-- A fraction as a text. -/
def fracL (a b : Int) : List UInt8 := if b = 1 then decZ a else decZ a ++ 47 :: decZ b
/-- The first short fraction from a denominator on. -/
def fmtGo (n : Int) : Nat → Int → List UInt8
  | 0, _ => 35 :: decZ n
  | k + 1, b =>
    if n * b % 1000000271 ≤ 9999 then fracL (n * b % 1000000271) b
    else if 999990272 ≤ n * b % 1000000271 then fracL (n * b % 1000000271 - 1000000271) b
    else fmtGo n k (b + 1)
def fmtN (n : Int) : List UInt8 := fmtGo n 9999 1
/-- FormatNumber. -/
def fmtT (n : Int) : List UInt8 := if isNumB n = true then fmtN n else []
theorem decZ_pos {z : Int} (h : 0 ≤ z) : decZ z = decL z.toNat := by rw [decZ, if_neg (by omega)]
theorem decZ_neg {z : Int} (h : z < 0) : decZ z = 45 :: decL (-z).toNat := by rw [decZ, if_pos h]
theorem mod_step (n b : Int) : (n * (b - 1) % 1000000271 + n) % 1000000271 = n * b % 1000000271 := by
  rw [Int.emod_add_emod]
  congr 1
  rw [Int.mul_sub, Int.mul_one]
  omega

set_option maxRecDepth 100000 in
set_option maxHeartbeats 1600000 in
theorem fmtNum_any (n : Int) (w : World) : Calls Tryz.prog 90 #[.int .i64 n] w fun e w' => e = .returned (txt (fmtT n)) ∧ w = w' := by
  cases hn : isNumB n with
  | false =>
    have N1 := Lib.hid (isNumber_eq hn w)
    have HE := Lib.hid (show Value.string (ByteArray.mk #[]) = txt (fmtT n) from by rw [fmtT, hn]; rfl)
    clear hn
    go_enter Tryz.func90, Tryz.ntmps90
    go_wp2_with fail
    refine N1.out.mono ?_
    rintro e w' ⟨rfl, rfl⟩
    go_wp2
    go_ret
    exact ⟨ret_eq HE.out, rfl⟩
  | true =>
    have N1 := Lib.hid (isNumber_eq hn w)
    have HT := Lib.hid (show fmtT n = fmtN n from by rw [fmtT, hn]; rfl)
    simp only [isNumB, decide_eq_true_eq] at hn
    obtain ⟨hn0, hn1⟩ := hn
    go_enter Tryz.func90, Tryz.ntmps90
    go_wp2_with fail
    refine N1.out.mono ?_
    rintro e w' ⟨rfl, rfl⟩
    go_wp2
    go_loopw [3, 4] (fun sa sb wr => ∃ (a b : Int), sa = .int .i64 a ∧ sb = .int .i64 b ∧ 1 ≤ b ∧ b ≤ 10000 ∧ a = n * (b - 1) % 1000000271 ∧ 0 ≤ a ∧ a ≤ 1000000270 ∧ fmtN n = fmtGo n (10000 - b).toNat b ∧ w = wr) (fun _ sb _ => 10000 - (intOf sb).toNat)
    case atStart => exact ⟨0, 1, rfl, rfl, by omega, by omega, by simp, by omega, by omega, rfl, rfl⟩
    case round =>
      obtain ⟨a, b, rfl, rfl, hb1, hb2, ha, ha0, ha1, hf, rfl⟩ := hrel
      by_cases hb9 : b ≤ 9999
      · obtain ⟨a1, hst⟩ : ∃ a1, (a + n) % 1000000271 = a1 := ⟨_, rfl⟩
        have ha1' : n * b % 1000000271 = a1 := by rw [← hst, ha, mod_step]
        have hfu : fmtGo n (10000 - b).toNat b = if a1 ≤ 9999 then fracL a1 b else if 999990272 ≤ a1 then fracL (a1 - 1000000271) b else fmtGo n (10000 - (b + 1)).toNat (b + 1) := by
          rw [show (10000 - b).toNat = (10000 - (b + 1)).toNat + 1 by omega, fmtGo, ha1']
        have g0 : 0 ≤ a1 := by omega
        have g1 : a1 ≤ 1000000270 := by omega
        have hst2 := hst
        by_cases c1 : a1 ≤ 9999
        · rw [if_pos c1] at hfu
          obtain ⟨s, hs⟩ : ∃ s, s = ByteArray.mk (decL a1.toNat).toArray := ⟨_, rfl⟩
          obtain ⟨x, hx⟩ : ∃ x, x = ByteArray.mk ([] ++ decL a1.toNat).toArray := ⟨_, rfl⟩
          have hml := decL_len a1.toNat 3 (by omega)
          have hc1 : ∀ w : World, (Op.stringOp .add (ByteArray.mk #[]) s).run Tryz.prog w = .ok (.string x) w := fun w => by
            rw [hs, hx]
            exact cat_run [] (decL a1.toNat) (by simp; omega) w
          have hdz : decZ a1 = [] ++ decL a1.toNat := by rw [decZ_pos (by omega)]; rfl
          have D1 := Lib.hid (show Calls Tryz.prog 91 #[.int .i64 a1] w fun e w' => e = .returned (.string s) ∧ w = w' from by
            rw [hs]
            exact decimal_any (n := a1.toNat) (by omega) (by omega) w)
          by_cases hb : b = 1
          · subst hb
            have HR := Lib.hid (show Value.string x = txt (fmtT n) from by rw [HT.out, hf, hfu, fracL, if_pos rfl, hdz, hx]; rfl)
            clear hs hx hml hdz hf hfu ha hst ha1'
            go_wp2_with fail
            refine D1.out.mono ?_
            rintro e w' ⟨rfl, rfl⟩
            go_wp2
            go_ret
            exact ⟨ret_eq HR.out, rfl⟩
          · obtain ⟨y, hy⟩ : ∃ y, y = ByteArray.mk ([] ++ decL a1.toNat ++ [47]).toArray := ⟨_, rfl⟩
            obtain ⟨s2, hs2⟩ : ∃ s, s = ByteArray.mk (decL b.toNat).toArray := ⟨_, rfl⟩
            obtain ⟨u, hu⟩ : ∃ u, u = ByteArray.mk ([] ++ decL a1.toNat ++ [47] ++ decL b.toNat).toArray := ⟨_, rfl⟩
            have hbl := decL_len b.toNat 3 (by omega)
            have hc2 : ∀ w : World, (Op.stringOp .add x (ByteArray.mk #[47])).run Tryz.prog w = .ok (.string y) w := fun w => by
              rw [hx, hy]
              exact cat_run ([] ++ decL a1.toNat) [47] (by simp; omega) w
            have hc3 : ∀ w : World, (Op.stringOp .add y s2).run Tryz.prog w = .ok (.string u) w := fun w => by
              rw [hy, hs2, hu]
              exact cat_run ([] ++ decL a1.toNat ++ [47]) (decL b.toNat) (by simp; omega) w
            have D2 := Lib.hid (show Calls Tryz.prog 91 #[.int .i64 b] w fun e w' => e = .returned (.string s2) ∧ w = w' from by
              rw [hs2]
              exact decimal_any (n := b.toNat) (by omega) (by omega) w)
            have HR := Lib.hid (show Value.string u = txt (fmtT n) from by rw [HT.out, hf, hfu, fracL, if_neg hb, hdz, hu, decZ_pos (z := b) (by omega)]; simp [txt])
            have hb9 : (b == 1) = false := by simpa using hb
            clear hs hx hml hdz hf hfu ha hy hs2 hu hbl hb hst
            go_wp2_with fail
            refine D1.out.mono ?_
            rintro e w' ⟨rfl, rfl⟩
            go_wp2_with fail
            refine D2.out.mono ?_
            rintro e w' ⟨rfl, rfl⟩
            go_wp2
            go_ret
            exact ⟨ret_eq HR.out, rfl⟩
        · rw [if_neg c1] at hfu
          by_cases c2 : 999990272 ≤ a1
          · rw [if_pos c2] at hfu
            obtain ⟨s, hs⟩ : ∃ s, s = ByteArray.mk (decL (1000000271 - a1).toNat).toArray := ⟨_, rfl⟩
            obtain ⟨x, hx⟩ : ∃ x, x = ByteArray.mk ([45] ++ decL (1000000271 - a1).toNat).toArray := ⟨_, rfl⟩
            have hml := decL_len (1000000271 - a1).toNat 3 (by omega)
            have hc1 : ∀ w : World, (Op.stringOp .add (ByteArray.mk #[45]) s).run Tryz.prog w = .ok (.string x) w := fun w => by
              rw [hs, hx]
              exact cat_run [45] (decL (1000000271 - a1).toNat) (by simp; omega) w
            have hdz : decZ (a1 - 1000000271) = [45] ++ decL (1000000271 - a1).toNat := by rw [decZ_neg (by omega), show (-(a1 - 1000000271)).toNat = (1000000271 - a1).toNat by omega]; rfl
            have D1 := Lib.hid (show Calls Tryz.prog 91 #[.int .i64 (1000000271 - a1)] w fun e w' => e = .returned (.string s) ∧ w = w' from by
              rw [hs]
              exact decimal_any (n := (1000000271 - a1).toNat) (by omega) (by omega) w)
            by_cases hb : b = 1
            · subst hb
              have HR := Lib.hid (show Value.string x = txt (fmtT n) from by rw [HT.out, hf, hfu, fracL, if_pos rfl, hdz, hx]; rfl)
              clear hs hx hml hdz hf hfu ha hst ha1'
              go_wp2_with fail
              refine D1.out.mono ?_
              rintro e w' ⟨rfl, rfl⟩
              go_wp2
              go_ret
              exact ⟨ret_eq HR.out, rfl⟩
            · obtain ⟨y, hy⟩ : ∃ y, y = ByteArray.mk ([45] ++ decL (1000000271 - a1).toNat ++ [47]).toArray := ⟨_, rfl⟩
              obtain ⟨s2, hs2⟩ : ∃ s, s = ByteArray.mk (decL b.toNat).toArray := ⟨_, rfl⟩
              obtain ⟨u, hu⟩ : ∃ u, u = ByteArray.mk ([45] ++ decL (1000000271 - a1).toNat ++ [47] ++ decL b.toNat).toArray := ⟨_, rfl⟩
              have hbl := decL_len b.toNat 3 (by omega)
              have hc2 : ∀ w : World, (Op.stringOp .add x (ByteArray.mk #[47])).run Tryz.prog w = .ok (.string y) w := fun w => by
                rw [hx, hy]
                exact cat_run ([45] ++ decL (1000000271 - a1).toNat) [47] (by simp; omega) w
              have hc3 : ∀ w : World, (Op.stringOp .add y s2).run Tryz.prog w = .ok (.string u) w := fun w => by
                rw [hy, hs2, hu]
                exact cat_run ([45] ++ decL (1000000271 - a1).toNat ++ [47]) (decL b.toNat) (by simp; omega) w
              have D2 := Lib.hid (show Calls Tryz.prog 91 #[.int .i64 b] w fun e w' => e = .returned (.string s2) ∧ w = w' from by
                rw [hs2]
                exact decimal_any (n := b.toNat) (by omega) (by omega) w)
              have HR := Lib.hid (show Value.string u = txt (fmtT n) from by rw [HT.out, hf, hfu, fracL, if_neg hb, hdz, hu, decZ_pos (z := b) (by omega)]; simp [txt])
              have hb9 : (b == 1) = false := by simpa using hb
              clear hs hx hml hdz hf hfu ha hy hs2 hu hbl hb hst
              go_wp2_with fail
              refine D1.out.mono ?_
              rintro e w' ⟨rfl, rfl⟩
              go_wp2_with fail
              refine D2.out.mono ?_
              rintro e w' ⟨rfl, rfl⟩
              go_wp2
              go_ret
              exact ⟨ret_eq HR.out, rfl⟩
          · rw [if_neg c2] at hfu
            have HF := Lib.hid (hf.trans hfu)
            have HA := Lib.hid (show a1 = n * (b + 1 - 1) % 1000000271 from by rw [← ha1']; congr 2; omega)
            clear hf hfu ha ha1' hst
            go_wp2
            go_roundw
            case rel => exact ⟨(a + n) % 1000000271, b + 1, rfl, rfl, by omega, by omega, hst2.trans HA.out, by omega, by omega, HF.out, by first | trivial | rfl⟩
            case measure => (simp [intOf]; omega)
      · obtain rfl : b = 10000 := by omega
        have hml := decL_len n.toNat 9 (by omega)
        obtain ⟨s, hs⟩ : ∃ s, s = ByteArray.mk (decL n.toNat).toArray := ⟨_, rfl⟩
        obtain ⟨x, hx⟩ : ∃ x, x = ByteArray.mk (35 :: decL n.toNat).toArray := ⟨_, rfl⟩
        have hc1 : ∀ w : World, (Op.stringOp .add (ByteArray.mk #[35]) s).run Tryz.prog w = .ok (.string x) w := fun w => by
          rw [hs, hx]
          exact cat_run [35] (decL n.toNat) (by simp; omega) w
        have D1 := Lib.hid (show Calls Tryz.prog 91 #[.int .i64 n] w fun e w' => e = .returned (.string s) ∧ w = w' from by
          rw [hs]
          exact decimal_any (n := n.toNat) (by omega) (by omega) w)
        have HR := Lib.hid (show Value.string x = txt (fmtT n) from by rw [HT.out, hf, show ((10000 : Int) - 10000).toNat = 0 by omega, fmtGo, decZ_pos hn0, hx]; rfl)
        clear hs hx hml hf ha
        go_wp2_with fail
        refine D1.out.mono ?_
        rintro e w' ⟨rfl, rfl⟩
        go_wp2
        go_ret
        exact ⟨ret_eq HR.out, rfl⟩

end Go.Proofs.YtbcjhpgkodeoeaaGreatDoor

/- strings.Join, laid at this program, and what it returns. Conditions: a text of at most a million bytes. -/
namespace Go.Proofs.YtbcjhpgkodeoeaaGreatDoor
open Go.RowKit Go.Sort Go.Shelf

end Go.Proofs.YtbcjhpgkodeoeaaGreatDoor

/- Fields as texts, in plain lists; rows of texts. Conditions: none. -/
namespace Go.Proofs.YtbcjhpgkodeoeaaGreatDoor
open Go.RowKit Go.Sort

/-- A row of texts of the call's own. -/
structure RowT (w wr : World) (v : Value) (xs : List (List UInt8)) (n : Nat) : Prop where
  len : xs.length = n
  shape : ∃ g cap, v = .slice (some ⟨g, 0, none⟩) n cap ∧ w.heap.size ≤ g
  row : wr.ownsRow 0 9 1 v n (xs.map txt)
  below : Below w.heap.size w wr
theorem RowT.new (w : World) : RowT w (w.alloc (.cells #[] 9)) (.slice (some ⟨w.heap.size, 0, none⟩) 0 0) [] 0 :=
  ⟨rfl, ⟨_, _, rfl, Nat.le_refl _⟩, by simpa using World.ownsRow_lit (base := 0) (e := 9) (size := 1) w #[] 0 (Nat.zero_le _) (Nat.zero_le _) rfl, (Below.refl _ _).alloc (Nat.le_refl _) _⟩
theorem RowT.step {w wr wq : World} {v : Value} {xs : List (List UInt8)} {n : Nat} (h : RowT w wr v xs n) (hb : Below wr.heap.size wr wq) : RowT w wq v xs n :=
  ⟨h.len, h.shape, ownsRow_only h.row (Only.of_below (fp := []) hb) (by simp), h.below.trans (hb.mono h.below.size)⟩
theorem RowT.push {w wr wa wb : World} {xs : List (List UInt8)} {n g g2 cap capn : Nat} {y : List UInt8} (h : RowT w wr (.slice (some ⟨g, 0, none⟩) n cap) xs n) (hb : Below wr.heap.size wr wa)
    (hown : wb.ownsRow 0 9 1 (.slice (some ⟨g2, 0, none⟩) (n + 1) capn) (n + 1) (xs.map txt ++ [txt y])) (hgrow : wa.grownBy wb (some g)) (hat : g = g2 ∨ wr.heap.size ≤ g2) :
    RowT w wb (.slice (some ⟨g2, 0, none⟩) (n + 1) capn) (xs ++ [y]) (n + 1) := by
  obtain ⟨g', cap', hv, hg⟩ := h.shape
  simp only [Value.slice.injEq, Option.some.injEq, Addr.mk.injEq, and_true, true_and] at hv
  obtain ⟨rfl, rfl⟩ := hv
  have hbs := h.below.size
  have hs := hb.size
  refine ⟨by rw [List.length_append, h.len]; rfl, ⟨g2, capn, rfl, ?_⟩, by simpa using hown, (h.below.trans (hb.mono hbs)).grown hgrow (by omega) (fun b hb' => by simp at hb'; omega)⟩
  rcases hat with rfl | hat
  · exact hg
  · omega
end Go.Proofs.YtbcjhpgkodeoeaaGreatDoor

/- FormatField of the program: the joining of texts. Conditions: none. -/
namespace Go.Proofs.YtbcjhpgkodeoeaaGreatDoor
open Go.RowKit Go.Sort

end Go.Proofs.YtbcjhpgkodeoeaaGreatDoor

/- FormatField of the program: what it returns. Conditions: none. -/
namespace Go.Proofs.YtbcjhpgkodeoeaaGreatDoor
open Go.RowKit Go.Sort

end Go.Proofs.YtbcjhpgkodeoeaaGreatDoor

/- FormatField of the reference: what it returns. Conditions: none. -/
namespace Go.Proofs.YtbcjhpgkodeoeaaGreatDoor
open Go.RowKit Go.Sort

theorem toList_loop_ne (s : ByteArray) : ∀ (k i : Nat) (r : List UInt8), s.size - i ≤ k → r ≠ [] → ByteArray.toList.loop s i r ≠ []
  | 0, i, r, h, hr => by
    unfold ByteArray.toList.loop
    rw [if_neg (by omega)]
    simpa using hr
  | k + 1, i, r, h, hr => by
    unfold ByteArray.toList.loop
    by_cases hi : i < s.size
    · rw [if_pos hi]
      exact toList_loop_ne s k (i + 1) _ (by omega) (by simp)
    · rw [if_neg hi]
      simpa using hr
theorem toList_some {s : ByteArray} (h : s.data.toList ≠ []) : s.toList.isEmpty = false := by
  have h0 : 0 < s.size := by
    rcases Nat.eq_zero_or_pos s.size with h1 | h1
    · exact absurd (List.eq_nil_of_length_eq_zero (by rw [Array.length_toList]; exact h1)) h
    · exact h1
  have : s.toList ≠ [] := by
    unfold ByteArray.toList
    unfold ByteArray.toList.loop
    rw [if_pos h0]
    exact toList_loop_ne s s.size 1 _ (by omega) (by simp)
  cases hs : s.toList with
  | nil => exact absurd hs this
  | cons a b => rfl
end Go.Proofs.YtbcjhpgkodeoeaaGreatDoor

/- FormatField of the reference: what it returns. Conditions: none. -/
namespace Go.Proofs.YtbcjhpgkodeoeaaGreatDoor
open Go.RowKit Go.Sort

end Go.Proofs.YtbcjhpgkodeoeaaGreatDoor

/- A drawn text of a field, drawn integers. Conditions: none. -/
namespace Go.Proofs.YtbcjhpgkodeoeaaGreatDoor
open Go.RowKit Go.Sort

/-- Three integers. -/
def Gives3Int (w : World) : Ending → World → Prop := fun e w' => ∃ x y z : Int, e = .returned (.tuple #[.int .i64 x, .int .i64 y, .int .i64 z]) ∧ I64 x ∧ I64 y ∧ I64 z ∧ Below w.heap.size w w'
set_option maxRecDepth 100000 in
set_option maxHeartbeats 1600000 in
theorem integers_any (v : Value) (bs : List Int) (w : World) (h : RdB w v bs) : Calls Tryz.prog 19 #[v] w (Gives3Int w) := by
  obtain ⟨adc, lc, cc, rfl, _, _, _, h'⟩ := rdS_open h
  clear h
  go_enter Tryz.func19, Tryz.ntmps19
  go_wp2_with fail
  refine (new_any _ bs w h').mono ?_
  rintro e w1 ⟨g, rfl, hg, hcu, hb1⟩
  have HB1 := Lib.hid hb1
  clear h' hb1
  go_wp2_with fail
  refine (int_any g w1 hcu).mono ?_
  rintro e w2 ⟨x, rfl, hx, hd2⟩
  have HX := Lib.hid hx
  have HD2 := Lib.hid hd2
  clear hx hd2
  go_wp2_with fail
  refine (int_any g w2 HD2.out.cur).mono ?_
  rintro e w3 ⟨y, rfl, hy, hd3⟩
  have HY := Lib.hid hy
  have HD3 := Lib.hid (HD2.out.trans hd3)
  clear hy hd3
  go_wp2_with fail
  refine (int_any g w3 HD3.out.cur).mono ?_
  rintro e w4 ⟨z, rfl, hz, hd4⟩
  have HZ := Lib.hid hz
  have HD4 := Lib.hid (HD3.out.trans hd4)
  clear hz hd4
  go_wp2
  refine bodyPost_ret (v := .tuple #[.int .i64 x, .int .i64 y, .int .i64 z]) (by simp [results, Tryz.results19, go_sem]) rfl ?_
  exact ⟨x, y, z, rfl, HX.out, HY.out, HZ.out, HB1.out.trans (HD4.out.only.below HB1.out.size (by simpa using hg))⟩
end Go.Proofs.YtbcjhpgkodeoeaaGreatDoor
