/- The law FnFormKept returns true for every text of bytes, and changes nothing that was there. Conditions: the cell of a variable of the library's own holds some number. -/
import Derived.Test.YtbcjhpgkodeoeaaGreatDoorK38
import Derived.Test.YtbcjhpgkodeoeaaGreatDoorK39
import Derived.Test.YtbcjhpgkodeoeaaGreatDoorK42
import Derived.Test.YtbcjhpgkodeoeaaGreatDoorK43
import Derived.Test.YtbcjhpgkodeoeaaGreatDoorK45
import Derived.Test.YtbcjhpgkodeoeaaGreatDoorK30
import Derived.Test.YtbcjhpgkodeoeaaGreatDoorK28
import Derived.Test.YtbcjhpgkodeoeaaGreatDoorK46
import Derived.Test.YtbcjhpgkodeoeaaGreatDoorK47
set_option linter.unusedSimpArgs false
set_option linter.unusedVariables false

namespace Go.Proofs.YtbcjhpgkodeoeaaGreatDoor
open Go.ChangeShapes Go.WideShapes Go.ChangeAt Go.RowKit Go.Sort

/-- Some tableau of Gauss's. -/
def GivesG (w : World) : Ending → World → Prop := fun e w' => ∃ s, 1 ≤ s ∧ s ≤ 3 ∧ GivesT (gauT s) w e w'
theorem kno_any (k : Nat) (nm : ByteArray) (hk : (k = 0 ∧ nm = ByteArray.mk #[109, 105, 100, 100, 108, 101]) ∨ (k = 1 ∧ nm = ByteArray.mk #[103, 97, 117, 115, 115, 50]) ∨ (k = 2 ∧ nm = ByteArray.mk #[103, 97, 117, 115, 115, 51]) ∨ (k = 3 ∧ nm = ByteArray.mk #[103, 97, 117, 115, 115, 49])) (w : World) (hm : MaxCell w) : Calls Tryz.prog 10 #[.string nm] w (GivesG w) := by
  rcases hk with ⟨_, h⟩ | ⟨_, h⟩ | ⟨_, h⟩ | ⟨_, h⟩
  · exact (knoM_any nm h w hm).mono fun e w' h => ⟨1, by omega, by omega, h⟩
  · exact (knoG_any 2 (by omega) (by omega) 50 (by decide) nm h w).mono fun e w' h => ⟨2, by omega, by omega, h⟩
  · exact (knoG_any 3 (by omega) (by omega) 51 (by decide) nm h w).mono fun e w' h => ⟨3, by omega, by omega, h⟩
  · exact (knoG_any 1 (by omega) (by omega) 49 (by decide) nm h w).mono fun e w' h => ⟨1, by omega, by omega, h⟩
theorem hamB_drawn {h : List MonZ} (hc : Canon h) (hl : h.length ≤ 4) (hm : ∀ m ∈ h, MonIn 2 4 m) : hamB h 2 = true := by
  rw [hamB, show polyOkB h 2 = true from polyOk_canon (n := 2) (by omega) (by omega) hc (by omega) (fun m hm' => ⟨(hm m hm').1, (hm m hm').2.1, by have := (hm m hm').2.2; omega⟩)]
  rfl
theorem hamF_fit {h : List MonZ} (hh : hamB h 2 = true) (hm : ∀ m ∈ h, MonIn 2 4 m) : ∀ p ∈ (hamF h 2).parts, ∀ m ∈ p, Fit_Mon m := fun p hp m hm' => by
  rw [show hamF h 2 = ⟨2, [partL 1 1 h, partL 0 (-1) h]⟩ from by rw [hamF, if_pos hh]; rfl] at hp
  unfold Fit_Mon
  simp only [List.mem_cons, List.not_mem_nil, or_false] at hp
  rcases hp with rfl | rfl
  · rw [partL_pows (n := 2) (fun m hm2 => (hm m hm2).1) m hm']; omega
  · rw [partL_pows (n := 2) (fun m hm2 => (hm m hm2).1) m hm']; omega
theorem fit_fld {f : FldZ} (h : fldOkB f = true) : ∀ p ∈ f.parts, ∀ m ∈ p, Fit_Mon m := fun p hp m hm => by
  obtain ⟨n, _, _, _, hn6, hq⟩ := fldOk_parts h
  have := ((hq p hp).2 m hm).2.1
  unfold Fit_Mon
  omega
set_option maxRecDepth 100000 in
set_option maxHeartbeats 12800000 in
theorem fnFormKept_walk (v : Value) (bs : List Int) (w : World) (h : RdB w v bs) (hm : MaxCell w) :
    Calls Tryz.prog 3 #[v] w fun e w' => e = .returned (.bool true) ∧ Below w.heap.size w w' := by
  obtain ⟨adc, lc, cc, rfl, hlc, _, _, h'⟩ := rdS_open h
  clear h
  have HBIG := Lib.hid (big_any adc lc cc w)
  by_cases hbig : (1048576 : Int) < lc
  case pos =>
    have hbt : decide ((1048576 : Int) < lc) = true := decide_eq_true hbig
    go_enter Tryz.func3, Tryz.ntmps3
    go_wp2_with fail
    refine HBIG.out.mono ?_
    rw [hbt]
    rintro e w1 ⟨rfl, rfl⟩
    go_wp2
    go_ret
    exact ⟨rfl, Below.refl _ _⟩
  have hbt : decide ((1048576 : Int) < lc) = false := decide_eq_false hbig
  have HDE := Lib.hid (drawEnergy_any _ bs w h')
  have HAT := Lib.hid (fun (W : World) (hW : Below w.heap.size w W) => at0_any (.slice adc lc cc) bs 0 W (rdS_mono (w := w) (w' := W) (El := ElB) (fun _ _ h => h) hW h' : RdB W (.slice adc lc cc) bs) (.inl rfl) (by rw [hlc]; omega))
  have HMC := Lib.hid (fun (W : World) (hW : Below w.heap.size w W) => maxCell_mono hW hm)
  clear h' hm hlc
  go_enter Tryz.func3, Tryz.ntmps3
  go_wp2_with fail
  refine HBIG.out.mono ?_
  rw [hbt]
  rintro e w1 ⟨rfl, rfl⟩
  go_wp2_with fail
  refine HDE.out.mono ?_
  rintro e w1 ⟨vh, vu, vv, p, yu, yv, M, rfl, hp, hca, hpl, hpm, hu, hv, hyu, hyv, h0, hM1, hM4, hb1⟩
  have hh := hamB_drawn hca hpl hpm
  obtain ⟨adu, lu, cu, rfl, hlu, _, hcmu, hu'⟩ := rdS_open hu
  obtain ⟨adv, lv, cv, rfl, hlv, _, hcmv, hv'⟩ := rdS_open hv
  rw [still_len] at hlu hlv
  obtain rfl := hlu
  obtain rfl := hlv
  have HHM := Lib.hid (ham_any vh p 2 w1 hp ⟨by omega, by omega⟩ (fun m hm => by have := (hpm m hm).1; unfold Fit_Mon; omega))
  have HB1 := Lib.hid hb1
  have HU := Lib.hid (fun (W : World) (hW : Below w1.heap.size w1 W) => (rdII_mono hW hu' : RdII W (.slice adu (M + 1) cu) (still yu M)))
  have HV := Lib.hid (fun (W : World) (hW : Below w1.heap.size w1 W) => (rdII_mono hW hv' : RdII W (.slice adv (M + 1) cv) (still yv M)))
  have HHB := Lib.hid hh
  have HYU := Lib.hid hyu
  have HYV := Lib.hid hyv
  have H0 := Lib.hid h0
  have HPM := Lib.hid hpm
  clear hp hca hpl hpm hu hv hyu hyv h0 hb1 hh
  go_wp2_with fail
  refine HHM.out.mono ?_
  rintro e u2 ⟨v2, fp2, rfl, ho2, _, hb2⟩
  rw [HHB.out]
  obtain ⟨f, hf⟩ : ∃ f, f = hamF p 2 := ⟨_, rfl⟩
  rw [← hf] at ho2
  obtain ⟨vM2, rfl, hI2, hM2⟩ := ho2
  obtain ⟨ad2, l2, c2, rfl⟩ := ownMss_slice hM2
  have hr2 : RdFld u2 (.agg #[.int .i64 f.dim, .slice ad2 l2 c2]) f := ⟨_, rfl, hI2, ownMss_rd hM2⟩
  obtain ⟨w2, hw2⟩ : ∃ W, W = u2.alloc (.cells #[.int .i64 f.dim, .slice ad2 l2 c2] 30) := ⟨_, rfl⟩
  have hal2 : Below u2.heap.size u2 w2 := hw2 ▸ (Below.refl _ _).alloc (Nat.le_refl _) _
  obtain ⟨B2, hB2⟩ : ∃ B, B = u2.heap.size := ⟨_, rfl⟩
  have hc2 : w2.cell? ⟨B2, 0, none⟩ = some (.int .i64 f.dim) ∧ w2.cell? ⟨B2, 1, none⟩ = some (.slice ad2 l2 c2) := by rw [hw2, hB2]; simp
  have HB2 := Lib.hid (hb2.trans (hal2.mono hb2.size))
  have HTN := Lib.hid (tangent_any _ f w2 (rdFld_mono hal2 hr2) (by rw [hf]; exact hamF_fit HHB.out HPM.out))
  have Hw2 := Lib.hid hw2
  have HE2 := Lib.hid hB2
  have HF := Lib.hid hf
  obtain ⟨hk0, hk1⟩ := hc2
  clear hI2 hM2 hr2 hw2 hal2 hB2 hb2 hf
  go_wp2_with fail
  rw [← Hw2.out, ← HE2.out]
  refine HTN.out.mono ?_
  rintro e u3 ⟨v3, fp3, rfl, ho3, _, hb3⟩
  obtain ⟨g, hg⟩ : ∃ g, g = tanF f := ⟨_, rfl⟩
  rw [← hg] at ho3
  obtain ⟨vM3, rfl, hI3, hM3⟩ := ho3
  obtain ⟨ad3, l3, c3, rfl⟩ := ownMss_slice hM3
  have hr3 : RdFld u3 (.agg #[.int .i64 g.dim, .slice ad3 l3 c3]) g := ⟨_, rfl, hI3, ownMss_rd hM3⟩
  obtain ⟨w3, hw3⟩ : ∃ W, W = u3.alloc (.cells #[.int .i64 g.dim, .slice ad3 l3 c3] 30) := ⟨_, rfl⟩
  have hal3 : Below u3.heap.size u3 w3 := hw3 ▸ (Below.refl _ _).alloc (Nat.le_refl _) _
  obtain ⟨B3, hB3⟩ : ∃ B, B = u3.heap.size := ⟨_, rfl⟩
  have hc3 : w3.cell? ⟨B3, 0, none⟩ = some (.int .i64 g.dim) ∧ w3.cell? ⟨B3, 1, none⟩ = some (.slice ad3 l3 c3) := by rw [hw3, hB3]; simp
  have HB3 := Lib.hid (HB2.out.trans ((hb3.trans (hal3.mono hb3.size)).mono HB2.out.size))
  have HBW3 := Lib.hid (HB1.out.trans (HB3.out.mono HB1.out.size))
  have HK3 := Lib.hid (fun (W : World) (hW : Below w3.heap.size w3 W) => And.intro (cell_below hW hc3.1) (cell_below hW hc3.2))
  have HG := Lib.hid (fun (W : World) (hW : Below w3.heap.size w3 W) => rdFld_mono (hal3.trans (hW.mono hal3.size)) hr3)
  have Hw3 := Lib.hid hw3
  have HE3 := Lib.hid hB3
  have HGE := Lib.hid hg
  obtain ⟨bt, hbt2⟩ : ∃ b, b = tanB f := ⟨_, rfl⟩
  rw [← hbt2]
  have HBT := Lib.hid hbt2
  clear hI3 hM3 hr3 hw3 hal3 hB3 hb3 hg hk0 hk1 hc3 hbt2
  cases bt with
  | false =>
    go_wp2
    rw [← Hw3.out]
    go_ret
    exact ⟨rfl, HBW3.out⟩
  | true =>
  obtain ⟨w4, hw4⟩ : ∃ W, W = w3.alloc (.cells #[.string ⟨#[109, 105, 100, 100, 108, 101]⟩, .string ⟨#[103, 97, 117, 115, 115, 50]⟩, .string ⟨#[103, 97, 117, 115, 115, 51]⟩, .string ⟨#[103, 97, 117, 115, 115, 49]⟩] 9) := ⟨_, rfl⟩
  have hal4 : Below w3.heap.size w3 w4 := hw4 ▸ (Below.refl _ _).alloc (Nat.le_refl _) _
  have HB4 := Lib.hid hal4
  have HAT4 := Lib.hid (HAT.out w4 (HBW3.out.trans (hal4.mono HBW3.out.size)))
  have HNM := Lib.hid (fun (k : Nat) (hk : k < 4) => show ∃ nm, w4.cell? ⟨w3.heap.size, k, none⟩ = some (.string nm) ∧ ∀ W, MaxCell W → Calls Tryz.prog 10 #[.string nm] W (GivesG W) from by
    rcases (by omega : k = 0 ∨ k = 1 ∨ k = 2 ∨ k = 3) with rfl | rfl | rfl | rfl
    · exact ⟨_, by rw [hw4]; simp, fun W hW => kno_any 0 _ (.inl ⟨rfl, rfl⟩) W hW⟩
    · exact ⟨_, by rw [hw4]; simp, fun W hW => kno_any 1 _ (.inr (.inl ⟨rfl, rfl⟩)) W hW⟩
    · exact ⟨_, by rw [hw4]; simp, fun W hW => kno_any 2 _ (.inr (.inr (.inl ⟨rfl, rfl⟩))) W hW⟩
    · exact ⟨_, by rw [hw4]; simp, fun W hW => kno_any 3 _ (.inr (.inr (.inr ⟨rfl, rfl⟩))) W hW⟩)
  have Hw4 := Lib.hid hw4
  clear hal4 hw4
  go_wp2_with fail
  rw [← Hw3.out, ← HE3.out, ← Hw4.out]
  refine HAT4.out.mono ?_
  rintro e w' ⟨x, rfl, hx, rfl⟩
  obtain ⟨k, hk⟩ : ∃ k, k = x % 4 := ⟨_, rfl⟩
  have hk4 : k < 4 := by omega
  have hkI : (x : Int) % 4 = (k : Int) := by omega
  have hkB : (k : Int) < 4 := by omega
  obtain ⟨nm, hnm, hkn⟩ := HNM.out k hk4
  have HMX := Lib.hid (HMC.out w4 (HBW3.out.trans (HB4.out.mono HBW3.out.size)))
  have HKN := Lib.hid (hkn w4 HMX.out)
  have hs3 : w3.heap.size = B3 + 1 := by rw [Hw3.out, HE3.out]; simp
  rw [hs3] at hnm
  clear hkn hk hk4 hx
  go_wp2_with fail
  refine HKN.out.mono ?_
  rintro e u5 ⟨s, hs1, hs3', vt, rfl, ⟨vA, vB, fA, fB, rfl, hst, hA, hB, _, _⟩, hb5⟩
  obtain ⟨ada, la, ca, rfl, _⟩ := ownI_open hA
  obtain ⟨adb, lb, cb, rfl, _⟩ := ownI_open hB
  have hrt : RdTab u5 (.agg #[.int .i64 (gauT s).stages, .slice ada la ca, .slice adb lb cb]) (gauT s) := ⟨_, _, rfl, hst, ownI_rd hA, ownI_rd hB⟩
  obtain ⟨t, ht⟩ : ∃ t, t = gauT s := ⟨_, rfl⟩
  have HTOK := Lib.hid (show tabOkB t = true from ht ▸ gauT_ok hs1 hs3')
  have HTSY := Lib.hid (show SympT t from ht ▸ gauT_symp hs1 hs3')
  rw [← ht] at hrt ⊢
  clear ht hs1 hs3' hst hA hB
  obtain ⟨w5, hw5⟩ : ∃ W, W = u5.alloc (.cells #[.int .i64 t.stages, .slice ada la ca, .slice adb lb cb] 37) := ⟨_, rfl⟩
  have hal5 : Below u5.heap.size u5 w5 := hw5 ▸ (Below.refl _ _).alloc (Nat.le_refl _) _
  obtain ⟨B5, hB5⟩ : ∃ B, B = u5.heap.size := ⟨_, rfl⟩
  have hc5 : w5.cell? ⟨B5, 0, none⟩ = some (.int .i64 t.stages) ∧ w5.cell? ⟨B5, 1, none⟩ = some (.slice ada la ca) ∧ w5.cell? ⟨B5, 2, none⟩ = some (.slice adb lb cb) := by rw [hw5, hB5]; simp
  have hx5 := hb5.trans (hal5.mono hb5.size)
  have HB5 := Lib.hid (HB4.out.trans (hx5.mono HB4.out.size))
  have HK5 := Lib.hid (fun (W : World) (hW : Below w5.heap.size w5 W) => And.intro (cell_below hW hc5.1) (And.intro (cell_below hW hc5.2.1) (cell_below hW hc5.2.2)))
  have HTB := Lib.hid (fun (W : World) (hW : Below w5.heap.size w5 W) => rdTab_mono (hal5.trans (hW.mono hal5.size)) hrt)
  have HGF := Lib.hid (show ∀ p ∈ g.parts, ∀ m ∈ p, Fit_Mon m from by rw [HGE.out]; exact fit_fld (by rw [HF.out] at HBT; exact HF.out ▸ (tanOk_of HHB.out HBT.out.symm).ok))
  have Hw5 := Lib.hid hw5
  have HE5 := Lib.hid hB5
  have HST := Lib.hid (fun (W : World) (hW : Below w5.heap.size w5 W) (vx : Value) (xs : List (List Int)) (hx : RdII W vx xs) => step_any _ _ vx t g xs W (HTB.out W hW) (HG.out W (HB5.out.trans (hW.mono HB5.out.size))) hx HGF.out)
  have HEX := Lib.hid (fun (W : World) (hW : Below w5.heap.size w5 W) (vy : Value) (y : List Int) (hy : RdI W vy y) => exact_any _ vy g y M 1 W (HG.out W (HB5.out.trans (hW.mono HB5.out.size))) hy HGF.out)
  have HU5 := Lib.hid (fun (W : World) (hW : Below w5.heap.size w5 W) => HU.out W (HB3.out.trans ((HB5.out.trans (hW.mono HB5.out.size)).mono HB3.out.size)))
  have HV5 := Lib.hid (fun (W : World) (hW : Below w5.heap.size w5 W) => HV.out W (HB3.out.trans ((HB5.out.trans (hW.mono HB5.out.size)).mono HB3.out.size)))
  have HBW5 := Lib.hid (HBW3.out.trans (HB5.out.mono HBW3.out.size))
  obtain ⟨hk0, hk1, hk2⟩ := hc5
  obtain ⟨hk3, hk4⟩ := HK3.out w5 HB5.out
  rw [hw5] at hk3 hk4
  have HS1 := Lib.hid (HST.out w5 (Below.refl _ _) _ _ (HU5.out w5 (Below.refl _ _)))
  clear hrt hw5 hal5 hB5 hx5 hb5 hnm hkI hkB
  go_wp2_with fail
  rw [← Hw5.out, ← HE5.out]
  refine HS1.out.mono ?_
  rintro e w6 ⟨vx, fx, rfl, hox, _, hb6⟩
  obtain ⟨hk0, hk1, hk2⟩ := HK5.out w6 hb6
  obtain ⟨hk3, hk4⟩ := HK3.out w6 (HB5.out.trans (hb6.mono HB5.out.size))
  have HB6 := Lib.hid hb6
  have HX6 := Lib.hid hox
  have HS2 := Lib.hid (HST.out w6 hb6 _ _ (HV5.out w6 hb6))
  clear hb6 hox
  go_wp2_with fail
  refine HS2.out.mono ?_
  rintro e w7 ⟨vy, fy, rfl, hoy, _, hb7⟩
  have hb57 := HB6.out.trans (hb7.mono HB6.out.size)
  obtain ⟨hk3, hk4⟩ := HK3.out w7 (HB5.out.trans (hb57.mono HB5.out.size))
  have HX7 := Lib.hid (fun (W : World) (hW : Below w7.heap.size w7 W) => rdII_mono hW (ownII_rd (ownII_only HX6.out (Only.of_below (fp := []) hb7) (by simp))))
  have HY7 := Lib.hid (fun (W : World) (hW : Below w7.heap.size w7 W) => rdII_mono hW (ownII_rd hoy))
  have HB7 := Lib.hid hb57
  obtain ⟨bu, ou, adu0, lu0, cu0, xu0, rfl, hxu, hcu, hlu0, _, _, hru, _⟩ := rdII_get (HU5.out w7 hb57) (k := 0) (by omega)
  obtain ⟨bv, ov, adv0, lv0, cv0, xv0, rfl, hxv, hcv, hlv0, _, _, hrv, _⟩ := rdII_get (HV5.out w7 hb57) (k := 0) (by omega)
  obtain rfl : xu0 = yu := by simpa [still] using hxu.symm
  obtain rfl : xv0 = yv := by simpa [still] using hxv.symm
  simp only [Nat.add_zero] at hcu hcv
  have hwM : IntKind.i64.wrap (M : Int) = M := IntWalk.i64_in _ (by omega)
  have hdr : Below w7.heap.size w7 w7.drew := (Below.refl _ _).drew
  have HDR := Lib.hid hdr
  have HEU := Lib.hid (HEX.out w7.drew (hb57.trans (hdr.mono hb57.size)) _ _ (rdI_mono hdr hru))
  have HRV := Lib.hid (fun (W : World) (hW : Below w7.heap.size w7 W) => And.intro (cell_below hW hcv) (rdI_mono hW hrv))
  have HUU := Lib.hid (show ∃ (ad : Option Addr) (l c : Nat), (Value.slice (some ⟨bu, ou, none⟩) (M + 1) cu) = .slice ad l c from ⟨_, _, _, rfl⟩)
  clear hb7 hoy hb57 hxu hxv hlu0 hlv0 hru hrv hdr hcv
  go_wp2_with fail
  go_cut [16] from 69 to 76 (fun s16 wx => RdII wx s16 (exactL g xu0 M 1) ∧ Below w7.heap.size w7 wx)
  case first =>
    go_region_law (go_simp; go_at_call 13; (with_reducible refine (HEU.out).mono ?_); rintro e w8 ⟨vp, fp8, rfl, hop, _, hb8⟩; have HOP := Lib.hid (ownII_rd hop); have HB8 := Lib.hid (HDR.out.trans (hb8.mono HDR.out.size)); clear hop hb8)
    all_goals (
      go_wp2_with fail
      go_meet
      exact ⟨HOP.out, HB8.out⟩)
  case rest =>
  obtain ⟨hpc, hb8⟩ := hcut
  have hb58 := HB7.out.trans (hb8.mono HB7.out.size)
  have hdr : Below wc.heap.size wc wc.drew := (Below.refl _ _).drew
  have HDR8 := Lib.hid hdr
  obtain ⟨hcv, hrv⟩ := HRV.out wc hb8
  have HEV := Lib.hid (HEX.out wc.drew (hb58.trans (hdr.mono hb58.size)) _ _ (rdI_mono hdr hrv))
  obtain ⟨hk3, hk4⟩ := HK3.out wc (HB5.out.trans (hb58.mono HB5.out.size))
  obtain ⟨w8, hw8⟩ : ∃ W, W = wc := ⟨_, rfl⟩
  subst hw8
  have HP8 := Lib.hid hpc
  have HB8 := Lib.hid hb8
  clear hpc hb8 hb58 hdr hrv hcu
  go_wp2_with fail
  go_cut [17] from 77 to 84 (fun s17 wx => RdII wx s17 (exactL g xv0 M 1) ∧ Below w8.heap.size w8 wx)
  case first =>
    go_region_law (go_simp; go_at_call 13; (with_reducible refine (HEV.out).mono ?_); rintro e w9 ⟨vp, fp8, rfl, hop, _, hb9⟩; have HOP := Lib.hid (ownII_rd hop); have HB9 := Lib.hid (HDR8.out.trans (hb9.mono HDR8.out.size)); clear hop hb9)
    all_goals (
      go_wp2_with fail
      go_meet
      exact ⟨HOP.out, HB9.out⟩)
  case rest =>
  obtain ⟨hqc, hb9⟩ := hcut
  obtain ⟨w9, hw9⟩ : ∃ W, W = wc := ⟨_, rfl⟩
  subst hw9
  obtain ⟨adp, lp, cp, rfl, _⟩ := rdS_open HP8.out
  obtain ⟨adq, lq, cq, rfl, _⟩ := rdS_open hqc
  have hb79 := HB8.out.trans (hb9.mono HB8.out.size)
  have hb59 := HB7.out.trans (hb79.mono HB7.out.size)
  have hl2 : ∀ m ∈ p, m.pows.length = 2 := fun m hm => (HPM.out m hm).1
  have hg2 : tanB (hamF p 2) = true := by rw [← HF.out]; exact HBT.out.symm
  have hyu4 : xu0.length = 4 ∧ Nums xu0 := HYU.out
  have hyv4 : xv0.length = 4 ∧ Nums xv0 := HYV.out
  have hk1 := kept_step HHB.out hg2 hl2 HTOK.out HTSY.out hyu4 hyv4 H0.out (M := M) (by omega)
  have hk2 := kept_exact HHB.out hg2 hl2 hyu4 hyv4 H0.out (M := M) (by omega)
  have hge : tanF (hamF p 2) = g := by rw [HGE.out, HF.out]
  rw [hge] at hk1 hk2
  obtain ⟨X, hX⟩ : ∃ X, X = stepL t g (still xu0 M) := ⟨_, rfl⟩
  obtain ⟨Y, hY⟩ : ∃ X, X = stepL t g (still xv0 M) := ⟨_, rfl⟩
  obtain ⟨P, hP⟩ : ∃ X, X = exactL g xu0 M 1 := ⟨_, rfl⟩
  obtain ⟨Q, hQ⟩ : ∃ X, X = exactL g xv0 M 1 := ⟨_, rfl⟩
  obtain ⟨U, hU⟩ : ∃ X, X = still xu0 M := ⟨_, rfl⟩
  obtain ⟨V, hV⟩ : ∃ X, X = still xv0 M := ⟨_, rfl⟩
  have hru : Row4 (M + 1) U := hU ▸ row4_still hyu4
  have hrv : Row4 (M + 1) V := hV ▸ row4_still hyv4
  have hxr := HX7.out w9 hb79
  have hyr := HY7.out w9 hb79
  have hpr := rdII_mono hb9 HP8.out
  have hur := HU5.out w9 hb59
  have hvr := HV5.out w9 hb59
  rw [← hX, ← hY, ← hU, ← hV] at hk1
  rw [← hP, ← hQ, ← hU, ← hV] at hk2
  rw [← hX] at hxr
  rw [← hY] at hyr
  rw [← hP] at hpr
  rw [← hQ] at hqc
  rw [← hU] at hur
  rw [← hV] at hvr
  obtain ⟨hRX, hRY, hEX⟩ := hk1
  obtain ⟨hRP, hRQ, hEP⟩ := hk2
  have HRx := Lib.hid hRX
  have HRy := Lib.hid hRY
  have HRp := Lib.hid hRP
  have HRq := Lib.hid hRQ
  have HRu := Lib.hid hru
  have HRv := Lib.hid hrv
  have HEX2 := Lib.hid hEX
  have HEP2 := Lib.hid hEP
  have HDx := Lib.hid (fun (W : World) (hW : Below w9.heap.size w9 W) => rdII_mono hW hxr)
  have HDy := Lib.hid (fun (W : World) (hW : Below w9.heap.size w9 W) => rdII_mono hW hyr)
  have HDp := Lib.hid (fun (W : World) (hW : Below w9.heap.size w9 W) => rdII_mono hW hpr)
  have HDq := Lib.hid (fun (W : World) (hW : Below w9.heap.size w9 W) => rdII_mono hW hqc)
  have HDu := Lib.hid (fun (W : World) (hW : Below w9.heap.size w9 W) => rdII_mono hW hur)
  have HDv := Lib.hid (fun (W : World) (hW : Below w9.heap.size w9 W) => rdII_mono hW hvr)
  have HBW9 := Lib.hid (HBW5.out.trans (hb59.mono HBW5.out.size))
  have HA0 := Lib.hid (Below.refl w9.heap.size w9)
  have HSx := Lib.hid (shaped_any vx X 4 (M + 1) 4 ((M : Int) + 1) w9 hxr rfl (by omega) hRX.1 (fun x hx => (hRX.2 x hx).1))
  have HSy := Lib.hid (shaped_any vy Y 4 (M + 1) 4 ((M : Int) + 1) w9 hyr rfl (by omega) hRY.1 (fun x hx => (hRY.2 x hx).1))
  have HSp := Lib.hid (shaped_any (.slice adp lp cp) P 4 (M + 1) 4 ((M : Int) + 1) w9 hpr rfl (by omega) hRP.1 (fun x hx => (hRP.2 x hx).1))
  have HSq := Lib.hid (shaped_any (.slice adq lq cq) Q 4 (M + 1) 4 ((M : Int) + 1) w9 hqc rfl (by omega) hRQ.1 (fun x hx => (hRQ.2 x hx).1))
  clear hqc hb9 hb79 hb59 hl2 hg2 hyu4 hyv4 hge hX hY hP hQ hU hV hru hrv hxr hyr hpr hur hvr hRX hRY hEX hRP hRQ hEP hk3 hk4 hwM hcv
  go_wp2_with fail
  refine HSx.out.mono ?_
  rintro e w' ⟨rfl, rfl⟩
  go_wp2_with fail
  refine HSy.out.mono ?_
  rintro e w' ⟨rfl, rfl⟩
  go_wp2_with fail
  refine HSp.out.mono ?_
  rintro e w' ⟨rfl, rfl⟩
  go_wp2_with fail
  refine HSq.out.mono ?_
  rintro e w' ⟨rfl, rfl⟩
  have HTu := Lib.hid (tangents_any (.slice (some ⟨bu, ou, none⟩) (M + 1) cu) U w9 (HDu.out w9 HA0.out) (by rw [HRu.out.1]; omega) (fun r hr => (HRu.out.2 r hr).1))
  go_wp2_with fail
  refine HTu.out.mono ?_
  rintro e wu ⟨vu, fu, rfl, hou, _, hbu⟩
  have HAu := Lib.hid (HA0.out.trans (hbu.mono HA0.out.size))
  have HVu := Lib.hid (fun (W : World) (hW : Below wu.heap.size wu W) => rdII_mono hW (ownII_rd hou))
  clear hou hbu
  have HTv := Lib.hid (tangents_any (.slice (some ⟨bv, ov, none⟩) (M + 1) cv) V wu (HDv.out wu HAu.out) (by rw [HRv.out.1]; omega) (fun r hr => (HRv.out.2 r hr).1))
  go_wp2_with fail
  refine HTv.out.mono ?_
  rintro e wv ⟨vv, fv, rfl, hov, _, hbv⟩
  have HAv := Lib.hid (HAu.out.trans (hbv.mono HAu.out.size))
  have HBv := Lib.hid hbv
  have HVv := Lib.hid (fun (W : World) (hW : Below wv.heap.size wv W) => rdII_mono hW (ownII_rd hov))
  clear hov hbv
  have HFw := Lib.hid (iForm_any vu vv (tanT U) (tanT V) wv (HVu.out wv (HBv.out)) (HVv.out wv (Below.refl _ _)) (by rw [row4_hd HRu.out (by omega)]; omega))
  go_wp2_with fail
  refine HFw.out.mono ?_
  rintro e wF ⟨vw, fw, rfl, how, _, hbw⟩
  have HAw := Lib.hid (HAv.out.trans (hbw.mono HAv.out.size))
  have HVw := Lib.hid (fun (W : World) (hW : Below wF.heap.size wF W) => rdI_mono hW (ownI_rd how))
  clear how hbw
  have HTx := Lib.hid (tangents_any vx X wF (HDx.out wF HAw.out) (by rw [HRx.out.1]; omega) (fun r hr => (HRx.out.2 r hr).1))
  go_wp2_with fail
  refine HTx.out.mono ?_
  rintro e wx ⟨vtx, fx9, rfl, hox, _, hbx⟩
  have HBx := Lib.hid hbx
  have HAx := Lib.hid (HAw.out.trans (hbx.mono HAw.out.size))
  have HVx := Lib.hid (fun (W : World) (hW : Below wx.heap.size wx W) => rdII_mono hW (ownII_rd hox))
  clear hox hbx
  have HTy := Lib.hid (tangents_any vy Y wx (HDy.out wx HAx.out) (by rw [HRy.out.1]; omega) (fun r hr => (HRy.out.2 r hr).1))
  go_wp2_with fail
  refine HTy.out.mono ?_
  rintro e wy ⟨vty, fy9, rfl, hoy, _, hby⟩
  have HBy := Lib.hid hby
  have HAy := Lib.hid (HAx.out.trans (hby.mono HAx.out.size))
  have HVy := Lib.hid (fun (W : World) (hW : Below wy.heap.size wy W) => rdII_mono hW (ownII_rd hoy))
  clear hoy hby
  have HFs := Lib.hid (iForm_any vtx vty (tanT X) (tanT Y) wy (HVx.out wy (HBy.out)) (HVy.out wy (Below.refl _ _)) (by rw [row4_hd HRx.out (by omega)]; omega))
  go_wp2_with fail
  refine HFs.out.mono ?_
  rintro e wS ⟨vs, fs, rfl, hos, _, hbs⟩
  have HBs := Lib.hid hbs
  have HAs := Lib.hid (HAy.out.trans (hbs.mono HAy.out.size))
  have HVs := Lib.hid (fun (W : World) (hW : Below wS.heap.size wS W) => rdI_mono hW (ownI_rd hos))
  clear hos hbs
  have HI1 := Lib.hid (ints_same vs vw _ wS (HVs.out wS (Below.refl _ _)) (HEX2.out ▸ HVw.out wS (HBx.out.trans ((HBy.out.trans (HBs.out.mono HBy.out.size)).mono HBx.out.size))))
  go_wp2_with fail
  refine HI1.out.mono ?_
  rintro e wI ⟨rfl, m, hm⟩
  have hbI : Below wS.heap.size wS wI := hm ▸ blw_drewN (Below.refl _ _) m
  have HBI := Lib.hid hbI
  have HAI := Lib.hid (HAs.out.trans (hbI.mono HAs.out.size))
  clear hbI hm
  have HTp := Lib.hid (tangents_any (.slice adp lp cp) P wI (HDp.out wI HAI.out) (by rw [HRp.out.1]; omega) (fun r hr => (HRp.out.2 r hr).1))
  go_wp2_with fail
  refine HTp.out.mono ?_
  rintro e wp ⟨vtp, ftp, rfl, hop, _, hbp⟩
  have HBp := Lib.hid hbp
  have HAp := Lib.hid (HAI.out.trans (hbp.mono HAI.out.size))
  have HVp := Lib.hid (fun (W : World) (hW : Below wp.heap.size wp W) => rdII_mono hW (ownII_rd hop))
  clear hop hbp
  have HTq := Lib.hid (tangents_any (.slice adq lq cq) Q wp (HDq.out wp HAp.out) (by rw [HRq.out.1]; omega) (fun r hr => (HRq.out.2 r hr).1))
  go_wp2_with fail
  refine HTq.out.mono ?_
  rintro e wq ⟨vtq, ftq, rfl, hoq, _, hbq⟩
  have HBq := Lib.hid hbq
  have HAq := Lib.hid (HAp.out.trans (hbq.mono HAp.out.size))
  have HVq := Lib.hid (fun (W : World) (hW : Below wq.heap.size wq W) => rdII_mono hW (ownII_rd hoq))
  clear hoq hbq
  have HFz := Lib.hid (iForm_any vtp vtq (tanT P) (tanT Q) wq (HVp.out wq HBq.out) (HVq.out wq (Below.refl _ _)) (by rw [row4_hd HRp.out (by omega)]; omega))
  go_wp2_with fail
  refine HFz.out.mono ?_
  rintro e wZ ⟨vz, fz, rfl, hoz, _, hbz⟩
  have HAz := Lib.hid (HAq.out.trans (hbz.mono HAq.out.size))
  have HI2 := Lib.hid (ints_same vz vw _ wZ (ownI_rd hoz) (HEP2.out ▸ HVw.out wZ (HBx.out.trans ((HBy.out.trans ((HBs.out.trans ((HBI.out.trans ((HBp.out.trans ((HBq.out.trans (hbz.mono HBq.out.size)).mono HBp.out.size)).mono HBI.out.size)).mono HBs.out.size)).mono HBy.out.size)).mono HBx.out.size))))
  clear hoz hbz
  go_wp2_with fail
  refine HI2.out.mono ?_
  rintro e wE ⟨rfl, m2, hm2⟩
  have hbE : Below wZ.heap.size wZ wE := hm2 ▸ blw_drewN (Below.refl _ _) m2
  have HBE := Lib.hid (HBW9.out.trans ((HAz.out.trans (hbE.mono HAz.out.size)).mono HBW9.out.size))
  clear hbE hm2
  go_wp2
  go_ret
  exact ⟨rfl, HBE.out⟩
end Go.Proofs.YtbcjhpgkodeoeaaGreatDoor
