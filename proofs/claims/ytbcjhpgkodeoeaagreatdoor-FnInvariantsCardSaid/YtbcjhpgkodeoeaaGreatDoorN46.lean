/- The law FnInvariants returns true for every text of bytes, and changes nothing that was there. Conditions: the cell of a variable of the library's own holds some number. -/
import Derived.Deep.Cut
import Derived.Deep.CutRange
import Derived.Test.YtbcjhpgkodeoeaaGreatDoorN19
import Derived.Test.YtbcjhpgkodeoeaaGreatDoorN41
import Derived.Test.YtbcjhpgkodeoeaaGreatDoorN43
import Derived.Test.YtbcjhpgkodeoeaaGreatDoorN15
import Derived.Test.YtbcjhpgkodeoeaaGreatDoorN37
import Derived.Test.YtbcjhpgkodeoeaaGreatDoorN44
import Derived.Test.YtbcjhpgkodeoeaaGreatDoorN29
import Derived.Test.YtbcjhpgkodeoeaaGreatDoorN38
import Derived.Test.YtbcjhpgkodeoeaaGreatDoorN45
set_option linter.unusedSimpArgs false
set_option linter.unusedVariables false

namespace Go.Proofs.YtbcjhpgkodeoeaaGreatDoor
open Go.ChangeShapes Go.WideShapes Go.ChangeAt Go.RowKit Go.Sort

/-- Some tableau of Gauss's. -/
def GivesH (w : World) : Ending → World → Prop := fun e w' => ∃ s, 1 ≤ s ∧ s ≤ 3 ∧ GivesT (gauT s) w e w'
theorem kno3_any (k : Nat) (nm : ByteArray) (hk : (k = 0 ∧ nm = ByteArray.mk #[109, 105, 100, 100, 108, 101]) ∨ (k = 1 ∧ nm = ByteArray.mk #[103, 97, 117, 115, 115, 50]) ∨ (k = 2 ∧ nm = ByteArray.mk #[103, 97, 117, 115, 115, 51])) (w : World) (hm : MaxCell w) : Calls Tryz.prog 10 #[.string nm] w (GivesH w) := by
  rcases hk with ⟨_, h⟩ | ⟨_, h⟩ | ⟨_, h⟩
  · exact (knoM_any nm h w hm).mono fun e w' h => ⟨1, by omega, by omega, h⟩
  · exact (knoG_any 2 (by omega) (by omega) 50 (by decide) nm h w).mono fun e w' h => ⟨2, by omega, by omega, h⟩
  · exact (knoG_any 3 (by omega) (by omega) 51 (by decide) nm h w).mono fun e w' h => ⟨3, by omega, by omega, h⟩
theorem fit_okI {f : FldZ} (h : fldOkB f = true) : ∀ p ∈ f.parts, ∀ m ∈ p, Fit_Mon m := fun p hp m hm => by
  obtain ⟨n, _, _, _, hn6, hq⟩ := fldOk_parts h
  have := ((hq p hp).2 m hm).2.1
  unfold Fit_Mon
  omega
theorem exact_hd {f : FldZ} {y : List Int} {M : Nat} (hl : y.length ≤ 6) : hdL (exactL f y (M : Int) 1) ≤ 1048576 := by
  unfold exactL
  split
  · rw [Int.toNat_natCast, hdL_at]
    have hlen : (exSt f.parts y M 1).length = M + 1 := exSt_len _ _ _ _
    have h0 : ((exSt f.parts y M 1)[0]?).isSome := by simp [hlen]
    obtain ⟨r, hr⟩ := Option.isSome_iff_exists.1 h0
    have hm := List.mem_of_getElem? hr
    simp only [exSt, List.mem_map] at hm
    obtain ⟨k, _, rfl⟩ := hm
    unfold atL
    rw [hr]
    simp
    omega
  · simp [hdL]
theorem keeps_fld {f : FldZ} {h : List MonZ} (hk : keepsB f h = true) : fldOkB f = true := by
  simp only [keepsB, Bool.and_eq_true, decide_eq_true_eq] at hk
  exact hk.1.1
theorem sq_fit : ∀ m ∈ sqM, Fit_Mon m := fun m hm => by
  simp only [sqM, List.mem_cons, List.not_mem_nil, or_false] at hm
  unfold Fit_Mon
  rcases hm with rfl | rfl | rfl <;> (show (3 : Nat) ≤ 1048576; omega)
theorem rot_sum (a b : Int) : resZ (timesZ a 1 + b + minusZ 0 (plusZ (timesZ a 1) b)) = 0 := by
  unfold resZ minusZ plusZ timesZ
  omega
theorem keepsI_eq {vf vh : Value} {f : FldZ} {h : List MonZ} {w : World} {b : Bool} (hb : keepsB f h = b) (hf : RdFld w vf f) (hh : RdMs w vh h) (hff : ∀ p ∈ f.parts, ∀ m ∈ p, Fit_Mon m) (hfh : ∀ m ∈ h, Fit_Mon m) :
    Calls Tryz.prog 20 #[vf, vh] w fun e w' => e = .returned (.bool b) ∧ Below w.heap.size w w' := hb ▸ keeps_any vf vh f h w hf hh hff hfh
theorem keepsS_eq {vf vh : Value} {f : FldZ} {h : List MonZ} {w : World} {b : Bool} (hb : keepsB f h = b) (hf : RdFld w vf f) (hh : RdMs w vh h) :
    Calls Tryz.prog 21 #[vf, vh] w fun e w' => e = .returned (.bool b) ∧ Below w.heap.size w w' := hb ▸ sKeeps_any vf vh f h w hf hh
/-- A store into a row of the call's own. -/
theorem rowI_put {e g n cap k : Nat} {w : World} {ys : List Int} {x : Int} (h : OwnI e w (.slice (some ⟨g, 0, none⟩) n cap) ys [g]) (hx : ys[k]? = some x) :
    w.cell? ⟨g, k, none⟩ = some (.int .i64 x) ∧ w.frozen? ⟨g, k, none⟩ = false ∧ ∀ z, I64 z → OwnI e (w.setCell ⟨g, k, none⟩ (.int .i64 z)) (.slice (some ⟨g, 0, none⟩) n cap) (ys.set k z) [g] := by
  obtain ⟨ad, len, cap', he, hl, _, _, hown, _, _⟩ := ownI_open h
  simp only [Value.slice.injEq] at he
  obtain ⟨rfl, rfl, rfl⟩ := he
  obtain ⟨h1, h2, _, _⟩ := own_set hown (Below.refl 0 w) hx (Nat.zero_le _) 0
  refine ⟨h1, h2, fun z hz => ?_⟩
  obtain ⟨_, _, h3, _⟩ := own_set hown (Below.refl 0 w) hx (Nat.zero_le _) z
  refine ⟨by rw [List.length_set, hl]; exact h3, rfl, fun y hy => ?_⟩
  rcases List.mem_or_eq_of_mem_set hy with hy | rfl
  · exact h.2.2 y hy
  · exact hz
/-- What is made ahead of the second half: the field's box, the squares, the names. -/
structure MadeK (w0 W : World) (B : Nat) (F : FldZ) (ad : Option Addr) (l c : Nat) : Prop where
  bel : Below w0.heap.size w0 W
  k0 : W.cell? ⟨B, 0, none⟩ = some (.int .i64 F.dim)
  k1 : W.cell? ⟨B, 1, none⟩ = some (.slice ad l c)
  fld : RdFld W (.agg #[.int .i64 F.dim, .slice ad l c]) F
  sq : RdMs W (.slice (some ⟨B + 1 + 1 + 1 + 1, 0, none⟩) 3 3) sqM
  n0 : W.cell? ⟨B + 1 + 1 + 1 + 1 + 1, 0, none⟩ = some (.string ⟨#[109, 105, 100, 100, 108, 101]⟩)
  n1 : W.cell? ⟨B + 1 + 1 + 1 + 1 + 1, 1, none⟩ = some (.string ⟨#[103, 97, 117, 115, 115, 50]⟩)
  n2 : W.cell? ⟨B + 1 + 1 + 1 + 1 + 1, 2, none⟩ = some (.string ⟨#[103, 97, 117, 115, 115, 51]⟩)
theorem madeK_new {w : World} {F : FldZ} {ad : Option Addr} {l c : Nat} {fp : List Nat} (hI : I64 F.dim) (h : OwnMss 24 56 3 w (.slice ad l c) F.parts fp) :
    MadeK w ((((((w.alloc (.cells #[.int .i64 F.dim, .slice ad l c] 30)).alloc (.cells #[.int .i64 2, .int .i64 0, .int .i64 0] 3)).alloc (.cells #[.int .i64 0, .int .i64 2, .int .i64 0] 3)).alloc (.cells #[.int .i64 0, .int .i64 0, .int .i64 2] 3)).alloc (.cells #[.int .i64 1, .slice (some ⟨w.heap.size + 1, 0, none⟩) 3 3, .int .i64 1, .slice (some ⟨w.heap.size + 1 + 1, 0, none⟩) 3 3, .int .i64 1, .slice (some ⟨w.heap.size + 1 + 1 + 1, 0, none⟩) 3 3] 56)).alloc (.cells #[.string ⟨#[109, 105, 100, 100, 108, 101]⟩, .string ⟨#[103, 97, 117, 115, 115, 50]⟩, .string ⟨#[103, 97, 117, 115, 115, 51]⟩] 9)) w.heap.size F ad l c := by
  obtain ⟨A1, hA1⟩ : ∃ W, W = w.alloc (.cells #[.int .i64 F.dim, .slice ad l c] 30) := ⟨_, rfl⟩
  rw [← hA1]
  have s1 : A1.heap.size = w.heap.size + 1 := by rw [hA1]; simp
  have b1 : Below w.heap.size w A1 := hA1 ▸ (Below.refl _ _).alloc (Nat.le_refl _) _
  have c1 : A1.cell? ⟨w.heap.size, 0, none⟩ = some (.int .i64 F.dim) ∧ A1.cell? ⟨w.heap.size, 1, none⟩ = some (.slice ad l c) := by rw [hA1]; simp
  have hI02 : ∀ x : Int, x = 2 ∨ x = 0 → I64 x := fun x hx => by rcases hx with rfl | rfl <;> exact ⟨by decide, by decide⟩
  have o2 := lit_own (e := 3) A1 [2, 0, 0] (fun x hx => hI02 x (by simpa using hx)) (by simp) #[.int .i64 2, .int .i64 0, .int .i64 0] rfl 3 rfl
  obtain ⟨A2, hA2⟩ : ∃ W, W = A1.alloc (.cells #[.int .i64 2, .int .i64 0, .int .i64 0] 3) := ⟨_, rfl⟩
  rw [← hA2] at o2 ⊢
  have s2 : A2.heap.size = w.heap.size + 1 + 1 := by rw [hA2, ← s1]; simp
  have b2 : Below A1.heap.size A1 A2 := hA2 ▸ (Below.refl _ _).alloc (Nat.le_refl _) _
  have o3 := lit_own (e := 3) A2 [0, 2, 0] (fun x hx => hI02 x (by simp at hx; omega)) (by simp) #[.int .i64 0, .int .i64 2, .int .i64 0] rfl 3 rfl
  obtain ⟨A3, hA3⟩ : ∃ W, W = A2.alloc (.cells #[.int .i64 0, .int .i64 2, .int .i64 0] 3) := ⟨_, rfl⟩
  rw [← hA3] at o3 ⊢
  have s3 : A3.heap.size = w.heap.size + 1 + 1 + 1 := by rw [hA3, ← s2]; simp
  have b3 : Below A2.heap.size A2 A3 := hA3 ▸ (Below.refl _ _).alloc (Nat.le_refl _) _
  have o4 := lit_own (e := 3) A3 [0, 0, 2] (fun x hx => hI02 x (by simp at hx; omega)) (by simp) #[.int .i64 0, .int .i64 0, .int .i64 2] rfl 3 rfl
  obtain ⟨A4, hA4⟩ : ∃ W, W = A3.alloc (.cells #[.int .i64 0, .int .i64 0, .int .i64 2] 3) := ⟨_, rfl⟩
  rw [← hA4] at o4 ⊢
  have s4 : A4.heap.size = w.heap.size + 1 + 1 + 1 + 1 := by rw [hA4, ← s3]; simp
  have b4 : Below A3.heap.size A3 A4 := hA4 ▸ (Below.refl _ _).alloc (Nat.le_refl _) _
  have o2' := ownI_only (ownI_only o2 (Only.of_below (fp := []) b3) (by simp)) (Only.of_below (fp := []) b4) (by simp)
  have o3' := ownI_only o3 (Only.of_below (fp := []) b4) (by simp)
  rw [s1] at o2'
  rw [s2] at o3'
  rw [s3] at o4
  have hL := lit_mons (e2 := 56) (e := 3) (w := A4) (X := [⟨1, some ⟨w.heap.size + 1, 0, none⟩, 3, 3, [2, 0, 0], [w.heap.size + 1]⟩, ⟨1, some ⟨w.heap.size + 1 + 1, 0, none⟩, 3, 3, [0, 2, 0], [w.heap.size + 1 + 1]⟩, ⟨1, some ⟨w.heap.size + 1 + 1 + 1, 0, none⟩, 3, 3, [0, 0, 2], [w.heap.size + 1 + 1 + 1]⟩])
    #[.int .i64 1, .slice (some ⟨w.heap.size + 1, 0, none⟩) 3 3, .int .i64 1, .slice (some ⟨w.heap.size + 1 + 1, 0, none⟩) 3 3, .int .i64 1, .slice (some ⟨w.heap.size + 1 + 1 + 1, 0, none⟩) 3 3] rfl 3 rfl (by omega)
    (fun z hz => by
      simp only [List.mem_cons, List.not_mem_nil, or_false] at hz
      have h1 : I64 1 := ⟨by show (-9223372036854775808 : Int) ≤ 1; omega, by show (1 : Int) ≤ 9223372036854775807; omega⟩
      rcases hz with rfl | rfl | rfl
      · exact ⟨h1, o2'⟩
      · exact ⟨h1, o3'⟩
      · exact ⟨h1, o4⟩) (by simp)
  obtain ⟨A5, hA5⟩ : ∃ W, W = A4.alloc (.cells #[.int .i64 1, .slice (some ⟨w.heap.size + 1, 0, none⟩) 3 3, .int .i64 1, .slice (some ⟨w.heap.size + 1 + 1, 0, none⟩) 3 3, .int .i64 1, .slice (some ⟨w.heap.size + 1 + 1 + 1, 0, none⟩) 3 3] 56) := ⟨_, rfl⟩
  rw [← hA5] at hL ⊢
  have s5 : A5.heap.size = w.heap.size + 1 + 1 + 1 + 1 + 1 := by rw [hA5, ← s4]; simp
  have b5 : Below A4.heap.size A4 A5 := hA5 ▸ (Below.refl _ _).alloc (Nat.le_refl _) _
  rw [s4] at hL
  obtain ⟨A6, hA6⟩ : ∃ W, W = A5.alloc (.cells #[.string ⟨#[109, 105, 100, 100, 108, 101]⟩, .string ⟨#[103, 97, 117, 115, 115, 50]⟩, .string ⟨#[103, 97, 117, 115, 115, 51]⟩] 9) := ⟨_, rfl⟩
  rw [← hA6]
  have b6 : Below A5.heap.size A5 A6 := hA6 ▸ (Below.refl _ _).alloc (Nat.le_refl _) _
  have b16 : Below A1.heap.size A1 A6 := b2.trans ((b3.trans ((b4.trans ((b5.trans (b6.mono b5.size)).mono b4.size)).mono b3.size)).mono b2.size)
  have b06 : Below w.heap.size w A6 := b1.trans (b16.mono b1.size)
  refine ⟨b06, cell_below b16 c1.1, cell_below b16 c1.2, ⟨_, rfl, hI, ownMss_rd (ownMss_only h (Only.of_below (fp := []) b06) (by simp))⟩, ?_, ?_, ?_, ?_⟩
  · exact rdMs_mono b6 (ownMs_rd hL)
  · rw [hA6, ← s5]; simp
  · rw [hA6, ← s5]; simp
  · rw [hA6, ← s5]; simp
theorem MadeK.mono {w0 W W' : World} {B : Nat} {F : FldZ} {ad : Option Addr} {l c : Nat} (h : MadeK w0 W B F ad l c) (hb : Below W.heap.size W W') : MadeK w0 W' B F ad l c :=
  ⟨h.bel.trans (hb.mono h.bel.size), cell_below hb h.k0, cell_below hb h.k1, rdFld_mono hb h.fld, rdMs_mono hb h.sq, cell_below hb h.n0, cell_below hb h.n1, cell_below hb h.n2⟩
set_option maxRecDepth 100000 in
set_option maxHeartbeats 12800000 in
theorem fnInvariants_walk (v : Value) (bs : List Int) (w : World) (h : RdB w v bs) (hm : MaxCell w) :
    Calls Tryz.prog 4 #[v] w fun e w' => e = .returned (.bool true) ∧ Below w.heap.size w w' := by
  obtain ⟨adc, lc, cc, rfl, hlc, _, _, h'⟩ := rdS_open h
  clear h
  have HBIG := Lib.hid (big_any adc lc cc w)
  by_cases hbig : (1048576 : Int) < lc
  case pos =>
    have hbt : decide ((1048576 : Int) < lc) = true := decide_eq_true hbig
    go_enter Tryz.func4, Tryz.ntmps4
    go_wp2_with fail
    refine HBIG.out.mono ?_
    rw [hbt]
    rintro e w1 ⟨rfl, rfl⟩
    go_wp2
    go_ret
    exact ⟨rfl, Below.refl _ _⟩
  have hbt : decide ((1048576 : Int) < lc) = false := decide_eq_false hbig
  have HDK := Lib.hid (drawKeeps_any _ bs w h')
  have HCB := Lib.hid (fun (W : World) (hW : Below w.heap.size w W) => (rdS_mono (w := w) (w' := W) (El := ElB) (fun _ _ h => h) hW h' : RdB W (.slice adc lc cc) bs))
  have HAT := Lib.hid (fun (i : Int) (hi : i = 0 ∨ i = 1) (W : World) (hW : Below w.heap.size w W) => at0_any (.slice adc lc cc) bs i W (HCB.out W hW) hi (by rw [hlc]; omega))
  have HMC := Lib.hid (fun (W : World) (hW : Below w.heap.size w W) => maxCell_mono hW hm)
  clear h' hm hlc
  go_enter Tryz.func4, Tryz.ntmps4
  go_wp2_with fail
  refine HBIG.out.mono ?_
  rw [hbt]
  rintro e w1 ⟨rfl, rfl⟩
  go_wp2_with fail
  refine HDK.out.mono ?_
  rintro e u1 ⟨vM, vh, f, h, rfl, ⟨vM1, heq, hI, hM⟩, hh, hff, hfh, hb1⟩
  obtain rfl : vM1 = vM := by simpa using heq.symm
  clear heq
  obtain ⟨adF, lF, cF, rfl⟩ := rdMss_slice hM
  obtain ⟨adH, lH, cH, rfl, _, _, _, hh'⟩ := rdS_open hh
  have hr1 : RdFld u1 (.agg #[.int .i64 f.dim, .slice adF lF cF]) f := ⟨_, rfl, hI, hM⟩
  obtain ⟨w2, hw2⟩ : ∃ W, W = u1.alloc (.cells #[.int .i64 f.dim, .slice adF lF cF] 30) := ⟨_, rfl⟩
  have hal : Below u1.heap.size u1 w2 := hw2 ▸ (Below.refl _ _).alloc (Nat.le_refl _) _
  obtain ⟨B1, hB1⟩ : ∃ B, B = u1.heap.size := ⟨_, rfl⟩
  have hc : w2.cell? ⟨B1, 0, none⟩ = some (.int .i64 f.dim) ∧ w2.cell? ⟨B1, 1, none⟩ = some (.slice adF lF cF) := by rw [hw2, hB1]; simp
  have HB2 := Lib.hid (hb1.trans (hal.mono hb1.size))
  have HK := Lib.hid (fun (W : World) (hW : Below w2.heap.size w2 W) => And.intro (cell_below hW hc.1) (cell_below hW hc.2))
  have HFD := Lib.hid (fun (W : World) (hW : Below w2.heap.size w2 W) => rdFld_mono (hal.trans (hW.mono hal.size)) hr1)
  have HPL := Lib.hid (fun (W : World) (hW : Below w2.heap.size w2 W) => (rdMs_mono (hal.trans (hW.mono hal.size)) hh' : RdMs W (.slice adH lH cH) h))
  have HFF := Lib.hid hff
  have HFH := Lib.hid hfh
  have HINT := Lib.hid (integers_any _ bs w2 (HCB.out w2 HB2.out))
  have Hw2 := Lib.hid hw2
  have HE1 := Lib.hid hB1
  clear hr1 hw2 hal hB1 hc hI hM hh hh' hff hfh hb1
  go_wp2_with fail
  rw [← Hw2.out, ← HE1.out]
  refine HINT.out.mono ?_
  rintro e w3 ⟨a, b, z0, rfl, ha, hb, _, hb3⟩
  obtain ⟨kb, hkb⟩ : ∃ x, keepsB f h = x := ⟨_, rfl⟩
  have CKI := Lib.hid (fun (W : World) (hW : Below w2.heap.size w2 W) => keepsI_eq hkb (HFD.out W hW) (HPL.out W hW) HFF.out HFH.out)
  have CKS := Lib.hid (fun (W : World) (hW : Below w2.heap.size w2 W) => keepsS_eq hkb (HFD.out W hW) (HPL.out W hW))
  have HAB := Lib.hid (And.intro ha hb)
  have HKB := Lib.hid hkb
  have HB3 := Lib.hid hb3
  have hdr : Below w3.heap.size w3 w3.drew := (Below.refl _ _).drew
  have HB := Lib.hid (hb3.trans (hdr.mono hb3.size))
  clear ha hb hkb hb3 hdr
  go_wp2_with fail
  go_cut [40] from 34 to 40 (fun s40 wx => s40 = .bool false ∧ Below w2.heap.size w2 wx)
  case first =>
    go_region_held3 (fun w' => w'.cell? ⟨B1, 0, none⟩ = some (.int .i64 f.dim) ∧ w'.cell? ⟨B1, 1, none⟩ = some (.slice adF lF cF)) (with_reducible exact HK.out _ HB.out) (first | (go_at_call 20; (with_reducible refine (CKI.out _ HB.out).mono ?_); rintro e wa ⟨rfl, hba⟩; have HB := Lib.hid (HB.out.trans (hba.mono HB.out.size)); clear hba) | (go_at_call 21; (with_reducible refine (CKS.out _ HB.out).mono ?_); rintro e wa ⟨rfl, hba⟩; have HB := Lib.hid (HB.out.trans (hba.mono HB.out.size)); clear hba))
    all_goals (
      go_wp2_with fail
      go_meet
      exact ⟨by cases kb <;> rfl, HB.out⟩)
  case rest =>
  obtain ⟨w4, hw4⟩ : ∃ W, W = wc := ⟨_, rfl⟩
  subst hw4
  obtain ⟨rfl, hb4⟩ := hcut
  have HB4 := Lib.hid hb4
  have HA4 := Lib.hid (HAT.out 0 (.inl rfl) w4 (HB2.out.trans (hb4.mono HB2.out.size)))
  clear hb4 HB
  go_wp2_with fail
  refine HA4.out.mono ?_
  rintro e w' ⟨x, rfl, hx, rfl⟩
  obtain ⟨k5, hk⟩ : ∃ k, k = x % 5 := ⟨_, rfl⟩
  have hk5 : k5 < 5 := by omega
  have hkI : (x : Int) % 5 = (k5 : Int) := by omega
  obtain ⟨N, hN⟩ : ∃ N, N = k5 + 1 := ⟨_, rfl⟩
  have hwN : IntKind.i64.wrap (1 + (k5 : Int)) = (N : Int) := by rw [hN, IntKind.wrap_i64]; omega
  have hwN2 : 1 + (k5 : Int) = (N : Int) := by omega
  have HN := Lib.hid (show 1 ≤ N ∧ N ≤ 5 by omega)
  have CKS4 := Lib.hid (CKS.out w4 HB4.out)
  obtain ⟨hk0, hk1⟩ := HK.out w4 HB4.out
  clear hk hN hx
  go_wp2_with fail
  refine CKS4.out.mono ?_
  rintro e w5 ⟨rfl, hb5⟩
  have HB5 := Lib.hid hb5
  have HB25 := Lib.hid (HB4.out.trans (hb5.mono HB4.out.size))
  clear hb5 hk0 hk1
  go_upto_if 47 with fail
  go_cut [9, 10, 11, 12] from 48 to 82 (fun _ _ _ _ wx => Below w4.heap.size w4 wx)
  case first =>
    cases kb with
    | false =>
      go_wp2_with fail
      go_meet
      exact HB5.out
    | true =>
    obtain ⟨n, hd, _, hn1, hn6, _⟩ := fldOk_parts (keeps_fld HKB.out)
    have hmk := mk_rowG n f.dim hd (by omega)
    have HD := Lib.hid hd
    have HZR := Lib.hid (zeros_row w5 (n := n) (by omega))
    have HZB := Lib.hid (show Below w5.heap.size w5 (w5.alloc (.cells (Array.replicate n (.int .i64 0)) 3)) from (Below.refl _ _).alloc (Nat.le_refl _) _)
    obtain ⟨hk0, hk1⟩ := HK.out w5 HB25.out
    clear hd
    go_wp2
    go_loopw [10] (fun s10 wq => ∃ (k : Nat) (ys : List Int), k ≤ n ∧ s10 = .int .i64 k ∧ OwnI 3 wq (.slice (some ⟨w5.heap.size, 0, none⟩) n n) ys [w5.heap.size] ∧ ys.length = n ∧ Nums ys ∧ Below w5.heap.size w5 wq) (fun s10 _ => n - (intOf s10).toNat)
    case atStart => exact ⟨0, List.replicate n 0, Nat.zero_le _, rfl, HZR.out, by simp, nums_zero n, HZB.out⟩
    case round =>
    obtain ⟨wk, rfl⟩ : ∃ W, W = wr := ⟨_, rfl⟩
    obtain ⟨k, ys, hk, rfl, hown, hyl, hyn, hbk⟩ := hrel
    clear HZR HZB hk0 hk1 hmk
    obtain ⟨hk0, hk1⟩ := HK.out wk (HB25.out.trans (hbk.mono HB25.out.size))
    have HBK := Lib.hid hbk
    have HYL := Lib.hid hyl
    have HYN := Lib.hid hyn
    clear hbk hyn
    by_cases hlt : k < n
    case pos =>
      have hltI : (k : Int) < f.dim := by rw [HD.out]; omega
      have hltn : (k : Int) < n := by omega
      obtain ⟨x0, hx0⟩ : ∃ x, ys[k]? = some x := ⟨_, List.getElem?_eq_getElem (by omega)⟩
      obtain ⟨q1, q2, hput⟩ := rowI_put hown hx0
      have HPUT := Lib.hid hput
      clear hput hown hx0 hyl
      go_wp2_with (first | (go_at_call 23; ((with_reducible refine (sTimes_any _ _ _).mono ?_); rintro e w' ⟨rfl, rfl⟩)) | (go_at_call 22; ((with_reducible refine (sPlus_any _ _ _).mono ?_); rintro e w' ⟨rfl, rfl⟩)))
      go_roundw
      case rel =>
        have hz := plusZ_bd (timesZ a ((k : Int) + 1)) b
        exact ⟨k + 1, ys.set k _, by omega, by go_num, HPUT.out _ ⟨by omega, by omega⟩, by rw [List.length_set]; exact HYL.out, nums_set HYN.out hz, HBK.out.setCell (Nat.le_refl _) _⟩
      case measure => simp [intOf]; omega
    case neg =>
      have hkn : k = n := by omega
      have hge : ¬ ((k : Int) < f.dim) := by rw [HD.out]; omega
      have HB2k := Lib.hid (HB25.out.trans (HBK.out.mono HB25.out.size))
      have HEX := Lib.hid (exact_any _ _ f ys (N : Int) 1 wk (HFD.out wk HB2k.out) (ownI_rd hown) HFF.out)
      clear hkn hown hyl
      go_wp2_with fail
      refine HEX.out.mono ?_
      rintro e w6 ⟨vp, fp, rfl, hop, _, hb6⟩
      have HAL := Lib.hid (pAlong_any _ vp h _ w6 (HPL.out w6 (HB2k.out.trans (hb6.mono HB2k.out.size))) (ownII_rd hop) HFH.out (exact_hd (by rw [HYL.out]; omega)))
      have HB6 := Lib.hid (HBK.out.trans (hb6.mono HBK.out.size))
      clear hop hb6
      go_wp2_with fail
      refine HAL.out.mono ?_
      rintro e w7 ⟨vx, fx, rfl, hox, _, hb7⟩
      obtain ⟨adX, lX, cX, rfl, _, hlX, hcX, hx'⟩ := rdS_open (ownI_rd hox)
      have HXR := Lib.hid (show RdI w7 (.slice adX lX cX) (polyAlongL h (exactL f ys N 1)) from hx')
      have HZE := Lib.hid (fun (j : Nat) (x : Int) (hj : 1 ≤ j) (hx : (polyAlongL h (exactL f ys N 1))[j]? = some x) => keeps_along HKB.out (by rw [HD.out, HYL.out]) HYN.out (by have := HN.out; omega) hj hx)
      have HB7 := Lib.hid (HB6.out.trans (hb7.mono HB6.out.size))
      clear hx' hox hb7
      go_wp2
      go_loopw [12] (fun s12 wq => ∃ j : Nat, 1 ≤ j ∧ j ≤ lX + 1 ∧ s12 = .int .i64 j ∧ wq = w7) (fun s12 _ => lX + 1 - (intOf s12).toNat)
      case atStart => exact ⟨1, Nat.le_refl _, by omega, rfl, rfl⟩
      case round =>
      obtain ⟨j, hj1, hjl, rfl, hwr⟩ := hrel
      subst hwr
      by_cases hlt2 : j < lX
      case pos =>
        obtain ⟨bx, ox, x0, rfl, hx0, hc0, _, _⟩ := rdI_get HXR.out hlt2
        obtain rfl := HZE.out j x0 hj1 hx0
        have hltI2 : (j : Int) < lX := by omega
        clear hx0
        go_wp2
        go_roundw
        case rel => exact ⟨j + 1, by omega, by omega, by go_num, trivial⟩
        case measure => simp [intOf]; omega
      case neg =>
        have hge2 : ¬ ((j : Int) < lX) := by omega
        go_wp2_with fail
        go_meet
        exact HB5.out.trans (HB7.out.mono HB5.out.size)
  case rest =>
  obtain ⟨w8, hw8⟩ : ∃ W, W = wc := ⟨_, rfl⟩
  subst hw8
  have HB8 := Lib.hid (HB4.out.trans ((show Below w4.heap.size w4 w8 from hcut).mono HB4.out.size))
  clear hcut
  obtain ⟨a1, ha1⟩ : ∃ z, timesZ a 1 = z := ⟨_, rfl⟩
  obtain ⟨s1, hs1⟩ : ∃ z, plusZ a1 b = z := ⟨_, rfl⟩
  obtain ⟨c1, hc1⟩ : ∃ z, minusZ 0 s1 = z := ⟨_, rfl⟩
  obtain ⟨b1, hb1⟩ : ∃ z, timesZ b 1 = z := ⟨_, rfl⟩
  have HT1 := Lib.hid (fun (W : World) => (ha1 ▸ sTimes_any a 1 W : Calls Tryz.prog 23 #[.int .i64 a, .int .i64 1] W fun e w' => e = .returned (.int .i64 a1) ∧ W = w'))
  have HP1 := Lib.hid (fun (W : World) => (hs1 ▸ sPlus_any a1 b W : Calls Tryz.prog 22 #[.int .i64 a1, .int .i64 b] W fun e w' => e = .returned (.int .i64 s1) ∧ W = w'))
  have HM1 := Lib.hid (fun (W : World) => (hc1 ▸ sMinus_any 0 s1 W : Calls Tryz.prog 26 #[.int .i64 0, .int .i64 s1] W fun e w' => e = .returned (.int .i64 c1) ∧ W = w'))
  have HT2 := Lib.hid (fun (W : World) => (hb1 ▸ sTimes_any b 1 W : Calls Tryz.prog 23 #[.int .i64 b, .int .i64 1] W fun e w' => e = .returned (.int .i64 b1) ∧ W = w'))
  have HSUM := Lib.hid (show resZ (a1 + b + c1) = 0 from by rw [← hc1, ← hs1, ← ha1]; exact rot_sum a b)
  have hba := timesZ_bd a 1
  have hbb := timesZ_bd b 1
  have hbc := minusZ_bd 0 s1
  rw [ha1] at hba
  rw [hb1] at hbb
  rw [hc1] at hbc
  have HBB := Lib.hid hbb
  have HRT := Lib.hid (rotor_any a1 b c1 w8 ⟨by omega, by omega⟩ HAB.out.2 ⟨by omega, by omega⟩)
  clear ha1 hs1 hc1 hb1 hba hbb hbc
  go_wp2_with fail
  refine (HT1.out w8).mono ?_
  rintro e w' ⟨rfl, rfl⟩
  go_wp2_with fail
  refine (HP1.out w8).mono ?_
  rintro e w' ⟨rfl, rfl⟩
  go_wp2_with fail
  refine (HM1.out w8).mono ?_
  rintro e w' ⟨rfl, rfl⟩
  go_wp2_with fail
  refine HRT.out.mono ?_
  rintro e w9 ⟨vr, fr, rfl, hor, _, hb9⟩
  obtain ⟨F, hF⟩ : ∃ F, F = rotF a1 b c1 := ⟨_, rfl⟩
  rw [← hF] at hor
  obtain ⟨vMr, rfl, hIr, hMr⟩ := hor
  obtain ⟨adR, lR, cR, rfl⟩ := ownMss_slice hMr
  have hmade := madeK_new hIr hMr
  obtain ⟨w10, hw10⟩ : ∃ W, W = ((((((w9.alloc (.cells #[.int .i64 F.dim, .slice adR lR cR] 30)).alloc (.cells #[.int .i64 2, .int .i64 0, .int .i64 0] 3)).alloc (.cells #[.int .i64 0, .int .i64 2, .int .i64 0] 3)).alloc (.cells #[.int .i64 0, .int .i64 0, .int .i64 2] 3)).alloc (.cells #[.int .i64 1, .slice (some ⟨w9.heap.size + 1, 0, none⟩) 3 3, .int .i64 1, .slice (some ⟨w9.heap.size + 1 + 1, 0, none⟩) 3 3, .int .i64 1, .slice (some ⟨w9.heap.size + 1 + 1 + 1, 0, none⟩) 3 3] 56)).alloc (.cells #[.string ⟨#[109, 105, 100, 100, 108, 101]⟩, .string ⟨#[103, 97, 117, 115, 115, 50]⟩, .string ⟨#[103, 97, 117, 115, 115, 51]⟩] 9)) := ⟨_, rfl⟩
  rw [← hw10] at hmade
  have HFE := Lib.hid hF
  have HMD := Lib.hid (fun (W : World) (hW : Below w10.heap.size w10 W) => hmade.mono hW)
  have HB10 := Lib.hid (HB8.out.trans ((hb9.trans (hmade.bel.mono hb9.size)).mono HB8.out.size))
  have HBW10 := Lib.hid (HB2.out.trans (HB10.out.mono HB2.out.size))
  have HW10 := Lib.hid hw10
  have HA10 := Lib.hid (HAT.out 1 (.inr rfl) w10 HBW10.out)
  have HMX := Lib.hid (HMC.out w10 HBW10.out)
  have HNM := Lib.hid (fun (k : Nat) (hk : k < 3) => show ∃ nm, w10.cell? ⟨w9.heap.size + 1 + 1 + 1 + 1 + 1, k, none⟩ = some (.string nm) ∧ ∀ W, MaxCell W → Calls Tryz.prog 10 #[.string nm] W (GivesH W) from by
    rcases (by omega : k = 0 ∨ k = 1 ∨ k = 2) with rfl | rfl | rfl
    · exact ⟨_, hmade.n0, fun W hW => kno3_any 0 _ (.inl ⟨rfl, rfl⟩) W hW⟩
    · exact ⟨_, hmade.n1, fun W hW => kno3_any 1 _ (.inr (.inl ⟨rfl, rfl⟩)) W hW⟩
    · exact ⟨_, hmade.n2, fun W hW => kno3_any 2 _ (.inr (.inr ⟨rfl, rfl⟩)) W hW⟩)
  clear hF hIr hMr hmade hw10 hb9
  go_wp2_with fail
  rw [← HW10.out]
  refine HA10.out.mono ?_
  rintro e w' ⟨y, rfl, hy, rfl⟩
  obtain ⟨k3, hk3⟩ : ∃ k, k = y % 3 := ⟨_, rfl⟩
  have hk33 : k3 < 3 := by omega
  have hk3I : (y : Int) % 3 = (k3 : Int) := by omega
  have hk3B : (k3 : Int) < 3 := by omega
  obtain ⟨nm, hnm, hkn⟩ := HNM.out k3 hk33
  have HKN := Lib.hid (hkn w10 HMX.out)
  clear hkn hk3 hk33 hy
  go_wp2_with fail
  refine HKN.out.mono ?_
  rintro e u11 ⟨s, hs1, hs3, vt, rfl, ⟨vA, vB, fA, fB, rfl, hst, hA, hB, _, _⟩, hb11⟩
  obtain ⟨ada, la, ca, rfl, _⟩ := ownI_open hA
  obtain ⟨adb, lb, cb, rfl, _⟩ := ownI_open hB
  have hrt : RdTab u11 (.agg #[.int .i64 (gauT s).stages, .slice ada la ca, .slice adb lb cb]) (gauT s) := ⟨_, _, rfl, hst, ownI_rd hA, ownI_rd hB⟩
  obtain ⟨t, ht⟩ : ∃ t, t = gauT s := ⟨_, rfl⟩
  have HTOK := Lib.hid (show tabOkB t = true from ht ▸ gauT_ok hs1 hs3)
  have HTSY := Lib.hid (show SympT t from ht ▸ gauT_symp hs1 hs3)
  rw [← ht] at hrt ⊢
  clear ht hs1 hs3 hst hA hB
  obtain ⟨w11, hw11⟩ : ∃ W, W = u11.alloc (.cells #[.int .i64 t.stages, .slice ada la ca, .slice adb lb cb] 37) := ⟨_, rfl⟩
  have hal11 : Below u11.heap.size u11 w11 := hw11 ▸ (Below.refl _ _).alloc (Nat.le_refl _) _
  obtain ⟨B5, hB5⟩ : ∃ B, B = u11.heap.size := ⟨_, rfl⟩
  have hc5 : w11.cell? ⟨B5, 0, none⟩ = some (.int .i64 t.stages) ∧ w11.cell? ⟨B5, 1, none⟩ = some (.slice ada la ca) ∧ w11.cell? ⟨B5, 2, none⟩ = some (.slice adb lb cb) := by rw [hw11, hB5]; simp
  have HB11 := Lib.hid (show Below w10.heap.size w10 w11 from hb11.trans (hal11.mono hb11.size))
  have HK5 := Lib.hid (fun (W : World) (hW : Below w11.heap.size w11 W) => And.intro (cell_below hW hc5.1) (And.intro (cell_below hW hc5.2.1) (cell_below hW hc5.2.2)))
  have HTB := Lib.hid (fun (W : World) (hW : Below w11.heap.size w11 W) => rdTab_mono (hal11.trans (hW.mono hal11.size)) hrt)
  have HMD11 := Lib.hid (fun (W : World) (hW : Below w11.heap.size w11 W) => HMD.out W (HB11.out.trans (hW.mono HB11.out.size)))
  have HW11 := Lib.hid hw11
  have HE5 := Lib.hid hB5
  have o12 := lit_own (e := 3) w11 [1, 2, b1] (fun x hx => by
    have := HBB.out
    simp only [List.mem_cons, List.not_mem_nil, or_false] at hx
    rcases hx with rfl | rfl | rfl
    · exact ⟨by show (-9223372036854775808 : Int) ≤ 1; omega, by show (1 : Int) ≤ 9223372036854775807; omega⟩
    · exact ⟨by show (-9223372036854775808 : Int) ≤ 2; omega, by show (2 : Int) ≤ 9223372036854775807; omega⟩
    · exact ⟨by omega, by omega⟩) (by simp) #[.int .i64 1, .int .i64 2, .int .i64 b1] rfl 3 rfl
  obtain ⟨w12, hw12⟩ : ∃ W, W = w11.alloc (.cells #[.int .i64 1, .int .i64 2, .int .i64 b1] 3) := ⟨_, rfl⟩
  have hal12 : Below w11.heap.size w11 w12 := hw12 ▸ (Below.refl _ _).alloc (Nat.le_refl _) _
  rw [← hw12] at o12
  have HHU := Lib.hid (hull_any _ [1, 2, b1] N (N : Int) rfl (by have := HN.out; omega) w12 (ownI_rd o12) rfl)
  have HB12 := Lib.hid hal12
  have HW12 := Lib.hid hw12
  clear hrt hw11 hal11 hB5 hc5 hb11 hw12 hal12 o12 hnm
  go_wp2_with fail
  rw [← HW11.out]
  refine (HT2.out w11).mono ?_
  rintro e w' ⟨rfl, rfl⟩
  go_wp2_with fail
  rw [← HW12.out, ← HE5.out]
  refine HHU.out.mono ?_
  rintro e w13 ⟨vs, fs, rfl, hos, _, hb13⟩
  have hb1113 := HB12.out.trans (hb13.mono HB12.out.size)
  obtain ⟨S, hS⟩ : ∃ S, S = hullZ [1, 2, b1] N := ⟨_, rfl⟩
  rw [← hS] at hos
  have hnum : ([1, 2, b1] : List Int).length = 3 ∧ Nums [1, 2, b1] := ⟨rfl, fun x hx => by
    have := HBB.out
    simp only [List.mem_cons, List.not_mem_nil, or_false] at hx
    rcases hx with rfl | rfl | rfl <;> omega⟩
  have hrs := rot_step HSUM.out HTOK.out HTSY.out hnum (M := N) (by have := HN.out; omega)
  have hkr := keeps_rot HSUM.out
  have hfo := rotF_ok a1 b c1
  have hrS := row3_hull (M := N) hnum
  rw [← hS, ← HFE.out] at hrs
  rw [← HFE.out] at hkr hfo
  rw [← hS] at hrS
  obtain ⟨X, hX⟩ : ∃ X, X = stepL t F S := ⟨_, rfl⟩
  rw [← hX] at hrs
  have HRS := Lib.hid hrs
  have HRW := Lib.hid hrS
  have HKR := Lib.hid hkr
  have hmd13 := HMD11.out w13 hb1113
  have HST := Lib.hid (step_any _ _ vs t F S w13 (HTB.out w13 hb1113) hmd13.fld (ownII_rd hos) (fit_okI hfo))
  rw [← hX] at HST
  have HFF2 := Lib.hid (fit_okI hfo)
  have HSS := Lib.hid (fun (W : World) (hW : Below w13.heap.size w13 W) => rdII_mono hW (ownII_rd hos))
  have HB13 := Lib.hid hb1113
  obtain ⟨hk0, hk1, hk2⟩ := HK5.out w13 hb1113
  have hk3 := hmd13.k0
  have hk4 := hmd13.k1
  have HXE := Lib.hid hX
  clear hb13 hb1113 hS hos hnum hrs hkr hfo hrS hX hmd13
  go_wp2_with fail
  refine HST.out.mono ?_
  rintro e w14 ⟨vx0, fx0, rfl, hox0, _, hb14⟩
  have HB14 := Lib.hid hb14
  have HB1114 := Lib.hid (HB13.out.trans (hb14.mono HB13.out.size))
  have HPA := Lib.hid (pAlong_any _ vx0 sqM X w14 (HMD11.out w14 HB1114.out).sq (ownII_rd hox0) sq_fit (by rw [row3_hd HRS.out.1 (by omega)]; omega))
  clear hb14 hox0
  go_wp2_with fail
  refine HPA.out.mono ?_
  rintro e w15 ⟨vx1, fx1, rfl, hox1, _, hb15⟩
  obtain ⟨adX, lX, cX, rfl, hlX, _, _, hx1⟩ := rdS_open (ownI_rd hox1)
  have HX1 := Lib.hid (fun (W : World) (hW : Below w15.heap.size w15 W) => (rdI_mono hW hx1 : RdI W (.slice adX lX cX) (polyAlongL sqM X)))
  have HB1315 := Lib.hid (HB14.out.trans (hb15.mono HB14.out.size))
  have HB1115 := Lib.hid (HB1114.out.trans (hb15.mono HB1114.out.size))
  have HPB := Lib.hid (pAlong_any _ vs sqM S w15 (HMD11.out w15 HB1115.out).sq (HSS.out w15 HB1315.out) sq_fit (by rw [row3_hd HRW.out (by omega)]; omega))
  have hlN : lX = N + 1 := by rw [← hlX]; exact HRS.out.2.1
  have HLN := Lib.hid hlN
  clear hox1 hb15 hx1 hlX hlN
  go_wp2_with fail
  refine HPB.out.mono ?_
  rintro e w16 ⟨vy1, fy1, rfl, hoy1, _, hb16⟩
  have HB1116 := Lib.hid (HB1115.out.trans (hb16.mono HB1115.out.size))
  have hmd16 := HMD11.out w16 HB1116.out
  have HKP := Lib.hid (keepsI_eq HKR.out hmd16.fld hmd16.sq HFF2.out sq_fit)
  have HXX := Lib.hid hb16
  have HYY := Lib.hid (fun (W : World) (hW : Below w16.heap.size w16 W) => rdI_mono hW (ownI_rd hoy1))
  obtain ⟨hk3, hk4⟩ := And.intro hmd16.k0 hmd16.k1
  clear hb16 hoy1 hmd16
  go_wp2_with fail
  refine HKP.out.mono ?_
  rintro e w17 ⟨rfl, hb17⟩
  have HII := Lib.hid (ints_same (.slice adX lX cX) vy1 _ w17 (HX1.out w17 (HXX.out.trans (hb17.mono HXX.out.size))) (HRS.out.2.2 ▸ HYY.out w17 hb17))
  have HB17 := Lib.hid (HB1116.out.trans (hb17.mono HB1116.out.size))
  have hlt : ((lX : Int) == (N : Int) + 1) = true := by have := HLN.out; simp; omega
  clear hb17
  go_wp2_with fail
  refine HII.out.mono ?_
  rintro e w18 ⟨rfl, m, hm⟩
  have hb18 : Below w17.heap.size w17 w18 := hm ▸ blw_drewN (Below.refl _ _) m
  have HB18 := Lib.hid (HB17.out.trans (hb18.mono HB17.out.size))
  have HFIN := Lib.hid (HBW10.out.trans ((HB11.out.trans (HB18.out.mono HB11.out.size)).mono HBW10.out.size))
  clear hb18 hm
  go_wp2
  go_ret
  exact ⟨rfl, HFIN.out⟩
end Go.Proofs.YtbcjhpgkodeoeaaGreatDoor
