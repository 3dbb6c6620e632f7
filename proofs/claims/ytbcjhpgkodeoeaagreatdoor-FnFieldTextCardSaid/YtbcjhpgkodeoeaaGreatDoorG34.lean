/- A drawn motion: a tableau, a field, a path. Conditions: none. -/
import Derived.Deep.Cut
import Derived.Test.YtbcjhpgkodeoeaaGreatDoorG13
import Derived.Test.YtbcjhpgkodeoeaaGreatDoorG32
import Derived.Test.YtbcjhpgkodeoeaaGreatDoorG33
set_option linter.unusedSimpArgs false
set_option linter.unusedVariables false

namespace Go.Proofs.YtbcjhpgkodeoeaaGreatDoor
open Go.RowKit Go.Sort

/-- The cells of two boxes, and what may be written. -/
structure Five (w : World) (b6 b7 : Nat) (a1 a2 a3 c1 c2 : Value) : Prop where
  k1 : w.cell? ⟨b6, 0, none⟩ = some a1
  k2 : w.cell? ⟨b6, 1, none⟩ = some a2
  k3 : w.cell? ⟨b6, 2, none⟩ = some a3
  m1 : w.cell? ⟨b7, 0, none⟩ = some c1
  m2 : w.cell? ⟨b7, 1, none⟩ = some c2
theorem Five.only {w w' : World} {b6 b7 : Nat} {a1 a2 a3 c1 c2 : Value} {fp : List Nat} (h : Five w b6 b7 a1 a2 a3 c1 c2) (ho : Only fp w w') (h6 : b6 ∉ fp) (h7 : b7 ∉ fp) : Five w' b6 b7 a1 a2 a3 c1 c2 :=
  ⟨cell_only ho h6 h.k1, cell_only ho h6 h.k2, cell_only ho h6 h.k3, cell_only ho h7 h.m1, cell_only ho h7 h.m2⟩
theorem Five.cells {w : World} {b6 b7 : Nat} {a1 a2 a3 c1 c2 : Value} (h : Five w b6 b7 a1 a2 a3 c1 c2) : w.cell? ⟨b6, 0, none⟩ = some a1 ∧ w.cell? ⟨b6, 1, none⟩ = some a2 ∧ w.cell? ⟨b6, 2, none⟩ = some a3 ∧ w.cell? ⟨b7, 0, none⟩ = some c1 ∧ w.cell? ⟨b7, 1, none⟩ = some c2 := ⟨h.k1, h.k2, h.k3, h.m1, h.m2⟩
theorem Five.set3 {w : World} {b6 b7 B : Nat} {a1 a2 a3 c1 c2 u0 u1 u2 : Value} (h : Five w b6 b7 a1 a2 a3 c1 c2) (h6 : b6 ≠ B) (h7 : b7 ≠ B) : Five (((w.setCell ⟨B, 0, none⟩ u0).setCell ⟨B, 1, none⟩ u1).setCell ⟨B, 2, none⟩ u2) b6 b7 a1 a2 a3 c1 c2 :=
  h.only (fp := [B]) ((((Only.refl _ _).setCell (by simp) _).setCell (by simp) _).setCell (by simp) _) (by simpa using h6) (by simpa using h7)
theorem Five.set2 {w : World} {b6 b7 B : Nat} {a1 a2 a3 c1 c2 u0 u1 : Value} (h : Five w b6 b7 a1 a2 a3 c1 c2) (h6 : b6 ≠ B) (h7 : b7 ≠ B) : Five ((w.setCell ⟨B, 0, none⟩ u0).setCell ⟨B, 1, none⟩ u1) b6 b7 a1 a2 a3 c1 c2 :=
  h.only (fp := [B]) (((Only.refl _ _).setCell (by simp) _).setCell (by simp) _) (by simpa using h6) (by simpa using h7)
/-- What is drawn. -/
def Motion (w : World) : Ending → World → Prop := fun e w' => ∃ (st : Int) (adA : Option Addr) (lA cA : Nat) (adB : Option Addr) (lB cB : Nat) (vF vP : Value) (f : FldZ) (xs : List (List Int)) (n m : Nat),
  e = .returned (.tuple #[.agg #[.int .i64 st, .slice adA lA cA, .slice adB lB cB], vF, vP]) ∧ RdFld w' vF f ∧ fldOkB f = true ∧ f.dim = n ∧ 1 ≤ n ∧ n ≤ 2 ∧ RdII w' vP xs ∧ PathRow n m xs ∧ 1 ≤ m ∧ m ≤ 6 ∧ Below w.heap.size w w'

set_option maxRecDepth 100000 in
set_option maxHeartbeats 12800000 in
theorem motion_any (v : Value) (bs : List Int) (w : World) (h : RdB w v bs) : Calls Tryz.prog 28 #[v] w (Motion w) := by
  obtain ⟨adc, lc, cc, rfl, _, _, _, h'⟩ := rdS_open h
  obtain ⟨W0, hW0⟩ : ∃ W, W = w.alloc (.cells #[.int .i64 0, .slice none 0 0, .slice none 0 0] 37) := ⟨_, rfl⟩
  have hb0 : Below w.heap.size w W0 := hW0 ▸ (Below.refl _ _).alloc (Nat.le_refl _) _
  have hs0 : W0.heap.size = w.heap.size + 1 := by rw [hW0]; simp
  obtain ⟨W1, hW1⟩ : ∃ W, W = W0.alloc (.cells #[.int .i64 0, .slice none 0 0] 30) := ⟨_, rfl⟩
  have hb1 : Below W0.heap.size W0 W1 := hW1 ▸ (Below.refl _ _).alloc (Nat.le_refl _) _
  have hs1 : W1.heap.size = W0.heap.size + 1 := by rw [hW1]; simp
  have hX0 : BX W0 w.heap.size := hW0 ▸ BX.new w (.int .i64 0) (.slice none 0 0) (.slice none 0 0) 37
  have HX := Lib.hid (hX0.only (Only.of_below (fp := []) hb1) (by simp))
  have HY := Lib.hid (show B2 W1 W0.heap.size from hW1 ▸ B2.new W0 (.int .i64 0) (.slice none 0 0) 30)
  have HB1 := Lib.hid (hb0.trans (hb1.mono hb0.size))
  have HW : Hid (W1 = (w.alloc (.cells #[.int .i64 0, .slice none 0 0, .slice none 0 0] 37)).alloc (.cells #[.int .i64 0, .slice none 0 0] 30)) := Lib.hid (by rw [hW1, hW0])
  have hc1 : RdB W1 (.slice adc lc cc) bs := rdS_mono (w := w) (w' := W1) (El := ElB) (fun _ _ h => h) HB1.out h'
  obtain ⟨R3, hR3⟩ : ∃ B, B = W0.heap.size := ⟨_, rfl⟩
  rw [← hR3] at HY hs1
  have HS := Lib.hid (show w.heap.size + 1 = R3 ∧ W1.heap.size = w.heap.size + 2 from by omega)
  clear hW0 hW1 hb0 hb1 hX0 hs0 hs1 hR3 h
  go_enter Tryz.func28, Tryz.ntmps28
  go_wp2_with fail
  rw [← HW.out, HS.out.1]
  refine (new_any _ bs W1 hc1).mono ?_
  rintro e w1 ⟨g, rfl, hg, hcu, hbw⟩
  have hR2g : w.heap.size < g := by have := HS.out.2; omega
  have hR3g : R3 < g := by have := HS.out; omega
  have HX1 := Lib.hid (HX.out.only (Only.of_below (fp := []) hbw) (by simp))
  have HY1 := Lib.hid (HY.out.only (Only.of_below (fp := []) hbw) (by simp))
  have HB := Lib.hid (HB1.out.trans (hbw.mono HB1.out.size))
  have hgl := hcu.lt
  have HTAB := Lib.hid (tableau_any g w1 hcu)
  clear hbw hc1 HX HY HB1 HW hg
  go_wp2_with fail
  refine HTAB.out.mono ?_
  rintro e w2 ⟨vt, tt, ft, rfl, hot, _, hd2⟩
  obtain ⟨st, adA, lA, cA, adB, lB, cB, rfl⟩ := ownTab_shape hot
  obtain ⟨w2', hw2'⟩ : ∃ W, W = w2.alloc (.cells #[.int .i64 st, .slice adA lA cA, .slice adB lB cB] 37) := ⟨_, rfl⟩
  have hal2 : Below w2.heap.size w2 w2' := hw2' ▸ (Below.refl _ _).alloc (Nat.le_refl _) _
  have hk1 : w2'.cell? ⟨w2.heap.size, 0, none⟩ = some (.int .i64 st) := by rw [hw2']; simp
  have hk2 : w2'.cell? ⟨w2.heap.size, 1, none⟩ = some (.slice adA lA cA) := by rw [hw2']; simp
  have hk3 : w2'.cell? ⟨w2.heap.size, 2, none⟩ = some (.slice adB lB cB) := by rw [hw2']; simp
  have hgw2 : g < w2.heap.size := by have := hd2.only.size; omega
  have HD2 := Lib.hid (hd2.below hal2)
  have HBE2 := Lib.hid (below_any g 2 2 rfl (by omega) (by omega) w2' (hd2.below hal2).cur)
  have HW2 := Lib.hid hw2'
  clear hot hd2 hw2' hal2 HTAB
  go_wp2_with fail
  rw [← HW2.out]
  refine HBE2.out.mono ?_
  rintro e w3 ⟨a, rfl, ha, hd3⟩
  have HD3 := Lib.hid (HD2.out.trans hd3)
  have HO3 := Lib.hid hd3.only
  clear hd3 HBE2
  go_wp2_with fail
  refine (below_any g 2 2 rfl (by omega) (by omega) w3 HD3.out.cur).mono ?_
  rintro e w4 ⟨b, rfl, hb, hd4⟩
  have HD4 := Lib.hid (HD3.out.trans hd4)
  have HO4 := Lib.hid (HO3.out.trans hd4.only)
  clear hd4
  go_wp2_with fail
  refine (field_any g (1 + a) (2 + b) _ _ (by omega) (by omega) (by omega) (by omega) (by omega) w4 HD4.out.cur).mono ?_
  rintro e w5 ⟨vf, f, fpf, rfl, hof, hfi, hfn, hd5⟩
  obtain ⟨vPp, rfl, hfI, hMss⟩ := hof
  obtain ⟨adF, lF, cF, rfl⟩ := ownMss_slice hMss
  have hof : OwnFld 24 56 3 w5 (.agg #[.int .i64 f.dim, .slice adF lF cF]) f fpf := ⟨_, rfl, hfI, hMss⟩
  obtain ⟨w5', hw5'⟩ : ∃ W, W = w5.alloc (.cells #[.int .i64 f.dim, .slice adF lF cF] 30) := ⟨_, rfl⟩
  have hal5 : Below w5.heap.size w5 w5' := hw5' ▸ (Below.refl _ _).alloc (Nat.le_refl _) _
  have hg5 : g < w5.heap.size := by have := hd5.only.size; have := HD4.out.only.size; omega
  have h25 : w2.heap.size ≤ w5.heap.size := by
    have h1 : w2.heap.size < w2'.heap.size := by rw [HW2.out]; simp
    have h2 := HO4.out.size
    have h3 := hd5.only.size
    omega
  have h6g : w2.heap.size ∉ [g] := by simp; omega
  have h7g : w5.heap.size ∉ [g] := by simp; omega
  have ho25 : Only [g] w2' w5' := (HO4.out.trans hd5.only).trans (Only.of_below hal5)
  have HF5 := Lib.hid (show Five w5' w2.heap.size w5.heap.size (.int .i64 st) (.slice adA lA cA) (.slice adB lB cB) (.int .i64 f.dim) (.slice adF lF cF) from
    ⟨cell_only ho25 h6g hk1, cell_only ho25 h6g hk2, cell_only ho25 h6g hk3, by rw [hw5']; simp, by rw [hw5']; simp⟩)
  have hdr : Below w5'.heap.size w5' w5'.drew := (Below.refl _ _).drew
  have HFD := Lib.hid (HF5.out.only (Only.of_below (fp := []) hdr) (by simp) (by simp))
  have hd5' := (HD4.out.trans hd5).below hal5
  have HDD := Lib.hid (hd5'.below hdr)
  have HBE := Lib.hid (below_any g 6 6 rfl (by omega) (by omega) w5'.drew (hd5'.below hdr).cur)
  have HOFD := Lib.hid (ownFld_only (ownFld_only hof (Only.of_below (fp := []) hal5) (by simp)) (Only.of_below (fp := []) hdr) (by simp))
  have HFN := Lib.hid (show ∀ b ∈ fpf, g < b from fun b hb => by have := hfn b hb; have := HD4.out.only.size; omega)
  have HDIM := Lib.hid (show f.dim = ((1 + a : Nat) : Int) from hfi.1)
  have HFOK := Lib.hid (fldIn_ok hfi (by omega) (by omega) (by omega))
  have HW5 := Lib.hid hw5'
  have hn6 : w2.heap.size ≠ w.heap.size := by omega
  have hn7 : w5.heap.size ≠ w.heap.size := by omega
  have hm6 : w2.heap.size ≠ R3 := by omega
  have hm7 : w5.heap.size ≠ R3 := by omega
  have hRR : w.heap.size ≠ R3 := by have := HS.out.1; omega
  clear hof hfI hMss hw5' hal5 ho25 hdr hd5' hd5 hfi hfn hk1 hk2 hk3
  go_wp2
  rw [← HW5.out]
  go_region_held3 (fun w' => w'.cell? ⟨w2.heap.size, 0, none⟩ = some (.int .i64 st) ∧ w'.cell? ⟨w2.heap.size, 1, none⟩ = some (.slice adA lA cA) ∧ w'.cell? ⟨w2.heap.size, 2, none⟩ = some (.slice adB lB cB) ∧ w'.cell? ⟨w5.heap.size, 0, none⟩ = some (.int .i64 f.dim) ∧ w'.cell? ⟨w5.heap.size, 1, none⟩ = some (.slice adF lF cF)) (first | with_reducible exact HFD.out.cells | with_reducible exact HF5.out.cells | with_reducible exact HFA.out.cells | with_reducible exact HFB.out.cells | with_reducible exact (HFB.out.set3 hn6 hn7).cells | with_reducible exact ((HFB.out.set3 hn6 hn7).set2 hm6 hm7).cells | with_reducible exact (HFB.out.set2 hm6 hm7).cells | with_reducible exact ((HFB.out.set2 hm6 hm7).set3 hn6 hn7).cells) (first | (go_at_call 42; (with_reducible refine (HBE.out).mono ?_); rintro e wa ⟨x, rfl, hx, hda⟩; have hwx : IntKind.i64.wrap (1 + (x : Int)) = 1 + (x : Int) := (IntWalk.i64_in _ (by omega)); have HFA := Lib.hid (HFD.out.only hda.only h6g h7g); have HDA := Lib.hid (HDD.out.trans hda); have HOA := Lib.hid (ownFld_only HOFD.out hda.only (fun b hb => (by have := HFN.out b hb; simp; omega))); clear hda) | (go_at_call 43; (with_reducible refine (path_any g (1 + a) (1 + x) f.dim _ HDIM.out (by first | omega | (rw [hwx]; omega)) (by omega) (by omega) wa HDA.out.cur).mono ?_); rintro e wb ⟨vp, xs, fx, rfl, hoP, hpr, hpn, hdb⟩; have HPN := Lib.hid (show ∀ b ∈ fx, g < b from fun b hb => (by have h1 := hpn b hb; have h2 := HDA.out.only.size; omega)); clear hpn; have HFB := Lib.hid (HFA.out.only hdb.only h6g h7g); have HDB := Lib.hid (HDA.out.trans hdb); have HOB := Lib.hid (ownFld_only HOA.out hdb.only (fun b hb => (by have := HFN.out b hb; simp; omega))); obtain ⟨⟨x0, hx0⟩, ⟨x1, hx1⟩, ⟨x2, hx2⟩, hxf0, hxf1, hxf2⟩ := HX1.out.only HDB.out.only (by simp; omega); obtain ⟨⟨y0, hy0⟩, ⟨y1, hy1⟩, hyf0, hyf1⟩ := HY1.out.only HDB.out.only (by simp; omega); have HPP := Lib.hid hoP; have HPR := Lib.hid hpr; clear hoP hpr hdb))
  all_goals (
    go_wp2
    refine bodyPost_ret (v := .tuple #[.agg #[.int .i64 st, .slice adA lA cA, .slice adB lB cB], .agg #[.int .i64 f.dim, .slice adF lF cF], vp]) (by simp [results, Tryz.results28, go_sem, hRR, hx0, hx1, hx2, hy0, hy1]) rfl ?_
    have hO : Only [w.heap.size, R3] wb (((((wb.setCell ⟨w.heap.size, 0, none⟩ (.int .i64 st)).setCell ⟨w.heap.size, 1, none⟩ (.slice adA lA cA)).setCell ⟨w.heap.size, 2, none⟩ (.slice adB lB cB)).setCell ⟨R3, 0, none⟩ (.int .i64 f.dim)).setCell ⟨R3, 1, none⟩ (.slice adF lF cF)) :=
      (((((Only.refl _ _).setCell (by simp) _).setCell (by simp) _).setCell (by simp) _).setCell (by simp) _).setCell (by simp) _
    have hBw : Below w.heap.size w wb := HB.out.trans (HDB.out.only.below HB.out.size (by simp; omega))
    exact ⟨st, adA, lA, cA, adB, lB, cB, _, vp, f, xs, 1 + a, 1 + x, rfl, ownFld_rd (ownFld_only HOB.out hO (fun b hb => by have := HFN.out b hb; simp; omega)), HFOK.out, HDIM.out, by omega, by omega, ownII_rd (ownII_only HPP.out hO (fun b hb => by have := HPN.out b hb; simp; omega)), HPR.out, by omega, by omega,
      hBw.trans ((hO.below (B := w.heap.size) hBw.size (by intro b hb; simp at hb; have := HS.out.1; omega)).mono (Nat.le_refl _))⟩)
end Go.Proofs.YtbcjhpgkodeoeaaGreatDoor
