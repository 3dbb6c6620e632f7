/- IsSymmetricTableau of the program and of the reference. Conditions: none. -/
import Derived.Test.YtkmcpcbfoiflbaaSAdj
set_option linter.unusedSimpArgs false
set_option linter.unusedVariables false
namespace Go.Proofs.Ytkmcpcbfoiflbaa
open Go.RowKit Go.Sort

theorem symB_no {t : TabZ} (h : tabOkB t = false) : symB t = false := by rw [symB, h]; rfl
theorem symB_A {t : TabZ} (hA : decide (adjA t.B.length t.A t.B = t.A) = false) : symB t = false := by rw [symB, hA]; simp
theorem symB_B {t : TabZ} (h : tabOkB t = true) (hA : decide (adjA t.B.length t.A t.B = t.A) = true) : symB t = decide (t.B.reverse = t.B) := by rw [symB, h, hA]; simp
theorem adjT_yes {t : TabZ} (h : tabOkB t = true) : adjT t = ⟨t.stages, adjA t.B.length t.A t.B, t.B.reverse⟩ := by rw [adjT, if_pos h]
theorem adj_at (v : Value) (t : TabZ) (w : World) (ht : RdTab w v t) : Calls Try.prog 52 #[v] w fun e w' => ∃ z aA lA cA aB lB cB, e = .returned (.agg #[.int .i64 z, .slice aA lA cA, .slice aB lB cB]) ∧ RdI w' (.slice aA lA cA) (adjT t).A ∧ RdI w' (.slice aB lB cB) (adjT t).B ∧ Below w.heap.size w w' :=
  (adj_any v t w ht).mono fun e w' ⟨x, he, ⟨vA, vB, hx, _, hA, hB⟩, hb⟩ => by
    obtain ⟨aA, lA, cA, rfl⟩ := rdI_slice hA
    obtain ⟨aB, lB, cB, rfl⟩ := rdI_slice hB
    exact ⟨_, _, _, _, _, _, _, by rw [he, hx], hA, hB, hb⟩
theorem sAdj_at (v : Value) (t : TabZ) (w : World) (ht : RdTab w v t) : Calls Try.prog 50 #[v] w fun e w' => ∃ z aA lA cA aB lB cB, e = .returned (.agg #[.int .i64 z, .slice aA lA cA, .slice aB lB cB]) ∧ RdI w' (.slice aA lA cA) (adjT t).A ∧ RdI w' (.slice aB lB cB) (adjT t).B ∧ Below w.heap.size w w' :=
  (sAdj_any v t w ht).mono fun e w' ⟨x, he, ⟨vA, vB, hx, _, hA, hB⟩, hb⟩ => by
    obtain ⟨aA, lA, cA, rfl⟩ := rdI_slice hA
    obtain ⟨aB, lB, cB, rfl⟩ := rdI_slice hB
    exact ⟨_, _, _, _, _, _, _, by rw [he, hx], hA, hB, hb⟩

set_option maxRecDepth 100000 in
set_option maxHeartbeats 3200000 in
theorem isSym_any (v : Value) (t : TabZ) (w : World) (ht : RdTab w v t) : Calls Try.prog 25 #[v] w fun e w' => e = .returned (.bool (symB t)) ∧ Below w.heap.size w w' := by
  obtain ⟨vA, vB, rfl, hIt, hA, hB⟩ := ht
  obtain ⟨aA, lA, cA, rfl⟩ := rdI_slice hA
  obtain ⟨aB, lB, cB, rfl⟩ := rdI_slice hB
  obtain ⟨W1, hW1⟩ : ∃ W, W = w.alloc (.cells #[.int .i64 t.stages, .slice aA lA cA, .slice aB lB cB] 32) := ⟨_, rfl⟩
  have hb1 : Below w.heap.size w W1 := hW1 ▸ (Below.refl _ _).alloc (Nat.le_refl _) _
  obtain ⟨hT0, hT1, hT2, _, _, _⟩ := box3_free (w := w) (W := W1) (e := 32) (a := .int .i64 t.stages) (b := .slice aA lA cA) (c := .slice aB lB cB) (by rw [← hW1]; exact Below.refl _ _)
  have HW1 := Lib.hid hW1
  have HB1 := Lib.hid hb1
  have HR := Lib.hid (fun (x : World) (hx : Below w.heap.size w x) => show RdTab x (.agg #[.int .i64 t.stages, .slice aA lA cA, .slice aB lB cB]) t from ⟨_, _, rfl, hIt, rdI_mono hx hA, rdI_mono hx hB⟩)
  clear hW1 hb1
  go_enter Try.func25, Try.ntmps25
  go_wp2_with fail
  rw [← HW1.out]
  refine (adj_at _ t _ (HR.out _ HB1.out)).mono ?_
  rintro e w1 ⟨z, xA, kA, dA, xB, kB, dB, rfl, hxA, hxB, hb2⟩
  obtain ⟨W2, hW2⟩ : ∃ W, W = w1.alloc (.cells #[.int .i64 z, .slice xA kA dA, .slice xB kB dB] 32) := ⟨_, rfl⟩
  have hb3 : Below w1.heap.size w1 W2 := hW2 ▸ (Below.refl _ _).alloc (Nat.le_refl _) _
  have hT0a := cell_below hb3 (cell_below hb2 hT0)
  have hT1a := cell_below hb3 (cell_below hb2 hT1)
  have hT2a := cell_below hb3 (cell_below hb2 hT2)
  obtain ⟨hX0, hX1, hX2, _, _, _⟩ := box3_free (w := w1) (W := W2) (e := 32) (a := .int .i64 z) (b := .slice xA kA dA) (c := .slice xB kB dB) (by rw [← hW2]; exact Below.refl _ _)
  have hbw2 := HB1.out.trans ((hb2.trans (hb3.mono hb2.size)).mono HB1.out.size)
  have HXA := Lib.hid (rdI_mono hb3 hxA)
  have HXB := Lib.hid (rdI_mono hb3 hxB)
  have HB2 := Lib.hid hbw2
  clear hT0 hT1 hT2 hb2 hb3 hbw2 hxA hxB
  subst hW2
  cases hto : tabOkB t with
  | false =>
    have HS := Lib.hid (symB_no hto)
    go_wp2_with fail
    refine (tabOk_eq _ t _ (HR.out _ HB2.out) hto).mono ?_
    rintro e w3 ⟨rfl, hb4⟩
    go_wp2
    go_ret
    exact ⟨ret_bool (by rw [HS.out]), HB2.out.trans (hb4.mono HB2.out.size)⟩
  | true =>
  cases hcA : decide (adjA t.B.length t.A t.B = t.A) with
  | false =>
    have HS := Lib.hid (symB_A hcA)
    have HTO := Lib.hid hto
    have HCA := Lib.hid hcA
    clear hto hcA
    go_wp2_with fail
    refine (tabOk_eq _ t _ (HR.out _ HB2.out) HTO.out).mono ?_
    rintro e w3 ⟨rfl, hb4⟩
    have hT1b := cell_below hb4 hT1a
    have hX1b := cell_below hb4 hX1
    have hbw3 := HB2.out.trans (hb4.mono HB2.out.size)
    have hra := rdI_mono hb4 HXA.out
    rw [adjT_yes HTO.out] at hra
    have hta := rdI_mono hbw3 hA
    have HB3 := Lib.hid hbw3
    clear hb4 hT0a hT1a hT2a hX0 hX1 hX2 hbw3
    go_wp2_with fail
    refine (equal_eq _ _ _ _ _ hra hta HCA.out).mono ?_
    rintro e w4 hq
    obtain ⟨rfl, hb5⟩ := hq.below
    go_wp2
    go_ret
    exact ⟨ret_bool (by rw [HS.out]), HB3.out.trans (hb5.mono HB3.out.size)⟩
  | true =>
    obtain ⟨c, hc⟩ : ∃ c, c = decide (t.B.reverse = t.B) := ⟨_, rfl⟩
    have HS := Lib.hid ((symB_B hto hcA).trans hc.symm)
    have HC := Lib.hid hc.symm
    have HTO := Lib.hid hto
    have HCA := Lib.hid hcA
    clear hto hcA hc
    go_wp2_with fail
    refine (tabOk_eq _ t _ (HR.out _ HB2.out) HTO.out).mono ?_
    rintro e w3 ⟨rfl, hb4⟩
    have hT1b := cell_below hb4 hT1a
    have hX1b := cell_below hb4 hX1
    have hT2b := cell_below hb4 hT2a
    have hX2b := cell_below hb4 hX2
    have hbw3 := HB2.out.trans (hb4.mono HB2.out.size)
    have hra := rdI_mono hb4 HXA.out
    have hrb := rdI_mono hb4 HXB.out
    rw [adjT_yes HTO.out] at hra hrb
    have HRB := Lib.hid hrb
    have hta := rdI_mono hbw3 hA
    have HB3 := Lib.hid hbw3
    clear hb4 hT0a hT1a hT2a hX0 hX1 hX2 hbw3 hrb
    go_wp2_with fail
    refine (equal_eq _ _ _ _ _ hra hta HCA.out).mono ?_
    rintro e w4 hq
    obtain ⟨rfl, hb5⟩ := hq.below
    have hT2c := cell_below hb5 hT2b
    have hX2c := cell_below hb5 hX2b
    have hrb := rdI_mono hb5 HRB.out
    have hbw4 := HB3.out.trans (hb5.mono HB3.out.size)
    have htb := rdI_mono hbw4 hB
    have HB4 := Lib.hid hbw4
    clear hb5 hT1b hX1b hT2b hX2b hbw4 hq hra hta
    go_wp2_with fail
    refine (equal_eq _ _ _ _ _ hrb htb HC.out).mono ?_
    rintro e w5 hq
    obtain ⟨rfl, hb6⟩ := hq.below
    go_wp2
    go_ret
    exact ⟨ret_bool (by rw [HS.out]), HB4.out.trans (hb6.mono HB4.out.size)⟩

set_option maxRecDepth 100000 in
set_option maxHeartbeats 3200000 in
theorem sIsSym_any (v : Value) (t : TabZ) (w : World) (ht : RdTab w v t) : Calls Try.prog 24 #[v] w fun e w' => e = .returned (.bool (symB t)) ∧ Below w.heap.size w w' := by
  obtain ⟨vA, vB, rfl, hIt, hA, hB⟩ := ht
  obtain ⟨aA, lA, cA, rfl⟩ := rdI_slice hA
  obtain ⟨aB, lB, cB, rfl⟩ := rdI_slice hB
  obtain ⟨W1, hW1⟩ : ∃ W, W = w.alloc (.cells #[.int .i64 t.stages, .slice aA lA cA, .slice aB lB cB] 32) := ⟨_, rfl⟩
  have hb1 : Below w.heap.size w W1 := hW1 ▸ (Below.refl _ _).alloc (Nat.le_refl _) _
  obtain ⟨hT0, hT1, hT2, _, _, _⟩ := box3_free (w := w) (W := W1) (e := 32) (a := .int .i64 t.stages) (b := .slice aA lA cA) (c := .slice aB lB cB) (by rw [← hW1]; exact Below.refl _ _)
  have HW1 := Lib.hid hW1
  have HB1 := Lib.hid hb1
  have HR := Lib.hid (fun (x : World) (hx : Below w.heap.size w x) => show RdTab x (.agg #[.int .i64 t.stages, .slice aA lA cA, .slice aB lB cB]) t from ⟨_, _, rfl, hIt, rdI_mono hx hA, rdI_mono hx hB⟩)
  clear hW1 hb1
  go_enter Try.func24, Try.ntmps24
  go_wp2_with fail
  rw [← HW1.out]
  refine (sAdj_at _ t _ (HR.out _ HB1.out)).mono ?_
  rintro e w1 ⟨z, xA, kA, dA, xB, kB, dB, rfl, hxA, hxB, hb2⟩
  obtain ⟨W2, hW2⟩ : ∃ W, W = w1.alloc (.cells #[.int .i64 z, .slice xA kA dA, .slice xB kB dB] 32) := ⟨_, rfl⟩
  have hb3 : Below w1.heap.size w1 W2 := hW2 ▸ (Below.refl _ _).alloc (Nat.le_refl _) _
  have hT0a := cell_below hb3 (cell_below hb2 hT0)
  have hT1a := cell_below hb3 (cell_below hb2 hT1)
  have hT2a := cell_below hb3 (cell_below hb2 hT2)
  obtain ⟨hX0, hX1, hX2, _, _, _⟩ := box3_free (w := w1) (W := W2) (e := 32) (a := .int .i64 z) (b := .slice xA kA dA) (c := .slice xB kB dB) (by rw [← hW2]; exact Below.refl _ _)
  have hbw2 := HB1.out.trans ((hb2.trans (hb3.mono hb2.size)).mono HB1.out.size)
  have HXA := Lib.hid (rdI_mono hb3 hxA)
  have HXB := Lib.hid (rdI_mono hb3 hxB)
  have HB2 := Lib.hid hbw2
  clear hT0 hT1 hT2 hb2 hb3 hbw2 hxA hxB
  subst hW2
  cases hto : tabOkB t with
  | false =>
    have HS := Lib.hid (symB_no hto)
    go_wp2_with fail
    refine (sTabOk_eq _ t _ (HR.out _ HB2.out) hto).mono ?_
    rintro e w3 ⟨rfl, hb4⟩
    go_wp2
    go_ret
    exact ⟨ret_bool (by rw [HS.out]), HB2.out.trans (hb4.mono HB2.out.size)⟩
  | true =>
  cases hcA : decide (adjA t.B.length t.A t.B = t.A) with
  | false =>
    have HS := Lib.hid (symB_A hcA)
    have HTO := Lib.hid hto
    have HCA := Lib.hid hcA
    clear hto hcA
    go_wp2_with fail
    refine (sTabOk_eq _ t _ (HR.out _ HB2.out) HTO.out).mono ?_
    rintro e w3 ⟨rfl, hb4⟩
    have hT1b := cell_below hb4 hT1a
    have hX1b := cell_below hb4 hX1
    have hbw3 := HB2.out.trans (hb4.mono HB2.out.size)
    have hra := rdI_mono hb4 HXA.out
    rw [adjT_yes HTO.out] at hra
    have hta := rdI_mono hbw3 hA
    have HB3 := Lib.hid hbw3
    clear hb4 hT0a hT1a hT2a hX0 hX1 hX2 hbw3
    go_wp2_with fail
    refine (same_eq _ _ _ _ _ hra hta HCA.out).mono ?_
    rintro e w4 hq
    obtain ⟨rfl, hb5⟩ := hq.below
    go_wp2
    go_ret
    exact ⟨ret_bool (by rw [HS.out]), HB3.out.trans (hb5.mono HB3.out.size)⟩
  | true =>
    obtain ⟨c, hc⟩ : ∃ c, c = decide (t.B.reverse = t.B) := ⟨_, rfl⟩
    have HS := Lib.hid ((symB_B hto hcA).trans hc.symm)
    have HC := Lib.hid hc.symm
    have HTO := Lib.hid hto
    have HCA := Lib.hid hcA
    clear hto hcA hc
    go_wp2_with fail
    refine (sTabOk_eq _ t _ (HR.out _ HB2.out) HTO.out).mono ?_
    rintro e w3 ⟨rfl, hb4⟩
    have hT1b := cell_below hb4 hT1a
    have hX1b := cell_below hb4 hX1
    have hT2b := cell_below hb4 hT2a
    have hX2b := cell_below hb4 hX2
    have hbw3 := HB2.out.trans (hb4.mono HB2.out.size)
    have hra := rdI_mono hb4 HXA.out
    have hrb := rdI_mono hb4 HXB.out
    rw [adjT_yes HTO.out] at hra hrb
    have HRB := Lib.hid hrb
    have hta := rdI_mono hbw3 hA
    have HB3 := Lib.hid hbw3
    clear hb4 hT0a hT1a hT2a hX0 hX1 hX2 hbw3 hrb
    go_wp2_with fail
    refine (same_eq _ _ _ _ _ hra hta HCA.out).mono ?_
    rintro e w4 hq
    obtain ⟨rfl, hb5⟩ := hq.below
    have hT2c := cell_below hb5 hT2b
    have hX2c := cell_below hb5 hX2b
    have hrb := rdI_mono hb5 HRB.out
    have hbw4 := HB3.out.trans (hb5.mono HB3.out.size)
    have htb := rdI_mono hbw4 hB
    have HB4 := Lib.hid hbw4
    clear hb5 hT1b hX1b hT2b hX2b hbw4 hq hra hta
    go_wp2_with fail
    refine (same_eq _ _ _ _ _ hrb htb HC.out).mono ?_
    rintro e w5 hq
    obtain ⟨rfl, hb6⟩ := hq.below
    go_wp2
    go_ret
    exact ⟨ret_bool (by rw [HS.out]), HB4.out.trans (hb6.mono HB4.out.size)⟩
end Go.Proofs.Ytkmcpcbfoiflbaa
