/- AdjointTableau of the program: what it returns reads as the adjoint. Conditions: none. -/
import Derived.Test.YtkmcpcbfoiflbaaAdj
import Derived.StillTailTactics
set_option linter.unusedSimpArgs false
set_option linter.unusedVariables false
namespace Go.Proofs.Ytkmcpcbfoiflbaa
open Go.RowKit Go.Sort

def adjT (t : TabZ) : TabZ := if tabOkB t = true then ⟨t.stages, adjA t.B.length t.A t.B, t.B.reverse⟩ else ⟨0, [], []⟩
/-- What a call returns that is only read. -/
def RdsTab (t : TabZ) (w : World) : Ending → World → Prop := fun e w' => ∃ v, e = .returned v ∧ RdTab w' v t ∧ Below w.heap.size w w'
theorem ownI_put2 {e : Nat} {w : World} {g len cap k : Nat} {xs : List Int} {c : Int} (h : OwnI e w (.slice (some ⟨g, 0, none⟩) len cap) xs [g]) (hk : k < xs.length) (hc : I64 c) :
    (∃ u, w.cell? ⟨g, k, none⟩ = some u) ∧ w.frozen? ⟨g, k, none⟩ = false ∧ OwnI e (w.setCell ⟨g, k, none⟩ (.int .i64 c)) (.slice (some ⟨g, 0, none⟩) len cap) (xs.set k c) [g] := by
  have hI := h.2.2
  obtain ⟨_, _, _, he, hl, _, _, hown, _, _⟩ := ownI_open h
  injection he with e1 e2 e3
  subst e1 e2 e3
  have hs := (hown.stored k (.int .i64 c)).1
  refine ⟨?_, hown.frozenAt k, ⟨by rw [List.length_set, hl, List.map_set]; exact hs, rfl, fun z hz => ?_⟩⟩
  · rw [hown.cellAt k (by omega), List.getElem?_map, List.getElem?_eq_getElem hk]
    exact ⟨_, rfl⟩
  · rcases List.mem_or_eq_of_mem_set hz with hz | rfl
    · exact hI z hz
    · exact hc
theorem box3_free {w W : World} {e : Nat} {a b c : Value} (hb : Below (w.alloc (.cells #[a, b, c] e)).heap.size (w.alloc (.cells #[a, b, c] e)) W) :
    W.cell? ⟨w.heap.size, 0, none⟩ = some a ∧ W.cell? ⟨w.heap.size, 1, none⟩ = some b ∧ W.cell? ⟨w.heap.size, 2, none⟩ = some c ∧ W.frozen? ⟨w.heap.size, 0, none⟩ = false ∧ W.frozen? ⟨w.heap.size, 1, none⟩ = false ∧ W.frozen? ⟨w.heap.size, 2, none⟩ = false := by
  have hlt : w.heap.size < (w.alloc (.cells #[a, b, c] e)).heap.size := by simp
  refine ⟨(hb.cell (p := ⟨w.heap.size, 0, none⟩) hlt).trans ?_, (hb.cell (p := ⟨w.heap.size, 1, none⟩) hlt).trans ?_, (hb.cell (p := ⟨w.heap.size, 2, none⟩) hlt).trans ?_, (hb.frozen (p := ⟨w.heap.size, 0, none⟩) hlt).trans ?_, (hb.frozen (p := ⟨w.heap.size, 1, none⟩) hlt).trans ?_, (hb.frozen (p := ⟨w.heap.size, 2, none⟩) hlt).trans ?_⟩ <;> simp
theorem frozen_only {w w' : World} {fp : List Nat} {b i : Nat} (hb : Only fp w w') (hn : b ∉ fp) (hl : b < w.heap.size) (h : w.frozen? ⟨b, i, none⟩ = false) : w'.frozen? ⟨b, i, none⟩ = false := by
  have h1 := hb.block b hl hn
  simp only [World.frozen?] at h ⊢
  rw [h1]
  exact h
/-- The adjoint's rows under way. -/
structure AdjInv (e : Nat) (W w : World) (g h n N : Nat) (A B : List Int) (m i : Nat) : Prop where
  a : OwnI e w (.slice (some ⟨g, 0, none⟩) N N) (fromR A m) [g]
  b : OwnI e w (.slice (some ⟨h, 0, none⟩) n n) (fromR B i) [h]
  only : Only [g, h] W w
theorem AdjInv.bel {e : Nat} {W w w1 : World} {g h n N m i : Nat} {A B : List Int} (hI : AdjInv e W w g h n N A B m i) (hb : Below w.heap.size w w1) : AdjInv e W w1 g h n N A B m i :=
  ⟨ownI_only hI.a (Only.of_below (fp := []) hb) (by simp), ownI_only hI.b (Only.of_below (fp := []) hb) (by simp), hI.only.trans (Only.of_below hb)⟩
theorem AdjInv.putA {e : Nat} {W w : World} {g h n N m i k : Nat} {A B : List Int} {c : Int} (hI : AdjInv e W w g h n N A B m i) (hgh : g ≠ h) (hk : k < A.length) (hm : A.length - 1 - m = k) (hml : m < A.length) (hx : A[k]? = some c) (hc : I64 c) :
    (∃ u, w.cell? ⟨g, k, none⟩ = some u) ∧ w.frozen? ⟨g, k, none⟩ = false ∧ AdjInv e W (w.setCell ⟨g, k, none⟩ (.int .i64 c)) g h n N A B (m + 1) i := by
  obtain ⟨h1, h2, h3⟩ := ownI_put2 (k := k) hI.a (by rw [fromR_len]; exact hk) hc
  have ho : Only [g] w (w.setCell ⟨g, k, none⟩ (.int .i64 c)) := (Only.refl _ _).setCell (by simp) _
  refine ⟨h1, h2, ⟨?_, ownI_only hI.b ho (by simpa using hgh.symm), hI.only.trans (ho.mono (by simp))⟩⟩
  rw [← fromR_next hml (by rw [hm]; exact hx), hm]
  exact h3
theorem AdjInv.putB {e : Nat} {W w : World} {g h n N m i k : Nat} {A B : List Int} {c : Int} (hI : AdjInv e W w g h n N A B m i) (hgh : g ≠ h) (hk : k < B.length) (hm : B.length - 1 - i = k) (hml : i < B.length) (hx : B[k]? = some c) (hc : I64 c) :
    (∃ u, w.cell? ⟨h, k, none⟩ = some u) ∧ w.frozen? ⟨h, k, none⟩ = false ∧ AdjInv e W (w.setCell ⟨h, k, none⟩ (.int .i64 c)) g h n N A B m (i + 1) := by
  obtain ⟨h1, h2, h3⟩ := ownI_put2 (k := k) hI.b (by rw [fromR_len]; exact hk) hc
  have ho : Only [h] w (w.setCell ⟨h, k, none⟩ (.int .i64 c)) := (Only.refl _ _).setCell (by simp) _
  refine ⟨h1, h2, ⟨ownI_only hI.a ho (by simpa using hgh), ?_, hI.only.trans (ho.mono (by simp))⟩⟩
  rw [← fromR_next hml (by rw [hm]; exact hx), hm]
  exact h3

set_option maxRecDepth 100000 in
set_option maxHeartbeats 6400000 in
theorem adj_any (v : Value) (t : TabZ) (w : World) (ht : RdTab w v t) : Calls Try.prog 52 #[v] w (RdsTab (adjT t) w) := by
  obtain ⟨vA, vB, rfl, hIt, hA, hB⟩ := ht
  obtain ⟨aA, lA, cA, rfl⟩ := rdI_slice hA
  obtain ⟨aB, lB, cB, rfl⟩ := rdI_slice hB
  obtain ⟨W1, hW1⟩ : ∃ W, W = w.alloc (.cells #[.int .i64 t.stages, .slice aA lA cA, .slice aB lB cB] 32) := ⟨_, rfl⟩
  obtain ⟨W2, hW2⟩ : ∃ W, W = W1.alloc (.cells #[.int .i64 0, .slice none 0 0, .slice none 0 0] 32) := ⟨_, rfl⟩
  have hb1 : Below w.heap.size w W1 := hW1 ▸ (Below.refl _ _).alloc (Nat.le_refl _) _
  have hb12 : Below W1.heap.size W1 W2 := hW2 ▸ (Below.refl _ _).alloc (Nat.le_refl _) _
  have hb2 : Below w.heap.size w W2 := hb1.trans (hb12.mono hb1.size)
  have hs1 : W1.heap.size = w.heap.size + 1 := by rw [hW1]; simp
  have hs2 : W2.heap.size = w.heap.size + 2 := by rw [show w.heap.size + 2 = W1.heap.size + 1 by omega, hW2]; simp
  obtain ⟨hT0, hT1, hT2, _, _, _⟩ := box3_free (w := w) (W := W2) (e := 32) (a := .int .i64 t.stages) (b := .slice aA lA cA) (c := .slice aB lB cB) (by rw [← hW1]; exact hb12)
  obtain ⟨hR0, hR1, hR2, hR3, hR4, hR5⟩ := box3_free (w := W1) (W := W2) (e := 32) (a := .int .i64 0) (b := .slice none 0 0) (c := .slice none 0 0) (by rw [← hW2]; exact Below.refl _ _)
  rw [hs1] at hR0 hR1 hR2 hR3 hR4 hR5
  have htW : RdTab W2 (.agg #[.int .i64 t.stages, .slice aA lA cA, .slice aB lB cB]) t := ⟨_, _, rfl, hIt, rdI_mono hb2 hA, rdI_mono hb2 hB⟩
  have HW1 := Lib.hid hW1
  have HW2 := Lib.hid hW2
  have HTW := Lib.hid htW
  have hlt2 : w.heap.size + 1 < W2.heap.size := by omega
  clear hW1 hW2 hb12 hb1 hs1 htW
  cases hto : tabOkB t with
  | false =>
    have HE := Lib.hid (show adjT t = ⟨0, [], []⟩ by rw [adjT, if_neg (by rw [hto]; decide)])
    go_enter Try.func52, Try.ntmps52
    go_wp2_with fail
    rw [← HW1.out, ← HW2.out]
    refine (tabOk_eq _ t _ HTW.out hto).mono ?_
    rintro e w1 ⟨rfl, hb3⟩
    have hR0a := cell_below hb3 hR0
    have hR1a := cell_below hb3 hR1
    have hR2a := cell_below hb3 hR2
    have hR3a := (hb3.frozen (p := ⟨w.heap.size + 1, 0, none⟩) hlt2).trans hR3
    have hR4a := (hb3.frozen (p := ⟨w.heap.size + 1, 1, none⟩) hlt2).trans hR4
    have hR5a := (hb3.frozen (p := ⟨w.heap.size + 1, 2, none⟩) hlt2).trans hR5
    have HB := Lib.hid (hb2.trans (hb3.mono hb2.size))
    clear hb3 hR0 hR1 hR2 hR3 hR4 hR5 hb2 hT0 hT1 hT2
    go_wp2
    refine bodyPost_ret (v := .agg #[.int .i64 0, .slice none 0 0, .slice none 0 0]) (by simp [results, Try.results52, go_sem, hR0a, hR1a, hR2a]) rfl ?_
    exact ⟨_, rfl, by rw [HE.out]; exact ⟨_, _, rfl, ⟨by decide, by decide⟩, ⟨none, 0, rfl, Nat.le_refl _, by decide, by simp⟩, ⟨none, 0, rfl, Nat.le_refl _, by decide, by simp⟩⟩, ((HB.out.setCell (by simp) _).setCell (by simp) _).setCell (by simp) _⟩
  | true =>
    obtain ⟨hts, hAn, hn8⟩ := tabOk_num hto
    obtain ⟨n, hn⟩ : ∃ n, n = t.B.length := ⟨_, rfl⟩
    rw [← hn] at hts hAn hn8
    have hlB : lB = n := by
      obtain ⟨_, _, he, _⟩ := hB
      injection he with _ e2 _
      omega
    subst hlB
    obtain ⟨N, hN⟩ : ∃ N, N = lB * lB := ⟨_, rfl⟩
    rw [hts] at hT0
    have HE := Lib.hid (show adjT t = ⟨(lB : Int), adjA lB t.A t.B, t.B.reverse⟩ by rw [adjT, if_pos hto, hts, ← hn])
    have HTS := Lib.hid hts
    have HNB := Lib.hid hn
    have HAN := Lib.hid hAn
    have HNN := Lib.hid hN
    have HTO := Lib.hid hto
    have htW2 := HTW.out
    rw [hts] at htW2
    have HTW2 := Lib.hid htW2
    have E1 := Lib.hid (fun (x : World) => empty_any lB N x hn8 hN)
    clear hts hn hAn hto htW2 hN
    go_enter Try.func52, Try.ntmps52
    go_wp2_with fail
    rw [← HW1.out, ← HW2.out]
    refine (tabOk_eq _ t _ HTW.out HTO.out).mono ?_
    rintro e w1 ⟨rfl, hb3⟩
    have hT0a := cell_below hb3 hT0
    have hT1a := cell_below hb3 hT1
    have hT2a := cell_below hb3 hT2
    have hR0a := cell_below hb3 hR0
    have hR1a := cell_below hb3 hR1
    have hR2a := cell_below hb3 hR2
    have hR3a := (hb3.frozen (p := ⟨w.heap.size + 1, 0, none⟩) hlt2).trans hR3
    have hR4a := (hb3.frozen (p := ⟨w.heap.size + 1, 1, none⟩) hlt2).trans hR4
    have hR5a := (hb3.frozen (p := ⟨w.heap.size + 1, 2, none⟩) hlt2).trans hR5
    have hbw1 := hb2.trans (hb3.mono hb2.size)
    have hlt1 : w.heap.size + 1 < w1.heap.size := by have := hb3.size; omega
    clear hb3 hR0 hR1 hR2 hR3 hR4 hR5 hb2 hT0 hT1 hT2
    go_wp2_with fail
    refine (E1.out _).mono ?_
    rintro e w3 ⟨g, h, rfl, hoA, hoB, hgh, hg1, hh1, hb4⟩
    have hw1 : IntKind.i64.wrap ((lB : Int) - 1) = (lB : Int) - 1 := IntWalk.i64_in _ (by omega)
    obtain ⟨W0, hW0⟩ : ∃ W, W = w3.alloc (.cells #[.int .i64 (lB : Int), .slice (some ⟨g, 0, none⟩) N N, .slice (some ⟨h, 0, none⟩) lB lB] 32) := ⟨_, rfl⟩
    have hb5 : Below w3.heap.size w3 W0 := hW0 ▸ (Below.refl _ _).alloc (Nat.le_refl _) _
    have hb45 : Below w1.heap.size w1 W0 := hb4.trans (hb5.mono hb4.size)
    have hT0 := cell_below hb45 hT0a
    have hT1 := cell_below hb45 hT1a
    have hT2 := cell_below hb45 hT2a
    have hR0 := cell_below hb45 hR0a
    have hR1 := cell_below hb45 hR1a
    have hR2 := cell_below hb45 hR2a
    have hR3 := (hb45.frozen (p := ⟨w.heap.size + 1, 0, none⟩) hlt1).trans hR3a
    have hR4 := (hb45.frozen (p := ⟨w.heap.size + 1, 1, none⟩) hlt1).trans hR4a
    have hR5 := (hb45.frozen (p := ⟨w.heap.size + 1, 2, none⟩) hlt1).trans hR5a
    obtain ⟨hO0, hO1, hO2, _, _, _⟩ := box3_free (w := w3) (W := W0) (e := 32) (a := .int .i64 (lB : Int)) (b := .slice (some ⟨g, 0, none⟩) N N) (c := .slice (some ⟨h, 0, none⟩) lB lB) (by rw [← hW0]; exact Below.refl _ _)
    have hg3 := ownI_lt hoA g (by simp)
    have hh3 := ownI_lt hoB h (by simp)
    have hs3 := hb4.size
    have hs0 : w3.heap.size < W0.heap.size := by rw [hW0]; simp
    have hsw : w.heap.size + 1 < W0.heap.size := by omega
    have hlA : (adjA lB t.A t.B).length = N := by rw [adjA_len, HNN.out]
    have hlR : t.B.reverse.length = lB := by rw [List.length_reverse, HNB.out]
    have hAI : AdjInv 3 W0 W0 g h lB N (adjA lB t.A t.B) t.B.reverse 0 0 := ⟨by rw [fromR_zero, hlA]; exact ownI_only hoA (Only.of_below (fp := []) hb5) (by simp), by rw [fromR_zero, hlR]; exact ownI_only hoB (Only.of_below (fp := []) hb5) (by simp), Only.refl _ _⟩
    have hbW0 := hbw1.trans (hb45.mono hbw1.size)
    have hB0 : ∀ x, Only [g, h] W0 x → Below w.heap.size w x := fun x hx => hbW0.trans (hx.below hbW0.size (by intro z hz; simp at hz; omega))
    have HB0 := Lib.hid hB0
    have HRT := Lib.hid (fun (x : World) (hx : Below w.heap.size w x) => show RdTab x (.agg #[.int .i64 (lB : Int), .slice aA lA cA, .slice aB lB cB]) t by rw [← HTS.out]; exact ⟨_, _, rfl, hIt, rdI_mono hx hA, rdI_mono hx hB⟩)
    have HW0 := Lib.hid hW0
    have HLA := Lib.hid hlA
    have HLR := Lib.hid hlR
    have hne1 : w.heap.size ∉ [g, h] := by simp; omega
    have hne2 : w.heap.size + 1 ∉ [g, h] := by simp; omega
    have hne3 : w3.heap.size ∉ [g, h] := by simp; omega
    have HAI := Lib.hid hAI
    clear hb5 hb45 hT0a hT1a hT2a hR0a hR1a hR2a hR3a hR4a hR5a hoA hoB hb4 hs3 hs0 hbw1 hlA hlR hAI hbW0 hB0
    have hT0k := hT0
    have hT2k := hT2
    rw [hW0] at hT0 hT2
    go_wp2
    rw [← HW0.out]
    clear hT0 hT2 hW0
    go_loopw [20] (fun i wr => ∃ k : Nat, k ≤ lB ∧ i = .int .i64 k ∧ AdjInv 3 W0 wr g h lB N (adjA lB t.A t.B) t.B.reverse (k * lB) k) (fun i _ => lB - (intOf i).toNat)
    case atStart => exact ⟨0, Nat.zero_le _, rfl, by rw [Nat.zero_mul]; exact HAI.out⟩
    case round =>
      obtain ⟨k, hk, rfl, hI⟩ := hrel
      have hO0r := cell_only hI.only hne3 hO0
      have hO1r := cell_only hI.only hne3 hO1
      have hO2r := cell_only hI.only hne3 hO2
      have HI := Lib.hid hI
      clear hI
      by_cases hlt : k < lB
      case neg =>
        obtain rfl : k = lB := by omega
        have hI := HI.out
        have hR0r := cell_only hI.only hne2 hR0
        have hR1r := cell_only hI.only hne2 hR1
        have hR2r := cell_only hI.only hne2 hR2
        have hR3r := (frozen_only hI.only hne2 hsw hR3 : wr.frozen? ⟨w.heap.size + 1, 0, none⟩ = false)
        have hR4r := (frozen_only hI.only hne2 hsw hR4 : wr.frozen? ⟨w.heap.size + 1, 1, none⟩ = false)
        have hR5r := (frozen_only hI.only hne2 hsw hR5 : wr.frozen? ⟨w.heap.size + 1, 2, none⟩ = false)
        clear hI
        go_wp2
        have hI := HI.out
        have ho : Only [w.heap.size + 1] wr (((wr.setCell ⟨w.heap.size + 1, 0, none⟩ (.int .i64 (k : Int))).setCell ⟨w.heap.size + 1, 1, none⟩ (.slice (some ⟨g, 0, none⟩) N N)).setCell ⟨w.heap.size + 1, 2, none⟩ (.slice (some ⟨h, 0, none⟩) k k)) := (((Only.refl _ _).setCell (by simp) _).setCell (by simp) _).setCell (by simp) _
        have hfA : fromR (adjA k t.A t.B) (k * k) = adjA k t.A t.B := by rw [← HNN.out, ← HLA.out, fromR_done]
        have hfB : fromR t.B.reverse k = t.B.reverse := by
          have := fromR_done t.B.reverse
          rwa [HLR.out] at this
        have hra := ownI_rd (ownI_only hI.a ho (by simp; omega))
        have hrb := ownI_rd (ownI_only hI.b ho (by simp; omega))
        rw [hfA] at hra
        rw [hfB] at hrb
        refine bodyPost_ret (v := .agg #[.int .i64 (k : Int), .slice (some ⟨g, 0, none⟩) N N, .slice (some ⟨h, 0, none⟩) k k]) (by simp [results, Try.results52, go_sem, hR0r, hR1r, hR2r]) rfl ?_
        refine ⟨_, rfl, by rw [HE.out]; exact ⟨_, _, rfl, ⟨by show (_ : Int) ≤ (k : Int); omega, by show (k : Int) ≤ _; omega⟩, hra, hrb⟩, ?_⟩
        exact (HB0.out _ hI.only).trans (ho.below (HB0.out _ hI.only).size (by simp))
      have hT0r := cell_only (HI.out).only hne1 hT0k
      have hT1r := cell_only (HI.out).only hne1 hT1
      have hT2r := cell_only (HI.out).only hne1 hT2k
      clear hR0 hR1 hR2 hR3 hR4 hR5
      go_wp2
      go_loopw [26] (fun j wq => ∃ q : Nat, q ≤ lB ∧ j = .int .i64 q ∧ AdjInv 3 W0 wq g h lB N (adjA lB t.A t.B) t.B.reverse (k * lB + q) k) (fun j _ => lB - (intOf j).toNat)
      case atStart => exact ⟨0, Nat.zero_le _, rfl, HI.out⟩
      case round =>
        obtain ⟨q, hq, rfl, hJ⟩ := hrel
        obtain ⟨x0, hx0⟩ : ∃ x0 : Nat, x0 = lB - 1 - k := ⟨_, rfl⟩
        have hw2 : (lB : Int) - 1 - k = x0 := by omega
        have hw3 : IntKind.i64.wrap (x0 : Int) = x0 := IntWalk.i64_in _ (by omega)
        have hxl : x0 < lB := by omega
        clear hO0r hO1r hO2r hT0r hT1r hT2r HI
        have hO0q := cell_only hJ.only hne3 hO0
        have hO1q := cell_only hJ.only hne3 hO1
        have hO2q := cell_only hJ.only hne3 hO2
        have hT0q := cell_only hJ.only hne1 hT0k
        have hT1q := cell_only hJ.only hne1 hT1
        have hT2q := cell_only hJ.only hne1 hT2k
        have HX0 := Lib.hid hx0
        clear hx0
        by_cases hql : q < lB
        case neg =>
          obtain rfl : q = lB := by omega
          obtain ⟨bB, oB, xb, rfl, hxb, hcb0, hIb, hbl⟩ := rdI_get hB hlt
          have hcb := cell_below (HB0.out _ hJ.only) hcb0
          obtain ⟨⟨u, hu⟩, hfr, hN⟩ := hJ.putB hgh (k := x0) (c := xb) (by rw [HLR.out]; exact hxl) (by rw [HLR.out, HX0.out]) (by rw [HLR.out]; exact hlt) (by rw [List.getElem?_reverse (by rw [← HNB.out]; exact hxl), ← HNB.out, show q - 1 - x0 = k by have := HX0.out; omega]; exact hxb) hIb
          have HN := Lib.hid hN
          clear hJ hN hxb
          have hud : wr.drew.cell? ⟨h, x0, none⟩ = some u := hu
          have hfd : wr.drew.frozen? ⟨h, x0, none⟩ = false := hfr
          have HSp := Lib.hid (fun (v : Value) => show (wr.drew.setCell ⟨h, x0, none⟩ v).cell? ⟨w3.heap.size, 2, none⟩ = some (.slice (some ⟨h, 0, none⟩) q q) ∧ (wr.drew.setCell ⟨h, x0, none⟩ v).cell? ⟨w.heap.size, 2, none⟩ = some (.slice (some ⟨bB, oB, none⟩) q cB) ∧ (wr.drew.setCell ⟨h, x0, none⟩ v).cell? ⟨bB, oB + k, none⟩ = some (.int .i64 xb) from
            ⟨cell_only ((Only.refl [h] _).drew.setCell (by simp) _) (by simp; omega) hO2q, cell_only ((Only.refl [h] _).drew.setCell (by simp) _) (by simp; omega) hT2q, cell_only ((Only.refl [h] _).drew.setCell (by simp) _) (by simp; omega) hcb⟩)
          go_wp2
          go_region_held3 (fun w' => w'.cell? ⟨w3.heap.size, 2, none⟩ = some (.slice (some ⟨h, 0, none⟩) q q) ∧ w'.cell? ⟨w.heap.size, 2, none⟩ = some (.slice (some ⟨bB, oB, none⟩) q cB) ∧ w'.cell? ⟨bB, oB + k, none⟩ = some (.int .i64 xb)) (first | exact ⟨hO2q, hT2q, hcb⟩ | exact HSp.out _) (fail)
          all_goals (
            go_wp2
            go_roundw
            case rel => exact ⟨k + 1, by omega, by go_num, by rw [Nat.succ_mul]; exact (HN.out.bel (Below.refl _ _).drew)⟩
            case measure => simp [intOf]; omega)
        obtain ⟨bB, oB, xb, rfl, hxb, hcb0, hIb, hbl⟩ := rdI_get hB hql
        have hcb := cell_below (HB0.out _ hJ.only) hcb0
        obtain ⟨y0, hy0⟩ : ∃ y0 : Nat, y0 = lB - 1 - q := ⟨_, rfl⟩
        have hw4 : (lB : Int) - 1 - q = y0 := by omega
        have hw5 : IntKind.i64.wrap (y0 : Int) = y0 := IntWalk.i64_in _ (by omega)
        have hyl : y0 < lB := by omega
        obtain ⟨a1, _, a3⟩ := adj_place hlt hql
        have a4 := adjA_at hlt hql t.A t.B
        rw [← hy0, ← HX0.out] at a1 a3 a4
        rw [← HNN.out] at a1 a3
        have a5 := idx_lt hlt hql
        rw [← HNN.out] at a5
        obtain ⟨xa, hxa⟩ : ∃ xa, t.A[k * lB + q]? = some xa := ⟨_, List.getElem?_eq_getElem (by rw [HAN.out, ← HNN.out]; exact a5)⟩
        rw [atZ_get hxb, atZ_get hxa] at a4
        have HPA := Lib.hid (fun (x : World) (hx : Below wr.heap.size wr x) => (hJ.bel hx).putA hgh (k := x0 * lB + y0) (c := minusZ xb xa) (by rw [HLA.out]; exact a1) (by rw [HLA.out]; omega) (by rw [HLA.out]; omega) a4 (i64_of_bd (minusZ_bd _ _)))
        have HRW := Lib.hid (fun (x : World) (hx : Below wr.heap.size wr x) => (row_at g lB N x0 (x0 : Int) (.slice (some ⟨h, 0, none⟩) lB lB) x rfl hn8 HNN.out hxl).mono (fun e w' (hh : e = .returned (.slice (some ⟨g, x0 * lB, none⟩) lB (N - x0 * lB)) ∧ Below x.heap.size x w') => (⟨hh.1, hx.trans (hh.2.mono hx.size)⟩ : e = .returned (.slice (some ⟨g, x0 * lB, none⟩) lB (N - x0 * lB)) ∧ Below wr.heap.size wr w')))
        have HBJ := Lib.hid (HB0.out _ hJ.only)
        have HTA := Lib.hid (fun (x : World) (hx : Below wr.heap.size wr x) => (tabA_eq _ t x (HRT.out x (HBJ.out.trans (hx.mono HBJ.out.size))) HTO.out HNB.out.symm hlt hql hxa).mono (fun e w' (hh : e = .returned (.int .i64 xa) ∧ Below x.heap.size x w') => (⟨hh.1, hx.trans (hh.2.mono hx.size)⟩ : e = .returned (.int .i64 xa) ∧ Below wr.heap.size wr w')))
        have HS0 := Lib.hid (⟨hO0q, hO1q, hO2q, hT0q, hT1q, hT2q, hcb⟩ : wr.cell? ⟨w3.heap.size, 0, none⟩ = some (.int .i64 (lB : Int)) ∧ wr.cell? ⟨w3.heap.size, 1, none⟩ = some (.slice (some ⟨g, 0, none⟩) N N) ∧ wr.cell? ⟨w3.heap.size, 2, none⟩ = some (.slice (some ⟨h, 0, none⟩) lB lB) ∧ wr.cell? ⟨w.heap.size, 0, none⟩ = some (.int .i64 (lB : Int)) ∧ wr.cell? ⟨w.heap.size, 1, none⟩ = some (.slice aA lA cA) ∧ wr.cell? ⟨w.heap.size, 2, none⟩ = some (.slice (some ⟨bB, oB, none⟩) lB cB) ∧ wr.cell? ⟨bB, oB + q, none⟩ = some (.int .i64 xb))
        have HSO := Lib.hid (fun (x : World) (hx : Only [g] wr x) => show x.cell? ⟨w3.heap.size, 0, none⟩ = some (.int .i64 (lB : Int)) ∧ x.cell? ⟨w3.heap.size, 1, none⟩ = some (.slice (some ⟨g, 0, none⟩) N N) ∧ x.cell? ⟨w3.heap.size, 2, none⟩ = some (.slice (some ⟨h, 0, none⟩) lB lB) ∧ x.cell? ⟨w.heap.size, 0, none⟩ = some (.int .i64 (lB : Int)) ∧ x.cell? ⟨w.heap.size, 1, none⟩ = some (.slice aA lA cA) ∧ x.cell? ⟨w.heap.size, 2, none⟩ = some (.slice (some ⟨bB, oB, none⟩) lB cB) ∧ x.cell? ⟨bB, oB + q, none⟩ = some (.int .i64 xb) from
          ⟨cell_only hx (by simp; omega) HS0.out.1, cell_only hx (by simp; omega) HS0.out.2.1, cell_only hx (by simp; omega) HS0.out.2.2.1, cell_only hx (by simp; omega) HS0.out.2.2.2.1, cell_only hx (by simp; omega) HS0.out.2.2.2.2.1, cell_only hx (by simp; omega) HS0.out.2.2.2.2.2.1, cell_only hx (by simp; omega) HS0.out.2.2.2.2.2.2⟩)
        have HA4 := Lib.hid a4
        have hb1 : (0 : Int) ≤ (y0 : Int) := by omega
        have hb2 : (y0 : Int) < (lB : Int) := by omega
        have hb3 : ¬ ((lB : Int) ≤ (y0 : Int)) := by omega
        have hdr : Below wr.heap.size wr wr.drew := below_drew' _
        have HY0 := Lib.hid hy0
        clear hy0 a1 a3 a4 a5 hJ hxa hxb hcb0 hO0q hO1q hO2q hT0q hT1q hT2q hcb
        go_wp2
        go_region_held3 (fun w' => w'.cell? ⟨w3.heap.size, 0, none⟩ = some (.int .i64 (lB : Int)) ∧ w'.cell? ⟨w3.heap.size, 1, none⟩ = some (.slice (some ⟨g, 0, none⟩) N N) ∧ w'.cell? ⟨w3.heap.size, 2, none⟩ = some (.slice (some ⟨h, 0, none⟩) lB lB) ∧ w'.cell? ⟨w.heap.size, 0, none⟩ = some (.int .i64 (lB : Int)) ∧ w'.cell? ⟨w.heap.size, 1, none⟩ = some (.slice aA lA cA) ∧ w'.cell? ⟨w.heap.size, 2, none⟩ = some (.slice (some ⟨bB, oB, none⟩) lB cB) ∧ w'.cell? ⟨bB, oB + q, none⟩ = some (.int .i64 xb))
          (first | exact HS0.out | exact HSO.out _ (Only.of_below hdr) | exact HSO.out _ (Only.of_below hq1) | exact HSO.out _ ((Only.of_below hq1).setCell (by simp) _) | exact HSO.out _ (Only.of_below hq2) | exact HSO.out _ ((Only.of_below hq2).setCell (by simp) _))
          (first
            | (go_at_call 73; (with_reducible refine (minus_any _ _ _).mono ?_); rintro e w' ⟨rfl, rfl⟩)
            | (go_at_call 74; first | ((with_reducible refine (HRW.out _ hq1).mono ?_); rintro e y2 ⟨rfl, hq2⟩; obtain ⟨⟨u2, hu2⟩, hf2, hn2⟩ := HPA.out _ hq2) | ((with_reducible refine (HRW.out _ hdr).mono ?_); rintro e y1 ⟨rfl, hq1⟩))
            | (go_at_call 68; first | ((with_reducible refine (HTA.out _ hq1).mono ?_); rintro e y2 ⟨rfl, hq2⟩; obtain ⟨⟨u2, hu2⟩, hf2, hn2⟩ := HPA.out _ hq2) | ((with_reducible refine (HTA.out _ hdr).mono ?_); rintro e y1 ⟨rfl, hq1⟩)))
        all_goals (
          have HN2 := Lib.hid hn2
          clear hn2
          go_wp2
          go_roundw
          case rel => exact ⟨q + 1, by omega, by go_num, HN2.out⟩
          case measure => simp [intOf]; omega)
end Go.Proofs.Ytkmcpcbfoiflbaa
