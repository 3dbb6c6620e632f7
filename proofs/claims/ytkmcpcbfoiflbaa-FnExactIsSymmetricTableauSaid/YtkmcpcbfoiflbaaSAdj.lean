/- AdjointTableau of the reference: what it returns reads as the adjoint. Conditions: none. -/
import Derived.Test.YtkmcpcbfoiflbaaTabI
import Derived.Deep.AppendLies
import Derived.Deep.RegionLaw
set_option linter.unusedSimpArgs false
set_option linter.unusedVariables false
namespace Go.Proofs.Ytkmcpcbfoiflbaa
open Go.RowKit Go.Sort

/-- A load that is not to be looked at ahead of its turn. -/
def opL (s : String) : Oper := { dst := some 28, op := Op.load 27 (Operand.tmp 27), type := 27, pos := s, after := #[{ on := 0, ground := Ground.data }], guard := none }
theorem opL_def (s : String) : opL s = { dst := some 28, op := Op.load 27 (Operand.tmp 27), type := 27, pos := s, after := #[{ on := 0, ground := Ground.data }], guard := none } := rfl
attribute [local go_sem] opL_def
set_option maxRecDepth 100000 in
set_option maxHeartbeats 6400000 in
theorem sAdj_any (v : Value) (t : TabZ) (w : World) (ht : RdTab w v t) : Calls Try.prog 50 #[v] w (RdsTab (adjT t) w) := by
  obtain ⟨vA, vB, rfl, hIt, hA, hB⟩ := ht
  obtain ⟨aA, lA, cA, rfl⟩ := rdI_slice hA
  obtain ⟨aB, lB, cB, rfl⟩ := rdI_slice hB
  obtain ⟨W1, hW1⟩ : ∃ W, W = w.alloc (.cells #[.int .i64 t.stages, .slice aA lA cA, .slice aB lB cB] 32) := ⟨_, rfl⟩
  obtain ⟨W2, hW2⟩ : ∃ W, W = W1.alloc (.cells #[.int .i64 0, .slice none 0 0, .slice none 0 0] 32) := ⟨_, rfl⟩
  have hb1 : Below w.heap.size w W1 := hW1 ▸ (Below.refl _ _).alloc (Nat.le_refl _) _
  have hb12 : Below W1.heap.size W1 W2 := hW2 ▸ (Below.refl _ _).alloc (Nat.le_refl _) _
  have hb2 : Below w.heap.size w W2 := hb1.trans (hb12.mono hb1.size)
  have hs1 : W1.heap.size = w.heap.size + 1 := by rw [hW1]; simp
  have hs2 : W2.heap.size = w.heap.size + 2 := by rw [show w.heap.size + 2 = W1.heap.size + 1 by omega, hW2]; simp
  obtain ⟨hT0, hT1, hT2, _, _, _⟩ := box3_free (w := w) (W := W2) (e := 32) (a := .int .i64 t.stages) (b := .slice aA lA cA) (c := .slice aB lB cB) (by rw [← hW1]; exact hb12)
  obtain ⟨hR0, hR1, hR2, hR3, hR4, hR5⟩ := box3_free (w := W1) (W := W2) (e := 32) (a := .int .i64 0) (b := .slice none 0 0) (c := .slice none 0 0) (by rw [← hW2]; exact Below.refl _ _)
  rw [hs1] at hR0 hR1 hR2 hR3 hR4 hR5
  have htW : RdTab W2 (.agg #[.int .i64 t.stages, .slice aA lA cA, .slice aB lB cB]) t := ⟨_, _, rfl, hIt, rdI_mono hb2 hA, rdI_mono hb2 hB⟩
  have HW1 := Lib.hid hW1
  have HW2 := Lib.hid hW2
  have HTW := Lib.hid htW
  have hlt2 : w.heap.size + 1 < W2.heap.size := by omega
  clear hW1 hW2 hb12 hb1 hs1 htW
  cases hto : tabOkB t with
  | false =>
    have HE := Lib.hid (show adjT t = ⟨0, [], []⟩ by rw [adjT, if_neg (by rw [hto]; decide)])
    go_enter Try.func50, Try.ntmps50
    go_wp2_with fail
    rw [← HW1.out, ← HW2.out]
    refine (sTabOk_eq _ t _ HTW.out hto).mono ?_
    rintro e w1 ⟨rfl, hb3⟩
    have hR0a := cell_below hb3 hR0
    have hR1a := cell_below hb3 hR1
    have hR2a := cell_below hb3 hR2
    have hR3a := (hb3.frozen (p := ⟨w.heap.size + 1, 0, none⟩) hlt2).trans hR3
    have hR4a := (hb3.frozen (p := ⟨w.heap.size + 1, 1, none⟩) hlt2).trans hR4
    have hR5a := (hb3.frozen (p := ⟨w.heap.size + 1, 2, none⟩) hlt2).trans hR5
    have HB := Lib.hid (hb2.trans (hb3.mono hb2.size))
    clear hb3 hR0 hR1 hR2 hR3 hR4 hR5 hb2 hT0 hT1 hT2
    go_wp2
    refine bodyPost_ret (v := .agg #[.int .i64 0, .slice none 0 0, .slice none 0 0]) (by simp [results, Try.results50, go_sem, hR0a, hR1a, hR2a]) rfl ?_
    exact ⟨_, rfl, by rw [HE.out]; exact ⟨_, _, rfl, ⟨by decide, by decide⟩, ⟨none, 0, rfl, Nat.le_refl _, by decide, by simp⟩, ⟨none, 0, rfl, Nat.le_refl _, by decide, by simp⟩⟩, ((HB.out.setCell (by simp) _).setCell (by simp) _).setCell (by simp) _⟩
  | true =>
    obtain ⟨hts, hAn, hn8⟩ := tabOk_num hto
    obtain ⟨n, hn⟩ : ∃ n, n = t.B.length := ⟨_, rfl⟩
    rw [← hn] at hts hAn hn8
    have hlB : lB = n := by
      obtain ⟨_, _, he, _⟩ := hB
      injection he with _ e2 _
      omega
    subst hlB
    obtain ⟨N, hN⟩ : ∃ N, N = lB * lB := ⟨_, rfl⟩
    rw [hts] at hT0
    have HE := Lib.hid (show adjT t = ⟨(lB : Int), adjA lB t.A t.B, t.B.reverse⟩ by rw [adjT, if_pos hto, hts, ← hn])
    have HTS := Lib.hid hts
    have HNB := Lib.hid hn
    have HAN := Lib.hid hAn
    have HNN := Lib.hid hN
    have HTO := Lib.hid hto
    have htW2 := HTW.out
    rw [hts] at htW2
    have HTW2 := Lib.hid htW2
    clear hts hn hAn hto htW2 hN
    go_enter Try.func50, Try.ntmps50
    go_wp2_with fail
    rw [← HW1.out, ← HW2.out]
    refine (sTabOk_eq _ t _ HTW.out HTO.out).mono ?_
    rintro e w1 ⟨rfl, hb3⟩
    have hT0a := cell_below hb3 hT0
    have hT1a := cell_below hb3 hT1
    have hT2a := cell_below hb3 hT2
    have hR0a := cell_below hb3 hR0
    have hR1a := cell_below hb3 hR1
    have hR2a := cell_below hb3 hR2
    have hR3a := (hb3.frozen (p := ⟨w.heap.size + 1, 0, none⟩) hlt2).trans hR3
    have hR4a := (hb3.frozen (p := ⟨w.heap.size + 1, 1, none⟩) hlt2).trans hR4
    have hR5a := (hb3.frozen (p := ⟨w.heap.size + 1, 2, none⟩) hlt2).trans hR5
    have hbw1 := hb2.trans (hb3.mono hb2.size)
    have hlt1 : w.heap.size + 1 < w1.heap.size := by have := hb3.size; omega
    clear hb3 hR0 hR1 hR2 hR3 hR4 hR5 hb2 hT0 hT1 hT2
    have hw1 : IntKind.i64.wrap ((lB : Int) - 1) = (lB : Int) - 1 := IntWalk.i64_in _ (by omega)
    obtain ⟨W0, hW0⟩ : ∃ W, W = w1.alloc (.cells #[.int .i64 (lB : Int), .slice none 0 0, .slice none 0 0] 32) := ⟨_, rfl⟩
    have hb5 : Below w1.heap.size w1 W0 := hW0 ▸ (Below.refl _ _).alloc (Nat.le_refl _) _
    have hT0 := cell_below hb5 hT0a
    have hT1 := cell_below hb5 hT1a
    have hT2 := cell_below hb5 hT2a
    have hR0 := cell_below hb5 hR0a
    have hR1 := cell_below hb5 hR1a
    have hR2 := cell_below hb5 hR2a
    have hR3 := (hb5.frozen (p := ⟨w.heap.size + 1, 0, none⟩) hlt1).trans hR3a
    have hR4 := (hb5.frozen (p := ⟨w.heap.size + 1, 1, none⟩) hlt1).trans hR4a
    have hR5 := (hb5.frozen (p := ⟨w.heap.size + 1, 2, none⟩) hlt1).trans hR5a
    have HAI := Lib.hid (tabInv_start (e := 3) hW0)
    have hlA : (adjA lB t.A t.B).length = N := by rw [adjA_len, HNN.out]
    have hlR : t.B.reverse.length = lB := by rw [List.length_reverse, HNB.out]
    have HBW1 := Lib.hid hbw1
    have HB5 := Lib.hid hb5
    have HW0 := Lib.hid hW0
    have HLA := Lib.hid hlA
    have HLR := Lib.hid hlR
    have hsw : w.heap.size + 1 < W0.heap.size := by have := hb5.size; omega
    clear hb5 hT1a hT2a hR0a hR1a hR2a hR3a hR4a hR5a hbw1 hlA hlR
    have hT0k := hT0
    rw [hW0] at hT0
    go_wp2
    rw [← HW0.out]
    clear hT0 hT0a hW0
    obtain ⟨i0, hi, hz0, hz1, hz2⟩ := info_parts Try.info_int
    go_loopw [4] (fun i wr => ∃ (k : Nat) (z : Int) (vA vB : Value) (fA fB : List Nat), k ≤ lB ∧ i = .int .i64 z ∧ z = (lB : Int) - 1 - k ∧ TabInv 3 W0 wr w1.heap.size lB vA vB ((adjA lB t.A t.B).take (k * lB)) (t.B.reverse.take k) fA fB) (fun i _ => (intOf i + 1).toNat)
    case atStart => exact ⟨0, _, _, _, _, _, Nat.zero_le _, rfl, by omega, by simpa using HAI.out⟩
    case round =>
      obtain ⟨k, z, vA, vB, fA, fB, hk, rfl, hz, hI⟩ := hrel
      have hne1 : w.heap.size ∉ [w1.heap.size] := by simp; omega
      have hne2 : w.heap.size + 1 ∉ [w1.heap.size] := by simp; omega
      obtain ⟨adA, lenA, capA, rfl, hlnA, _⟩ := ownI_open hI.a
      obtain ⟨adB, lenB, capB, rfl, hlnB, _⟩ := ownI_open hI.b
      have HI := Lib.hid hI
      have HZ := Lib.hid hz
      have HLNA := Lib.hid hlnA
      have HLNB := Lib.hid hlnB
      clear hlnA hlnB
      by_cases hlt : k < lB
      case neg =>
        have hzn : ¬ (0 ≤ z) := by omega
        have hzn2 : z < 0 := by omega
        clear hz
        obtain rfl : k = lB := by omega
        have hR0r := cell_only hI.only hne2 hR0
        have hR1r := cell_only hI.only hne2 hR1
        have hR2r := cell_only hI.only hne2 hR2
        have hR3r := (frozen_only hI.only hne2 hsw hR3 : wr.frozen? ⟨w.heap.size + 1, 0, none⟩ = false)
        have hR4r := (frozen_only hI.only hne2 hsw hR4 : wr.frozen? ⟨w.heap.size + 1, 1, none⟩ = false)
        have hR5r := (frozen_only hI.only hne2 hsw hR5 : wr.frozen? ⟨w.heap.size + 1, 2, none⟩ = false)
        have hO0r := hI.c0
        have hO1r := hI.c1
        have hO2r := hI.c2
        clear hI
        go_wp2
        have hI := HI.out
        have ho : Only [w.heap.size + 1] wr (((wr.setCell ⟨w.heap.size + 1, 0, none⟩ (.int .i64 (k : Int))).setCell ⟨w.heap.size + 1, 1, none⟩ (.slice adA lenA capA)).setCell ⟨w.heap.size + 1, 2, none⟩ (.slice adB lenB capB)) := (((Only.refl _ _).setCell (by simp) _).setCell (by simp) _).setCell (by simp) _
        have hfA : (adjA k t.A t.B).take (k * k) = adjA k t.A t.B := List.take_of_length_le (by rw [HLA.out, HNN.out]; exact Nat.le_refl _)
        have hfB : t.B.reverse.take k = t.B.reverse := List.take_of_length_le (by rw [HLR.out]; exact Nat.le_refl _)
        have hra := ownI_rd (ownI_only hI.a ho (fun b hb hm => by have := hI.newA b hb; simp at hm; omega))
        have hrb := ownI_rd (ownI_only hI.b ho (fun b hb hm => by have := hI.newB b hb; simp at hm; omega))
        rw [hfA] at hra
        rw [hfB] at hrb
        have hbb := hI.below (HBW1.out.trans (HB5.out.mono HBW1.out.size)) (by omega)
        refine bodyPost_ret (v := .agg #[.int .i64 (k : Int), .slice adA lenA capA, .slice adB lenB capB]) (by simp [results, Try.results50, go_sem, hR0r, hR1r, hR2r]) rfl ?_
        exact ⟨_, rfl, by rw [HE.out]; exact ⟨_, _, rfl, ⟨by show (_ : Int) ≤ (k : Int); omega, by show (k : Int) ≤ _; omega⟩, hra, hrb⟩, hbb.trans (ho.below hbb.size (by simp))⟩
      obtain ⟨x0, hx0⟩ : ∃ x0 : Nat, x0 = lB - 1 - k := ⟨_, rfl⟩
      obtain rfl : z = x0 := by omega
      have hxl : x0 < lB := by omega
      have hw3 : IntKind.i64.wrap ((x0 : Int) - 1) = (x0 : Int) - 1 := IntWalk.i64_in _ (by omega)
      have HX0 := Lib.hid hx0
      have hT0r := cell_only hI.only hne1 hT0k
      have hT1r := cell_only hI.only hne1 hT1
      have hT2r := cell_only hI.only hne1 hT2
      clear hx0 hz hI hR0 hR1 hR2 hR3 hR4 hR5
      go_wp2
      go_loopw [5] (fun j wq => ∃ (q : Nat) (z : Int) (vA : Value) (fA : List Nat), q ≤ lB ∧ j = .int .i64 z ∧ z = (lB : Int) - 1 - q ∧ TabInv 3 W0 wq w1.heap.size lB vA (.slice adB lenB capB) ((adjA lB t.A t.B).take (k * lB + q)) (t.B.reverse.take k) fA fB) (fun j _ => (intOf j + 1).toNat)
      case atStart => exact ⟨0, _, _, _, Nat.zero_le _, rfl, by omega, HI.out⟩
      case round =>
        obtain ⟨q, z, vA, fA, hq, rfl, hz, hJ⟩ := hrel
        clear hT0r hT1r hT2r HI HLNA
        obtain ⟨adA, lenA, capA, rfl, hlnA, hcA, hcA2, hownA, _, hfA⟩ := ownI_open hJ.a
        have hT0q := cell_only hJ.only hne1 hT0k
        have hT1q := cell_only hJ.only hne1 hT1
        have hT2q := cell_only hJ.only hne1 hT2
        by_cases hql : q < lB
        case neg =>
          have hzn : ¬ (0 ≤ z) := by omega
          have hzn2 : z < 0 := by omega
          clear hz hlnA hcA hcA2 hownA hfA
          obtain rfl : q = lB := by omega
          obtain ⟨bB, oB, xb, rfl, hxb, hcb0, hIb, hbl⟩ := rdI_get hB hxl
          obtain ⟨adB2, lenB2, capB2, hvB, hlnB2, hcB, hcB2, hownB, _, _⟩ := ownI_open hJ.b
          injection hvB with e1 e2 e3
          subst e1 e2 e3
          have hbJ := hJ.below (HBW1.out.trans (HB5.out.mono HBW1.out.size)) (by omega)
          have hcb := cell_below hbJ hcb0
          have hc2 := hJ.c2
          have hlk : (t.B.reverse.take k).length = k := by rw [List.length_take, HLR.out]; omega
          obtain rfl : lenB = k := by omega
          have hsn : t.B.reverse.take (lenB + 1) = t.B.reverse.take lenB ++ [xb] := take_snoc (by rw [List.getElem?_reverse (by rw [← HNB.out]; exact hlt), ← HNB.out, show q - 1 - lenB = x0 by have := HX0.out; omega]; exact hxb)
          have HSN := Lib.hid hsn
          have HNU := Lib.hid hownB
          have HP := Lib.hid (fun (w5 : World) (gg capn : Nat) (hown1 : w5.ownsRow 0 3 1 (.slice (some ⟨gg, 0, none⟩) (lenB + 1) capn) (lenB + 1) ((t.B.reverse.take lenB).map (Value.int .i64) ++ [.int .i64 xb]))
            (hgrow : ((wr.alloc (.cells #[.int .i64 xb] 3)).drew).grownBy w5 (Value.slice adB lenB capB).ownBlock) (hat : (Value.slice adB lenB capB).ownBlock = some gg ∨ gg = wr.heap.size + 1) =>
              hJ.pushB (y := xb) hIb hlk (((Below.refl _ _).alloc (Nat.le_refl _) _).drew) hown1 hgrow (fun b hb => by
                simp [Value.ownBlock] at hb
                subst hb
                rcases hat with hat | hat
                · left; exact hat
                · right; rw [hat]; show ((wr.alloc _).drew).heap.size ≤ _; simp [World.drew]))
          have hal : Below wr.heap.size wr ((wr.alloc (.cells #[.int .i64 xb] 3)).drew) := ((Below.refl _ _).alloc (Nat.le_refl _) _).drew
          have hc2x := cell_below hal hc2
          clear hlk hsn hownB hJ hbJ hxb hcb0 hlnB2 hal
          go_wp2
          go_region_law (first | (refine step_append_lies _ (by rfl) _ _ _ (by rfl) 0 3 i0 _ 1 8 Try.underlying27 hi hz0 hz1 hz2 rfl (by omega) (.slice adB lenB capB) lenB _ (by rfl) ((HNU.out.alloc _).drew) ⟨wr.heap.size, 0, none⟩ 1 1 [.int .i64 xb] (by rfl) (by rfl) (World.news_of_block (cs := #[.int .i64 xb]) (t := 3) (fr := (0, 0)) (heap_alloc_new wr _)) (by simp [Value.oneCell']) (by omega) (by unfold maxLen; omega) (by omega) (by simp) (wr.heap.size + 1) (by simp) ?_; intro gg capn w5 hown1 hgrow hat hlt5; obtain ⟨hp1, hp2, f', hP⟩ := HP.out w5 gg capn hown1 hgrow hat; have HPP := Lib.hid hP; clear hP))
          all_goals (
            go_wp2
            go_roundw
            case rel => exact ⟨lenB + 1, _, _, _, _, _, by omega, rfl, by have := HX0.out; omega, by rw [HSN.out, Nat.succ_mul]; exact HPP.out⟩
            case measure => (simp [intOf]; try omega))
        obtain ⟨y0, hy0⟩ : ∃ y0 : Nat, y0 = lB - 1 - q := ⟨_, rfl⟩
        obtain rfl : z = y0 := by omega
        have hyl : y0 < lB := by omega
        have hw4 : IntKind.i64.wrap ((y0 : Int) - 1) = (y0 : Int) - 1 := IntWalk.i64_in _ (by omega)
        have HY0 := Lib.hid hy0
        obtain ⟨bB, oB, xb, rfl, hxb, hcb0, hIb, hbl⟩ := rdI_get hB hyl
        have a5 := idx_lt hxl hyl
        have a4 := adjA_at hxl hyl t.A t.B
        have hlA' : lA = lB * lB := by
          obtain ⟨_, _, he, _⟩ := hA
          injection he with _ e2 _
          have := HAN.out
          omega
        obtain ⟨bA, oA, xa, rfl, hxa, hca0, hIa, hbl2⟩ := rdI_get hA (k := x0 * lB + y0) (by rw [hlA']; exact a5)
        rw [atZ_get hxb, atZ_get hxa] at a4
        have hbJ := hJ.below (HBW1.out.trans (HB5.out.mono HBW1.out.size)) (by omega)
        have hcb := cell_below hbJ hcb0
        have hca := cell_below hbJ hca0
        have hc1 := hJ.c1
        obtain ⟨p0, p1, p2, p3, p4⟩ := idx_bd hxl hyl hn8
        have p5 : (x0 : Int) * lB + y0 < lA := by omega
        have u1 : IntKind.i64.wrap ((x0 : Int) * lB) = (x0 : Int) * lB := IntWalk.i64_in _ (by omega)
        have u3 : IntKind.i64.wrap ((x0 : Int) * lB + y0) = (x0 : Int) * lB + y0 := IntWalk.i64_in _ (by omega)
        have hb1 : (0 : Int) ≤ (y0 : Int) := by omega
        have hb2 : (y0 : Int) < (lB : Int) := by omega
        obtain ⟨m, hm⟩ : ∃ m, m = k * lB + q := ⟨_, rfl⟩
        have hkm : (lB - 1 - x0) * lB + (lB - 1 - y0) = m := by rw [show lB - 1 - x0 = k by have := HX0.out; omega, show lB - 1 - y0 = q by omega, hm]
        rw [hkm] at a4
        have hml : m < N := by
          have := (List.getElem?_eq_some_iff.1 a4).1
          rw [HLA.out] at this
          exact this
        rw [← hm] at hJ hlnA hownA
        have hlk : ((adjA lB t.A t.B).take m).length = m := by rw [List.length_take, HLA.out]; omega
        obtain rfl : lenA = m := by omega
        have hN64 : N ≤ 64 := by rw [HNN.out]; exact Nat.mul_le_mul hn8 hn8
        have hsn : (adjA lB t.A t.B).take (lenA + 1) = (adjA lB t.A t.B).take lenA ++ [minusZ xb xa] := take_snoc a4
        have HSN := Lib.hid hsn
        have HM := Lib.hid hm
        have HNU := Lib.hid hownA
        have HP := Lib.hid (fun (w5 : World) (gg capn : Nat) (hown1 : w5.ownsRow 0 3 1 (.slice (some ⟨gg, 0, none⟩) (lenA + 1) capn) (lenA + 1) (((adjA lB t.A t.B).take lenA).map (Value.int .i64) ++ [.int .i64 (minusZ xb xa)]))
          (hgrow : ((wr.alloc (.cells #[.int .i64 (minusZ xb xa)] 3)).drew).grownBy w5 (Value.slice adA lenA capA).ownBlock) (hat : (Value.slice adA lenA capA).ownBlock = some gg ∨ gg = wr.heap.size + 1) =>
            hJ.pushA (y := minusZ xb xa) (i64_of_bd (minusZ_bd _ _)) hlk (((Below.refl _ _).alloc (Nat.le_refl _) _).drew) hown1 hgrow (fun b hb => by
              simp [Value.ownBlock] at hb
              subst hb
              rcases hat with hat | hat
              · left; exact hat
              · right; rw [hat]; show ((wr.alloc _).drew).heap.size ≤ _; simp [World.drew]))
        have hal : Below wr.heap.size wr ((wr.alloc (.cells #[.int .i64 (minusZ xb xa)] 3)).drew) := ((Below.refl _ _).alloc (Nat.le_refl _) _).drew
        have hc1x := cell_below hal hc1
        have HLA' := Lib.hid hlA'
        have hcb0W := cell_below (HBW1.out.trans (HB5.out.mono HBW1.out.size)) hcb0
        have hca0W := cell_below (HBW1.out.trans (HB5.out.mono HBW1.out.size)) hca0
        have HS6 := Lib.hid (fun (x : World) (hx : Only [w1.heap.size] W0 x) => show x.cell? ⟨w.heap.size, 0, none⟩ = some (.int .i64 (lB : Int)) ∧ x.cell? ⟨w.heap.size, 1, none⟩ = some (.slice (some ⟨bA, oA, none⟩) lA cA) ∧ x.cell? ⟨w.heap.size, 2, none⟩ = some (.slice (some ⟨bB, oB, none⟩) lB cB) ∧ x.cell? ⟨bB, oB + y0, none⟩ = some (.int .i64 xb) ∧ x.cell? ⟨bA, oA + (x0 * lB + y0), none⟩ = some (.int .i64 xa) from ⟨cell_only hx hne1 hT0k, cell_only hx hne1 hT1, cell_only hx hne1 hT2, cell_only hx (by simp; omega) hcb0W, cell_only hx (by simp; omega) hca0W⟩)
        have HS5 := Lib.hid (fun (x : World) (v : Value) (hx : Only [w1.heap.size] W0 (x.setCell ⟨w1.heap.size, 1, none⟩ v)) => show x.cell? ⟨w.heap.size, 0, none⟩ = some (.int .i64 (lB : Int)) ∧ x.cell? ⟨w.heap.size, 1, none⟩ = some (.slice (some ⟨bA, oA, none⟩) lA cA) ∧ x.cell? ⟨w.heap.size, 2, none⟩ = some (.slice (some ⟨bB, oB, none⟩) lB cB) ∧ x.cell? ⟨bB, oB + y0, none⟩ = some (.int .i64 xb) ∧ x.cell? ⟨bA, oA + (x0 * lB + y0), none⟩ = some (.int .i64 xa) from by
          obtain ⟨h1, h2, h3, h4, h5⟩ := HS6.out _ hx
          rw [World.cell?_setCell_other _ _ _ _ (by first | (simp; done) | (simp; omega))] at h1 h2 h3 h4 h5
          exact ⟨h1, h2, h3, h4, h5⟩)
        have HSA := Lib.hid (show ((wr.alloc (.cells #[.int .i64 (minusZ xb xa)] 3)).drew).cell? ⟨w.heap.size, 0, none⟩ = some (.int .i64 (lB : Int)) ∧ ((wr.alloc (.cells #[.int .i64 (minusZ xb xa)] 3)).drew).cell? ⟨w.heap.size, 1, none⟩ = some (.slice (some ⟨bA, oA, none⟩) lA cA) ∧ ((wr.alloc (.cells #[.int .i64 (minusZ xb xa)] 3)).drew).cell? ⟨w.heap.size, 2, none⟩ = some (.slice (some ⟨bB, oB, none⟩) lB cB) ∧ ((wr.alloc (.cells #[.int .i64 (minusZ xb xa)] 3)).drew).cell? ⟨bB, oB + y0, none⟩ = some (.int .i64 xb) ∧ ((wr.alloc (.cells #[.int .i64 (minusZ xb xa)] 3)).drew).cell? ⟨bA, oA + (x0 * lB + y0), none⟩ = some (.int .i64 xa) from ⟨cell_below hal hT0q, cell_below hal hT1q, cell_below hal hT2q, cell_below hal hcb, cell_below hal hca⟩)
        have hsd : wr.cell? ⟨w.heap.size, 0, none⟩ = some (.int .i64 (lB : Int)) ∧ wr.cell? ⟨w.heap.size, 1, none⟩ = some (.slice (some ⟨bA, oA, none⟩) lA cA) ∧ wr.cell? ⟨w.heap.size, 2, none⟩ = some (.slice (some ⟨bB, oB, none⟩) lB cB) ∧ wr.cell? ⟨bB, oB + y0, none⟩ = some (.int .i64 xb) ∧ wr.cell? ⟨bA, oA + (x0 * lB + y0), none⟩ = some (.int .i64 xa) := ⟨hT0q, hT1q, hT2q, hcb, hca⟩
        clear hcb0W hca0W hlk hsn hownA hJ hbJ hxb hxa hcb0 hca0 hal a4 a5 hkm hm hy0 hz hlnA hfA hlA'
        go_wp2
        rw [← opL_def]
        go_region_held3 (fun w' => w'.cell? ⟨w.heap.size, 0, none⟩ = some (.int .i64 (lB : Int)) ∧ w'.cell? ⟨w.heap.size, 1, none⟩ = some (.slice (some ⟨bA, oA, none⟩) lA cA) ∧ w'.cell? ⟨w.heap.size, 2, none⟩ = some (.slice (some ⟨bB, oB, none⟩) lB cB) ∧ w'.cell? ⟨bB, oB + y0, none⟩ = some (.int .i64 xb) ∧ w'.cell? ⟨bA, oA + (x0 * lB + y0), none⟩ = some (.int .i64 xa)) (first | exact hsd | exact HSA.out | exact hs5 | exact hs6) (first | (go_at_call 71; (with_reducible refine (sMinus_any _ _ _).mono ?_); rintro e w' ⟨rfl, rfl⟩) | (refine step_append_lies _ (by rfl) _ _ _ (by rfl) 0 3 i0 _ 1 8 Try.underlying27 hi hz0 hz1 hz2 rfl (by omega) (.slice adA lenA capA) lenA _ (by rfl) ((HNU.out.alloc _).drew) ⟨wr.heap.size, 0, none⟩ 1 1 [.int .i64 (minusZ xb xa)] (by rfl) (by rfl) (World.news_of_block (cs := #[.int .i64 (minusZ xb xa)]) (t := 3) (fr := (0, 0)) (heap_alloc_new wr _)) (by simp [Value.oneCell']) (by omega) (by unfold maxLen; omega) (by omega) (by simp) (wr.heap.size + 1) (by simp) ?_; intro gg capn w5 hown1 hgrow hat hlt5; obtain ⟨hp1, hp2, f', hP⟩ := HP.out w5 gg capn hown1 hgrow hat; have hs5 := HS5.out _ _ hP.only; have hs6 := HS6.out _ hP.only; have HPP := Lib.hid hP; clear hP))
        all_goals (
          go_wp2
          go_roundw
          case rel => exact ⟨q + 1, _, _, _, by omega, rfl, by have := HY0.out; omega, by rw [← Nat.add_assoc, ← HM.out, HSN.out]; exact HPP.out⟩
          case measure => (simp [intOf]; try omega))
end Go.Proofs.Ytkmcpcbfoiflbaa
