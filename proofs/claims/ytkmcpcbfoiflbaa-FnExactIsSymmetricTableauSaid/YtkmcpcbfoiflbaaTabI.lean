/- A tableau that is being made by appends: its box, and its rows so far. Conditions: none. -/
import Derived.Test.YtkmcpcbfoiflbaaAdjI
set_option linter.unusedSimpArgs false
set_option linter.unusedVariables false
namespace Go.Proofs.Ytkmcpcbfoiflbaa
open Go.RowKit Go.Sort

structure TabInv (e : Nat) (W w : World) (Bf : Nat) (n : Int) (vA vB : Value) (xs ys : List Int) (fA fB : List Nat) : Prop where
  a : OwnI e w vA xs fA
  b : OwnI e w vB ys fB
  dis : ∀ g ∈ fA, g ∉ fB
  newA : ∀ g ∈ fA, W.heap.size ≤ g
  newB : ∀ g ∈ fB, W.heap.size ≤ g
  only : Only [Bf] W w
  c0 : w.cell? ⟨Bf, 0, none⟩ = some (.int .i64 n)
  c1 : w.cell? ⟨Bf, 1, none⟩ = some vA
  c2 : w.cell? ⟨Bf, 2, none⟩ = some vB
  f1 : w.frozen? ⟨Bf, 1, none⟩ = false
  f2 : w.frozen? ⟨Bf, 2, none⟩ = false
  lt : Bf < W.heap.size
theorem ownI_nil' (e : Nat) (w : World) : OwnI e w (.slice none 0 0) [] [] := ⟨World.ownsRow_nil _ _ _ _, rfl, by simp⟩
theorem tabInv_start {e t : Nat} {w : World} {n : Int} {W : World} (hW : W = w.alloc (.cells #[.int .i64 n, .slice none 0 0, .slice none 0 0] t)) : TabInv e W W w.heap.size n (.slice none 0 0) (.slice none 0 0) [] [] [] [] := by
  subst hW
  exact ⟨ownI_nil' _ _, ownI_nil' _ _, by simp, by simp, by simp, Only.refl _ _, by simp, by simp, by simp, by simp, by simp, by simp⟩
theorem TabInv.below {e : Nat} {w0 W w : World} {Bf : Nat} {n : Int} {vA vB : Value} {xs ys : List Int} {fA fB : List Nat} (h : TabInv e W w Bf n vA vB xs ys fA fB) (hb : Below w0.heap.size w0 W) (hB : w0.heap.size ≤ Bf) : Below w0.heap.size w0 w :=
  hb.trans (h.only.below hb.size (by simpa using hB))
theorem TabInv.drew {e : Nat} {W w : World} {Bf : Nat} {n : Int} {vA vB : Value} {xs ys : List Int} {fA fB : List Nat} (h : TabInv e W w Bf n vA vB xs ys fA fB) : TabInv e W w.drew Bf n vA vB xs ys fA fB := by
  have ho : Only [] w w.drew := Only.of_below (below_drew' _)
  exact ⟨ownI_only h.a ho (by simp), ownI_only h.b ho (by simp), h.dis, h.newA, h.newB, h.only.drew, h.c0, h.c1, h.c2, h.f1, h.f2, h.lt⟩
theorem tab_push {e : Nat} {W w w1 w2 : World} {Bf n' i : Nat} {n : Int} {v v' o u0 : Value} {xs ys : List Int} {f fo : List Nat} {y : Int}
    (ha : OwnI e w v xs f) (hb : OwnI e w o ys fo) (hdis : ∀ g ∈ f, g ∉ fo) (hA : ∀ g ∈ f, W.heap.size ≤ g) (hB : ∀ g ∈ fo, W.heap.size ≤ g) (honly : Only [Bf] W w) (hlt : Bf < W.heap.size)
    (hy : I64 y) (hn : xs.length = n') (h1 : Below w.heap.size w w1) (hown : w2.ownsRow 0 e 1 v' (n' + 1) (xs.map (Value.int .i64) ++ [.int .i64 y])) (hg : w1.grownBy w2 v.ownBlock)
    (hv : ∀ b, v'.ownBlock = some b → v.ownBlock = some b ∨ w1.heap.size ≤ b) :
    Bf ∉ f ∧ Only f w w2 ∧ ∃ f', OwnI e (w2.setCell ⟨Bf, i, none⟩ u0) v' (xs ++ [y]) f' ∧ OwnI e (w2.setCell ⟨Bf, i, none⟩ u0) o ys fo ∧ (∀ g ∈ f', g ∉ fo) ∧ (∀ g ∈ f', W.heap.size ≤ g) ∧ Only [Bf] W (w2.setCell ⟨Bf, i, none⟩ u0) := by
  subst hn
  have hfe : f = v.ownBlock.toList := ha.2.1
  have hO : Only f w w2 := (Only.of_below h1).trans ⟨hg.os, hg.tape, hg.output, hg.size, fun k hk hn => hg.block k hk (fun e => hn (by rw [hfe, ← e]; simp))⟩
  have hs1 := h1.size
  have hsW := honly.size
  have hsO := hO.size
  have hBf : Bf ∉ f := fun hm => by have := hA Bf hm; omega
  have hSt : Only [Bf] w2 (w2.setCell ⟨Bf, i, none⟩ u0) := (Only.refl _ _).setCell (by simp) _
  have hsub : ∀ b ∈ v'.ownBlock.toList, b ∈ f ∨ w1.heap.size ≤ b := fun b hb => by
    rw [Option.mem_toList] at hb
    rcases hv b hb with hb | hb
    · left; rw [hfe, hb]; simp
    · right; exact hb
  have hnew : ∀ b ∈ v'.ownBlock.toList, W.heap.size ≤ b := fun b hb => by
    rcases hsub b hb with h | h
    · exact hA b h
    · omega
  have hI' : OwnI e w2 v' (xs ++ [y]) v'.ownBlock.toList := ⟨by simpa using hown, rfl, fun x hx => by
    simp at hx
    rcases hx with hx | rfl
    · exact ha.2.2 x hx
    · exact hy⟩
  refine ⟨hBf, hO, v'.ownBlock.toList, ownI_only hI' hSt (fun b hb hm => by have := hnew b hb; simp at hm; omega), ownI_only (ownI_only hb hO (fun b hb' hm => hdis b hm hb')) hSt (fun b hb' hm => by have := hB b hb'; simp at hm; omega), fun b hb' hm => ?_, hnew, ?_⟩
  · rcases hsub b hb' with h | h
    · exact hdis b h hm
    · have := ownI_lt hb b hm; omega
  · refine ⟨by rw [hSt.os, hO.os, honly.os], by rw [hSt.tape, hO.tape, honly.tape], by rw [hSt.output, hO.output, honly.output], by have := hSt.size; omega, fun k hk hn => ?_⟩
    rw [hSt.block k (by omega) hn, hO.block k (by omega) (fun hm => by have := hA k hm; omega), honly.block k hk hn]
theorem TabInv.pushA {e : Nat} {W w w1 w2 : World} {Bf n' : Nat} {n : Int} {v v' vB : Value} {xs ys : List Int} {fA fB : List Nat} {y : Int} (h : TabInv e W w Bf n v vB xs ys fA fB)
    (hy : I64 y) (hn : xs.length = n') (h1 : Below w.heap.size w w1) (hown : w2.ownsRow 0 e 1 v' (n' + 1) (xs.map (Value.int .i64) ++ [.int .i64 y])) (hg : w1.grownBy w2 v.ownBlock)
    (hv : ∀ b, v'.ownBlock = some b → v.ownBlock = some b ∨ w1.heap.size ≤ b) :
    w2.cell? ⟨Bf, 1, none⟩ = some v ∧ w2.frozen? ⟨Bf, 1, none⟩ = false ∧ ∃ f', TabInv e W (w2.setCell ⟨Bf, 1, none⟩ v') Bf n v' vB (xs ++ [y]) ys f' fB := by
  obtain ⟨hB, hO, f', p1, p2, p3, p4, p5⟩ := tab_push (i := 1) (u0 := v') (n := n) h.a h.b h.dis h.newA h.newB h.only h.lt hy hn h1 hown hg hv
  have hlt : Bf < w.heap.size := Nat.lt_of_lt_of_le h.lt h.only.size
  have hc1 := cell_only hO hB h.c1
  have hf1 : w2.frozen? ⟨Bf, 1, none⟩ = false := (World.frozen?_of_block (hO.block Bf hlt hB)).trans h.f1
  have hf2 : w2.frozen? ⟨Bf, 2, none⟩ = false := (World.frozen?_of_block (hO.block Bf hlt hB)).trans h.f2
  exact ⟨hc1, hf1, f', ⟨p1, p2, p3, p4, h.newB, p5, (World.cell?_setCell_other _ _ _ _ (by simp)).trans (cell_only hO hB h.c0), World.cell?_setCell_same _ _ _ hc1, (World.cell?_setCell_other _ _ _ _ (by simp)).trans (cell_only hO hB h.c2), by rw [World.frozen?_setCell]; exact hf1, by rw [World.frozen?_setCell]; exact hf2, h.lt⟩⟩
theorem TabInv.pushB {e : Nat} {W w w1 w2 : World} {Bf n' : Nat} {n : Int} {v v' vA : Value} {xs ys : List Int} {fA fB : List Nat} {y : Int} (h : TabInv e W w Bf n vA v xs ys fA fB)
    (hy : I64 y) (hn : ys.length = n') (h1 : Below w.heap.size w w1) (hown : w2.ownsRow 0 e 1 v' (n' + 1) (ys.map (Value.int .i64) ++ [.int .i64 y])) (hg : w1.grownBy w2 v.ownBlock)
    (hv : ∀ b, v'.ownBlock = some b → v.ownBlock = some b ∨ w1.heap.size ≤ b) :
    w2.cell? ⟨Bf, 2, none⟩ = some v ∧ w2.frozen? ⟨Bf, 2, none⟩ = false ∧ ∃ f', TabInv e W (w2.setCell ⟨Bf, 2, none⟩ v') Bf n vA v' xs (ys ++ [y]) fA f' := by
  obtain ⟨hB, hO, f', p1, p2, p3, p4, p5⟩ := tab_push (i := 2) (u0 := v') (n := n) h.b h.a (fun g hg hm => h.dis g hm hg) h.newB h.newA h.only h.lt hy hn h1 hown hg hv
  have hlt : Bf < w.heap.size := Nat.lt_of_lt_of_le h.lt h.only.size
  have hc2 := cell_only hO hB h.c2
  have hf1 : w2.frozen? ⟨Bf, 1, none⟩ = false := (World.frozen?_of_block (hO.block Bf hlt hB)).trans h.f1
  have hf2 : w2.frozen? ⟨Bf, 2, none⟩ = false := (World.frozen?_of_block (hO.block Bf hlt hB)).trans h.f2
  exact ⟨hc2, hf2, f', ⟨p2, p1, fun g hg hm => p3 g hm hg, h.newA, p4, p5, (World.cell?_setCell_other _ _ _ _ (by simp)).trans (cell_only hO hB h.c0), (World.cell?_setCell_other _ _ _ _ (by simp)).trans (cell_only hO hB h.c1), World.cell?_setCell_same _ _ _ hc2, by rw [World.frozen?_setCell]; exact hf1, by rw [World.frozen?_setCell]; exact hf2, h.lt⟩⟩
end Go.Proofs.Ytkmcpcbfoiflbaa
