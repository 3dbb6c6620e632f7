/- A field that is being made: its box, and its parts so far. Conditions: none. -/
import Derived.Test.YtdaaamdighojdaaDoorFld
set_option linter.unusedSimpArgs false
set_option linter.unusedVariables false
namespace Go.Proofs.YtdaaamdighojdaaDoor
open Go.RowKit Go.Sort

theorem ownS_push2 {α : Type} {e size : Nat} {El : World → List Value → α → List Nat → Prop} (hE : ∀ w w' u x f g, El w u x f → Only g w w' → (∀ b ∈ f, b ∉ g) → El w' u x f)
    {w w1 w2 : World} {v v' : Value} {xs : List α} {x : α} {us : List (List Value)} {u : List Value} {fs f : List Nat} {n : Nat}
    (hone : ∀ u ∈ us, u.length = size) (hels : OwnEls El w us xs fs) (hnd : (v.ownBlock.toList ++ fs).Nodup) (hx : El w u x f) (hul : u.length = size) (hdis : ∀ b ∈ f, b ∉ v.ownBlock.toList ++ fs) (hfn : f.Nodup)
    (hfl : ∀ b ∈ f, b < w.heap.size) (hsl : ∀ b ∈ fs, b < w.heap.size) (hn : xs.length = n)
    (h1 : Below w.heap.size w w1) (hown : w2.ownsRow 0 e size v' (n + 1) (us.flatten ++ u)) (hg : w1.grownBy w2 v.ownBlock) (hv : ∀ b, v'.ownBlock = some b → v.ownBlock = some b ∨ w1.heap.size ≤ b) :
    ∃ fp', OwnS e size El w2 v' (xs ++ [x]) fp' ∧ (∀ b ∈ fp', b ∈ v.ownBlock.toList ++ fs ∨ b ∈ f ∨ w1.heap.size ≤ b) ∧ Only v.ownBlock.toList w w2 := by
  subst hn
  have hO : Only v.ownBlock.toList w w2 := (Only.of_below h1).trans ⟨hg.os, hg.tape, hg.output, hg.size, fun k hk hn => hg.block k hk (fun e => hn (by rw [← e]; simp))⟩
  rw [List.nodup_append] at hnd
  have hv' : ∀ b, v'.ownBlock = some b → (b ∈ v.ownBlock.toList ∨ w1.heap.size ≤ b) := fun b hb => (hv b hb).imp (fun h => by rw [h]; simp) id
  refine ⟨v'.ownBlock.toList ++ (fs ++ f), ⟨us ++ [u], fs ++ f, by simpa using hown, ?_, ?_, rfl, ?_⟩, ?_, hO⟩
  · intro u' hu'
    simp at hu'
    rcases hu' with hu' | rfl
    · exact hone u' hu'
    · exact hul
  · refine ownEls_snoc (ownEls_only (fun u x f h hd => hE _ _ _ _ _ _ h hO hd) hels (fun b hb hm => hnd.2.2 b hm b hb rfl)) (hE _ _ _ _ _ _ hx hO (fun b hb hm => hdis b hb (by simp at hm; simp [hm])))
  · rw [List.nodup_append, List.nodup_append]
    refine ⟨by cases v'.ownBlock <;> simp, ⟨hnd.2.1, hfn, fun a ha b hb e => hdis b hb (by simp [← e, ha])⟩, fun a ha b hb e => ?_⟩
    subst e
    rw [Option.mem_toList] at ha
    have h1s := h1.size
    rcases hv' a ha with h | h
    · simp at hb
      rcases hb with hb | hb
      · exact hnd.2.2 a h a hb rfl
      · exact hdis a hb (by simp at h; simp [h])
    · simp at hb
      rcases hb with hb | hb
      · have := hsl a hb; omega
      · have := hfl a hb; omega
  · intro b hb
    simp only [List.mem_append, Option.mem_toList] at hb
    rcases hb with hb | hb | hb
    · rcases hv b hb with h | h
      · left; simp [h]
      · right; right; exact h
    · left; simp [hb]
    · right; left; exact hb

/-- A field that is being made: its box, and its parts so far. -/
structure FldInv (e1 e2 e : Nat) (W w : World) (Bf : Nat) (dim : Int) (v : Value) (xs : List (List MonZ)) (fs : List Nat) : Prop where
  own : OwnMss e1 e2 e w v xs fs
  new : ∀ b ∈ fs, W.heap.size ≤ b
  only : Only [Bf] W w
  c0 : w.cell? ⟨Bf, 0, none⟩ = some (.int .i64 dim)
  c1 : w.cell? ⟨Bf, 1, none⟩ = some v
  f1 : w.frozen? ⟨Bf, 1, none⟩ = false
  lt : Bf < W.heap.size
theorem fldInv_start {e1 e2 e t : Nat} {w : World} {dim : Int} {W : World} (hW : W = w.alloc (.cells #[.int .i64 dim, .slice none 0 0] t)) : FldInv e1 e2 e W W w.heap.size dim (.slice none 0 0) [] [] := by
  subst hW
  exact ⟨⟨[], [], World.ownsRow_nil _ _ _ _, by simp, rfl, rfl, by simp⟩, by simp, Only.refl _ _, by simp, by simp, by simp, by simp⟩
theorem FldInv.below {e1 e2 e : Nat} {w0 W w : World} {Bf : Nat} {dim : Int} {v : Value} {xs : List (List MonZ)} {fs : List Nat} (h : FldInv e1 e2 e W w Bf dim v xs fs) (hb : Below w0.heap.size w0 W) (hB : w0.heap.size ≤ Bf) : Below w0.heap.size w0 w :=
  hb.trans (h.only.below hb.size (by simpa using hB))
/-- Behind a call, an append to the parts, and the store of the new slice of parts. -/
theorem FldInv.push {e1 e2 e : Nat} {W w wa w1 w2 : World} {Bf : Nat} {dim : Int} {v v' p : Value} {xs : List (List MonZ)} {x : List MonZ} {us : List (List Value)} {fs f : List Nat} {n : Nat}
    (h : FldInv e1 e2 e W w Bf dim v xs (v.ownBlock.toList ++ fs)) (hone : ∀ u ∈ us, u.length = 1) (hels : OwnEls (OElMss e2 e) w us xs fs) (hnd : (v.ownBlock.toList ++ fs).Nodup) (hown0 : w.ownsRow 0 e1 1 v xs.length us.flatten) (hn : xs.length = n)
    (hp : OwnMs e2 e wa p x f) (hf : ∀ b ∈ f, w.heap.size ≤ b) (hq : Below w.heap.size w wa) (h1 : Below wa.heap.size wa w1) (hown : w2.ownsRow 0 e1 1 v' (n + 1) (us.flatten ++ [p])) (hg : w1.grownBy w2 v.ownBlock)
    (hv : ∀ b, v'.ownBlock = some b → v.ownBlock = some b ∨ w1.heap.size ≤ b) :
    w2.cell? ⟨Bf, 1, none⟩ = some v ∧ w2.frozen? ⟨Bf, 1, none⟩ = false ∧ ∃ fp', FldInv e1 e2 e W (w2.setCell ⟨Bf, 1, none⟩ v') Bf dim v' (xs ++ [x]) fp' := by
  have hlt : ∀ b ∈ v.ownBlock.toList ++ fs, b < w.heap.size := fun b hb => by
    simp only [List.mem_append, Option.mem_toList] at hb
    rcases hb with hb | hb
    · exact (hown0.lt b hb).2
    · exact ownEls_lt (fun _ _ _ h => oelMss_lt h) hels b hb
  have hWw := h.only.size
  have hq1 := hq.size
  have h11 := h1.size
  have hBlt := h.lt
  obtain ⟨fp', hP, hfp, hO⟩ := ownS_push2 (El := OElMss e2 e) (w := wa) (w1 := w1) (f := f) (fs := fs) (fun w w' u x f g h ho hd => oelMss_only h ho hd) hone (ownEls_only (fun u x f' h hd => oelMss_only h (Only.of_below (fp := []) hq) hd) hels (by simp)) hnd ⟨p, rfl, hp⟩ rfl
    (fun b hb hm => by have := hf b hb; have := hlt b hm; omega) (ownMs_nodup hp) (ownMs_lt hp) (fun b hb => by have := hlt b (by simp [hb]); omega) hn h1 hown hg hv
  have hBn : Bf ∉ v.ownBlock.toList := fun hm => by have := h.new Bf (by simp only [List.mem_append]; left; exact hm); omega
  have hfn : ∀ b ∈ fp', W.heap.size ≤ b := fun b hb => by
    rcases hfp b hb with h2 | h2 | h2
    · exact h.new b h2
    · have := hf b h2; omega
    · omega
  have hOw : Only v.ownBlock.toList w w2 := (Only.of_below hq).trans hO
  have hSt : Only [Bf] w2 (w2.setCell ⟨Bf, 1, none⟩ v') := (Only.refl _ _).setCell (by simp) _
  have hc1 := cell_only hOw hBn h.c1
  have hc0 := cell_only hOw hBn h.c0
  have hf1 : w2.frozen? ⟨Bf, 1, none⟩ = false := (World.frozen?_of_block (hOw.block Bf (by omega) hBn)).trans h.f1
  refine ⟨hc1, hf1, fp', ⟨ownMss_only hP hSt (fun b hb hm => by have := hfn b hb; simp at hm; omega), hfn, ?_, ?_, World.cell?_setCell_same _ _ _ hc1, ?_, hBlt⟩⟩
  · refine ⟨by rw [hSt.os, hOw.os, h.only.os], by rw [hSt.tape, hOw.tape, h.only.tape], by rw [hSt.output, hOw.output, h.only.output], by have := hSt.size; have := hOw.size; omega, fun k hk hn => ?_⟩
    rw [hSt.block k (by have := hOw.size; omega) hn, hOw.block k (by omega) (fun hm => by have := h.new k (by simp only [List.mem_append]; left; exact hm); omega), h.only.block k hk hn]
  · exact (World.cell?_setCell_other _ _ _ _ (by simp)).trans hc0
  · rw [World.frozen?_setCell]; exact hf1

end Go.Proofs.YtdaaamdighojdaaDoor
