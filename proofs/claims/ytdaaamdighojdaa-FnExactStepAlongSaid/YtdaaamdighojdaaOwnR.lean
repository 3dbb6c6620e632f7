/- Slices of the call's own whose elements are only read, wherever these lie. Conditions: none. -/
import Derived.Test.YtdaaamdighojdaaDAt
set_option linter.unusedSimpArgs false
set_option linter.unusedVariables false
namespace Go.Proofs.Ytdaaamdighojdaa
open Go.RowKit Go.Sort

/-- Read so whatever is written to one block. -/
def Apart {β : Type} (Rd : World → Value → β → Prop) (g : Nat) (w : World) (u : Value) (x : β) : Prop := ∀ w', Only [g] w w' → Rd w' u x
section
variable {β : Type} {Rd : World → Value → β → Prop} {g g' : Nat} {w w' w1 : World} {u : Value} {x : β}
theorem Apart.now (h : Apart Rd g w u x) : Rd w u x := h w (Only.refl _ _)
theorem Apart.step (h : Apart Rd g w u x) (ho : Only [g] w w') : Apart Rd g w' u x := fun w'' h' => h w'' (ho.trans h')
theorem Apart.bel (h : Apart Rd g w u x) (hb : Below w.heap.size w w') : Apart Rd g w' u x := h.step (Only.of_below hb)
theorem only_fresh {fp : List Nat} {w w' : World} (h : Only (g' :: fp) w w') (hg : w.heap.size ≤ g') : Only fp w w' :=
  ⟨h.os, h.tape, h.output, h.size, fun k hk hn => h.block k hk (by simp only [List.mem_cons, not_or]; exact ⟨by omega, hn⟩)⟩
theorem Apart.moved (h : Apart Rd g w u x) (ho : Only [g] w w') (hg : w.heap.size ≤ g') : Apart Rd g' w' u x := fun w'' h' =>
  h w'' (only_fresh (g' := g') ((ho.mono (by intro b hb; simp at hb; simp [hb])).trans (h'.mono (by intro b hb; simp at hb; simp [hb]))) hg)
theorem apart_old (hm : ∀ w w' u x, Below w.heap.size w w' → Rd w u x → Rd w' u x) (h : Rd w u x) (hb : Below w.heap.size w w1) (hg : w.heap.size ≤ g) : Apart Rd g w1 u x := fun w' ho =>
  hm _ _ _ _ (hb.trans (ho.below hb.size (by simpa using hg))) h
theorem apart_I {e : Nat} {xs : List Int} {f : List Nat} (h : OwnI e w u xs f) (hg : g ∉ f) : Apart RdI g w u xs := fun w' ho =>
  ownI_rd (ownI_only h ho (fun b hb hm => hg (List.mem_singleton.1 hm ▸ hb)))
theorem apart_II {e1 e : Nat} {xs : List (List Int)} {f : List Nat} (h : OwnII e1 e w u xs f) (hg : g ∉ f) : Apart RdII g w u xs := fun w' ho =>
  ownII_rd (ownII_only h ho (fun b hb hm => hg (List.mem_singleton.1 hm ▸ hb)))
theorem apart_row {ad : Option Addr} {len cap : Nat} {xs : List (List Int)} (h : Apart RdII g w (.slice ad len cap) xs) {k : Nat} {b o : Nat} {y : List Int} {v : Value} (had : ad = some ⟨b, o, none⟩) (hy : xs[k]? = some y) (hv : w.cell? ⟨b, o + k, none⟩ = some v) (hb : b ≠ g) :
    Apart RdI g w v y := fun w' ho => by
  have h' := h w' ho
  obtain ⟨ad2, cap2, he, h1, h2, h3⟩ := h'
  injection he with e1 e2 e3
  subst e1 e2 e3
  obtain ⟨b2, o2, hb2, hc⟩ := h3 (by have := (List.getElem?_eq_some_iff.1 hy).1; omega)
  rw [had] at hb2
  simp only [Option.some.injEq, Addr.mk.injEq] at hb2
  obtain ⟨rfl, rfl, _⟩ := hb2
  obtain ⟨us, hs, hu, q, rfl, hE⟩ := hc k y hy
  have h4 := hu 0 q rfl
  rw [Nat.mul_one, Nat.add_zero] at h4
  have h5 := cell_only ho (by simpa using hb) hv
  rw [h5] at h4
  injection h4 with h4
  rw [h4]
  exact hE
end

/-- A slice of the call's own whose elements take one cell each and are only read; they lie apart from it. -/
def OwnR {β : Type} (Rd : World → Value → β → Prop) (e : Nat) (w : World) (v : Value) (xs : List β) : Prop :=
  ∃ us : List Value, w.ownsRow 0 e 1 v xs.length us ∧ us.length = xs.length ∧ ∀ (j : Nat) x u, xs[j]? = some x → us[j]? = some u → Rd w u x ∧ ∀ g, v.ownBlock = some g → Apart Rd g w u x
section
variable {β : Type} {Rd : World → Value → β → Prop} {w w' : World} {v : Value} {xs : List β} {e : Nat}
theorem ownR_nil : OwnR Rd e w (.slice none 0 0) ([] : List β) := ⟨[], World.ownsRow_nil _ _ _ _, rfl, by simp⟩
theorem ownR_lit : OwnR Rd e (w.alloc (.cells #[] e)) (.slice (some ⟨w.heap.size, 0, none⟩) 0 0) ([] : List β) :=
  ⟨[], by simpa using World.ownsRow_lit (base := 0) (e := e) (size := 1) w #[] 0 (Nat.zero_le _) (Nat.zero_le _) rfl, rfl, by simp⟩
theorem rd_only (hm : ∀ w w' u x, Below w.heap.size w w' → Rd w u x → Rd w' u x) {u : Value} {x : β} {o : Option Nat} (h : Rd w u x ∧ ∀ g, o = some g → Apart Rd g w u x) (ho : Only o.toList w w') : Rd w' u x := by
  cases o with
  | none => exact hm _ _ _ _ (ho.below (Nat.le_refl _) (by simp)) h.1
  | some g => exact h.2 g rfl w' ho
theorem ownR_rd (h : OwnR Rd e w v xs) : RdS 1 (fun w us x => ∃ u, us = [u] ∧ Rd w u x) w v xs := by
  obtain ⟨us, hown, hul, hall⟩ := h
  have hown' := hown
  obtain ⟨hlen, ⟨rfl, h2⟩ | ⟨g, cap, cur, rfl, _, _, h4, h5, _⟩⟩ := hown
  · exact ⟨none, 0, by rw [h2], by omega, by omega, fun hp => by omega⟩
  · refine ⟨_, cap, rfl, h4, h5, fun _ => ⟨g, 0, rfl, fun i x hx => ?_⟩⟩
    have hi := (List.getElem?_eq_some_iff.1 hx).1
    have hu : us[i]? = some us[i] := List.getElem?_eq_getElem (by omega)
    refine ⟨[us[i]], rfl, fun j y hj => ?_, us[i], rfl, (hall i x _ hx hu).1⟩
    match j, hj with
    | 0, hj =>
      simp only [List.getElem?_cons_zero, Option.some.injEq] at hj
      subst hj
      rw [show (0 + i * 1 + 0) = i by omega, hown'.cellAt i (by omega), hu]
theorem ownR_bel (hm : ∀ w w' u x, Below w.heap.size w w' → Rd w u x → Rd w' u x) (h : OwnR Rd e w v xs) (hb : Below w.heap.size w w') : OwnR Rd e w' v xs := by
  obtain ⟨us, hown, hul, hall⟩ := h
  exact ⟨us, ownsRow_only hown (Only.of_below (fp := []) hb) (by simp), hul, fun j x u hx hu => ⟨hm _ _ _ _ hb (hall j x u hx hu).1, fun g hg => ((hall j x u hx hu).2 g hg).bel hb⟩⟩
/-- Behind an append of one element that has been read. -/
theorem ownR_push (hm : ∀ w w' u x, Below w.heap.size w w' → Rd w u x → Rd w' u x) {W w1 w1b w2 : World} {us : List Value} {v' u : Value} {x : β} {n : Nat}
    (hul : us.length = xs.length) (hn : xs.length = n) (hall : ∀ (j : Nat) x u, xs[j]? = some x → us[j]? = some u → Rd w u x ∧ ∀ g, v.ownBlock = some g → Apart Rd g w u x)
    (hx : Rd w1 u x) (hxa : ∀ g, v.ownBlock = some g → Apart Rd g w1 u x) (hv0 : ∀ g, v.ownBlock = some g → W.heap.size ≤ g) (hW : Below W.heap.size W w) (hb : Below w.heap.size w w1) (hb1 : Below w1.heap.size w1 w1b)
    (hown : w2.ownsRow 0 e 1 v' (n + 1) (us ++ [u])) (hg : w1b.grownBy w2 v.ownBlock) (hv : ∀ g, v'.ownBlock = some g → v.ownBlock = some g ∨ w1b.heap.size ≤ g) :
    OwnR Rd e w2 v' (xs ++ [x]) ∧ (∀ g, v'.ownBlock = some g → W.heap.size ≤ g) ∧ Below W.heap.size W w2 := by
  subst hn
  have hO1 : Only v.ownBlock.toList w1b w2 := ⟨hg.os, hg.tape, hg.output, hg.size, fun k hk hn => hg.block k hk (fun e => hn (by rw [← e]; simp))⟩
  have hOx : Only v.ownBlock.toList w1 w2 := (Only.of_below hb1).trans hO1
  have hO : Only v.ownBlock.toList w w2 := (Only.of_below hb).trans hOx
  have hs1 := hb1.size
  have hs := hb.size
  have key : ∀ {wa : World} {u : Value} {x : β}, (Rd wa u x ∧ ∀ g, v.ownBlock = some g → Apart Rd g wa u x) → Only v.ownBlock.toList wa w2 → wa.heap.size ≤ w1b.heap.size → Rd w2 u x ∧ ∀ g, v'.ownBlock = some g → Apart Rd g w2 u x := by
    intro wa u x h ho hsz
    refine ⟨rd_only hm h ho, fun g hg' w'' h' => ?_⟩
    rcases hv g hg' with hv | hv
    · rw [hv] at h ho
      exact (h.2 g rfl).step ho w'' h'
    · refine rd_only hm h (only_fresh (g' := g) ((ho.mono (by intro b hb; simp [hb])).trans (h'.mono (by intro b hb; simp at hb; simp [hb]))) (by omega))
  refine ⟨⟨us ++ [u], by simpa using hown, by simp [hul], fun j y z hy hz => ?_⟩, fun g hg' => ?_, (hW.trans ((hb.trans (hb1.mono hb.size)).mono hW.size)).grown hg (by have := hW.size; omega) hv0⟩
  · rcases Nat.lt_or_ge j xs.length with hj | hj
    · rw [List.getElem?_append_left hj] at hy
      rw [List.getElem?_append_left (by omega)] at hz
      exact key (hall j y z hy hz) hO (by omega)
    · rw [List.getElem?_append_right hj] at hy
      rw [List.getElem?_append_right (by omega), hul] at hz
      have h0 : j - xs.length = 0 := by
        have := (List.getElem?_eq_some_iff.1 hy).1
        simp at this
        omega
      rw [h0] at hy hz
      simp at hy hz
      subst hy hz
      exact key ⟨hx, hxa⟩ hOx hs1
  · rcases hv g hg' with hv | hv
    · exact hv0 g hv
    · have := hW.size; omega
/-- A store of an element that has been read. -/
theorem ownR_store {g n cap : Nat} (h : OwnR Rd e w (.slice (some ⟨g, 0, none⟩) n cap) xs) {k : Nat} (hk : k < xs.length) {u : Value} {y : β} (hu : Apart Rd g w u y) :
    (∃ c, w.cell? ⟨g, k, none⟩ = some c) ∧ w.frozen? ⟨g, k, none⟩ = false ∧ OwnR Rd e (w.setCell ⟨g, k, none⟩ u) (.slice (some ⟨g, 0, none⟩) n cap) (xs.set k y) := by
  obtain ⟨us, hown, hul, hall⟩ := h
  obtain ⟨ad', cap', he, _, _, _⟩ := row_open hown
  injection he with e1 e2 e3
  subst e2
  have hs := (hown.stored k u).1
  have hO : Only [g] w (w.setCell ⟨g, k, none⟩ u) := (Only.refl _ _).setCell (by simp) _
  refine ⟨?_, hown.frozenAt k, us.set k u, by rw [List.length_set]; exact hs, by simp [hul], fun j x z hx hz => ?_⟩
  · rw [hown.cellAt k (by omega), List.getElem?_eq_getElem (by omega)]
    exact ⟨_, rfl⟩
  · have hgg : ∀ g', (Value.slice (some ⟨g, 0, none⟩) xs.length cap).ownBlock = some g' → g' = g := fun g' h => by simp [Value.ownBlock] at h; exact h.symm
    by_cases hj : k = j
    · subst hj
      rw [List.getElem?_set_self hk] at hx
      rw [List.getElem?_set_self (by omega)] at hz
      simp at hx hz
      subst hx hz
      have := hu.step hO
      exact ⟨this.now, fun g' hg' => by rw [hgg g' hg']; exact this⟩
    · rw [List.getElem?_set_ne hj] at hx hz
      have := ((hall j x z hx hz).2 g rfl).step hO
      exact ⟨this.now, fun g' hg' => by rw [hgg g' hg']; exact this⟩
end
theorem rdI_mono' : ∀ (w w' : World) (u : Value) (x : List Int), Below w.heap.size w w' → RdI w u x → RdI w' u x := fun _ _ _ _ hb h => rdI_mono hb h
theorem rdII_mono' : ∀ (w w' : World) (u : Value) (x : List (List Int)), Below w.heap.size w w' → RdII w u x → RdII w' u x := fun _ _ _ _ hb h => rdII_mono hb h
theorem ownR_rdII {e : Nat} {w : World} {v : Value} {xs : List (List Int)} (h : OwnR RdI e w v xs) : RdII w v xs := ownR_rd h
theorem ownR_rdIII {e : Nat} {w : World} {v : Value} {xs : List (List (List Int))} (h : OwnR RdII e w v xs) : RdIII w v xs := ownR_rd h

/-- What a call returns that may be old or new; it lies apart from all that was made between. -/
def GivesR {β : Type} (Rd : World → Value → β → Prop) (B : Nat) (w : World) (x : β) : Ending → World → Prop := fun e w' =>
  ∃ v, e = .returned v ∧ Rd w' v x ∧ (∀ g, B ≤ g → g < w.heap.size → Apart Rd g w' v x) ∧ Below w.heap.size w w'
end Go.Proofs.Ytdaaamdighojdaa
