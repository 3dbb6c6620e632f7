/- A row of a slice of rows is replaced by one of its own. Conditions: none. -/
import Derived.Test.YtdaaamdighojdaaScal
set_option linter.unusedSimpArgs false
set_option linter.unusedVariables false
namespace Go.Proofs.Ytdaaamdighojdaa
open Go.RowKit Go.Sort

/-- A store of a new row into a slice whose elements take one cell each. -/
theorem ownS_replace {α : Type} {e : Nat} {El : World → List Value → α → List Nat → Prop} (hE : ∀ w w' u x f g, El w u x f → Only g w w' → (∀ b ∈ f, b ∉ g) → El w' u x f)
    {w : World} {g n cap : Nat} {xs : List α} {fp : List Nat} (h : OwnS e 1 El w (.slice (some ⟨g, 0, none⟩) n cap) xs fp) {k : Nat} {x y : α} {u : Value} {f : List Nat} (hx : xs[k]? = some x)
    (hy : El w [u] y f) (hd : ∀ b ∈ f, b ∉ fp) (hn : f.Nodup) :
    (∃ c, w.cell? ⟨g, k, none⟩ = some c) ∧ w.frozen? ⟨g, k, none⟩ = false ∧ g ∈ fp ∧ ∃ fp', OwnS e 1 El (w.setCell ⟨g, k, none⟩ u) (.slice (some ⟨g, 0, none⟩) n cap) (xs.set k y) fp' ∧ ∀ b ∈ fp', b ∈ fp ∨ b ∈ f := by
  obtain ⟨us, fs, hown, hone, hels, rfl, hnd⟩ := h
  have hk := (List.getElem?_eq_some_iff.1 hx).1
  obtain ⟨A, u0, C, f1, f0, f3, rfl, hA, rfl, h1, h2, h3⟩ := ownEls_split hels hx
  have hu0 : u0.length = 1 := hone u0 (by simp)
  have hlen := hown.1
  have hgb : (Value.slice (some ⟨g, 0, none⟩) n cap).ownBlock.toList = [g] := by simp [Value.ownBlock]
  rw [hgb] at hnd hd
  have hfl : (A ++ u0 :: C).flatten.length = xs.length := by rw [flat_len hone (ownEls_length hels)]; omega
  have hO : Only [g] w (w.setCell ⟨g, k, none⟩ u) := (Only.refl _ _).setCell (by simp) _
  have hset : (A ++ u0 :: C).flatten.set k u = (A ++ [u] :: C).flatten := by
    have h1 := flat_set (us := A ++ u0 :: C) (n := 1) (k := k) (j := 0) (u := u0) hone (by rw [← hA]; simp) (by omega) u
    rw [Nat.mul_one, Nat.add_zero] at h1
    rw [h1, List.set_append_right _ _ (by omega), hA, Nat.sub_self, List.set_cons_zero]
    congr 2
    cases u0 with
    | nil => simp at hu0
    | cons a u0 => simp at hu0; subst hu0; rfl
  rw [List.cons_append, List.nil_append, List.nodup_cons, List.nodup_append, List.nodup_append] at hnd
  obtain ⟨hgn, hn1, ⟨hn0, hn3, hn03⟩, hn13⟩ := hnd
  simp only [List.mem_append, not_or] at hgn
  have hdf : ∀ b ∈ f, b ≠ g ∧ b ∉ f1 ∧ b ∉ f0 ∧ b ∉ f3 := fun b hb => by
    have := hd b hb
    simpa using this
  obtain ⟨ad', cap', he, _, _, _⟩ := row_open hown
  injection he with e1 e2 e3
  subst e2
  have hs := (hown.stored k u).1
  rw [hset] at hs
  refine ⟨?_, hown.frozenAt k, by rw [hgb]; simp, g :: (f1 ++ (f ++ f3)), ⟨A ++ [u] :: C, f1 ++ (f ++ f3), by rw [List.length_set]; exact hs, ?_, ?_, by rw [hgb]; simp, ?_⟩, ?_⟩
  · rw [hown.cellAt k (by omega), List.getElem?_eq_getElem (by omega)]
    exact ⟨_, rfl⟩
  · intro u' hu'
    simp at hu'
    rcases hu' with hu' | rfl | hu'
    · exact hone u' (by simp [hu'])
    · rfl
    · exact hone u' (by simp [hu'])
  · have hsx : xs.set k y = xs.take k ++ y :: xs.drop (k + 1) := List.set_eq_take_append_cons_drop.trans (if_pos hk)
    rw [hsx]
    have h1' := ownEls_only (w' := w.setCell ⟨g, k, none⟩ u) (g := [g]) (fun u x f h hd => hE _ _ _ _ _ _ h hO hd) h1 (fun b hb hm => hgn.1 (List.mem_singleton.1 hm ▸ hb))
    have h3' := ownEls_only (w' := w.setCell ⟨g, k, none⟩ u) (g := [g]) (fun u x f h hd => hE _ _ _ _ _ _ h hO hd) h3 (fun b hb hm => hgn.2.2 (List.mem_singleton.1 hm ▸ hb))
    exact ownEls_append h1' ⟨f, f3, rfl, hE _ _ _ _ _ _ hy hO (fun b hb hm => (hdf b hb).1 (List.mem_singleton.1 hm)), h3'⟩
  · rw [List.nodup_cons, List.nodup_append, List.nodup_append]
    refine ⟨fun hm => ?_, hn1, ⟨hn, hn3, fun a ha b hb e => (hdf a ha).2.2.2 (e ▸ hb)⟩, fun a ha b hb e => ?_⟩
    · simp only [List.mem_append] at hm
      rcases hm with hm | hm | hm
      · exact hgn.1 hm
      · exact (hdf g hm).1 rfl
      · exact hgn.2.2 hm
    · simp only [List.mem_append] at hb
      rcases hb with hb | hb
      · exact (hdf b hb).2.1 (e ▸ ha)
      · exact hn13 a ha b (by simp [hb]) e
  · intro b hb
    rw [hgb]
    simp at hb ⊢
    rcases hb with rfl | hb | hb | hb
    · left; left; rfl
    · left; right; left; exact hb
    · right; exact hb
    · left; right; right; right; exact hb
end Go.Proofs.Ytdaaamdighojdaa
