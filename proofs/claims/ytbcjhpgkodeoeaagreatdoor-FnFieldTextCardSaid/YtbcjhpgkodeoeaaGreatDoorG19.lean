/- A row of a slice of rows grows: what it leaves. Conditions: none. -/
import Derived.Test.YtbcjhpgkodeoeaaGreatDoorG03
set_option linter.unusedSimpArgs false
set_option linter.unusedVariables false

namespace Go.Proofs.YtbcjhpgkodeoeaaGreatDoor
open Go.RowKit

theorem ownII_row {e1 e : Nat} {w : World} {g n cap : Nat} {xs : List (List Int)} {fp : List Nat} (h : OwnII e1 e w (.slice (some ⟨g, 0, none⟩) n cap) xs fp) {i : Nat} {x : List Int} (hx : xs[i]? = some x) :
    ∃ p f, w.cell? ⟨g, i, none⟩ = some p ∧ w.frozen? ⟨g, i, none⟩ = false ∧ g ∈ fp ∧ OwnI e w p x f ∧ (∀ b ∈ f, b ∈ fp) ∧ g ∉ f ∧
      ∀ (w2 : World) (p' : Value) (y : List Int) (f' : List Nat), Only f w w2 → OwnI e w2 p' y f' → (∀ b ∈ f', b ∈ f ∨ w.heap.size ≤ b) →
        (w2.cell? ⟨g, i, none⟩ = some p ∧ w2.frozen? ⟨g, i, none⟩ = false) ∧ ∃ fp', OwnII e1 e (w2.setCell ⟨g, i, none⟩ p') (.slice (some ⟨g, 0, none⟩) n cap) (xs.set i y) fp' ∧ ∀ b ∈ fp', b ∈ fp ∨ w.heap.size ≤ b := by
  have hlt := ownII_lt h
  obtain ⟨us, fs, hown, hone, hels, rfl, hnd⟩ := h
  have hk := (List.getElem?_eq_some_iff.1 hx).1
  obtain ⟨A, u0, C, f1, f0, f3, rfl, hA, rfl, h1, ⟨p, rfl, hp⟩, h3⟩ := ownEls_split hels hx
  have hlen := hown.1
  have hgb : (Value.slice (some ⟨g, 0, none⟩) n cap).ownBlock.toList = [g] := by simp [Value.ownBlock]
  rw [hgb] at hnd hlt ⊢
  obtain ⟨ad', cap', he, _, _, _⟩ := row_open hown
  injection he with e1' e2' e3'
  subst e2'
  have hui : (A ++ [p] :: C)[i]? = some [p] := by rw [← hA]; simp
  have hfl := flat_get hone hui (j := 0) rfl
  simp only [Nat.mul_one, Nat.add_zero] at hfl
  have hfll : (A ++ [p] :: C).flatten.length = xs.length := by rw [flat_len hone (ownEls_length hels)]; omega
  rw [List.cons_append, List.nil_append, List.nodup_cons, List.nodup_append, List.nodup_append] at hnd
  obtain ⟨hgn, hn1, ⟨hn0, hn3, hn03⟩, hn13⟩ := hnd
  simp only [List.mem_append, not_or] at hgn
  have hc0 : w.cell? ⟨g, i, none⟩ = some p := by rw [hown.cellAt i (by omega), hfl]
  refine ⟨p, f0, hc0, hown.frozenAt i, by simp, hp, fun b hb => by simp [hb], hgn.2.1, fun w2 p' y f' ho hp' hf' => ?_⟩
  have hg2 : ∀ b, (Value.slice (some ⟨g, 0, none⟩) xs.length cap).ownBlock = some b → b ∉ f0 := fun b hb => by
    simp [Value.ownBlock] at hb
    subst hb
    exact hgn.2.1
  have hown2 := ownsRow_only hown ho hg2
  have hs := (hown2.stored i p').1
  have hset : (A ++ [p] :: C).flatten.set i p' = (A ++ [p'] :: C).flatten := by
    have a1 := flat_set (us := A ++ [p] :: C) (n := 1) (k := i) (j := 0) (u := [p]) hone hui (by omega) p'
    rw [Nat.mul_one, Nat.add_zero] at a1
    rw [a1, List.set_append_right _ _ (by omega), hA, Nat.sub_self, List.set_cons_zero]
    rfl
  rw [hset] at hs
  have hdf : ∀ b ∈ f', b ≠ g ∧ b ∉ f1 ∧ b ∉ f3 := fun b hb => by
    rcases hf' b hb with h | h
    · exact ⟨fun e => hgn.2.1 (e ▸ h), fun hm => hn13 b hm b (by simp [h]) rfl, fun hm => hn03 b h b hm rfl⟩
    · refine ⟨fun e => ?_, fun hm => ?_, fun hm => ?_⟩
      · have := hlt b (by simp [e]); omega
      · have := hlt b (by simp [hm]); omega
      · have := hlt b (by simp [hm]); omega
  have hO : Only [g] w2 (w2.setCell ⟨g, i, none⟩ p') := (Only.refl _ _).setCell (by simp) _
  have hgl : g < w.heap.size := hlt g (by simp)
  refine ⟨⟨cell_only ho hgn.2.1 hc0, (World.frozen?_of_block (ho.block g hgl hgn.2.1)).trans (hown.frozenAt i)⟩, g :: (f1 ++ (f' ++ f3)), ⟨A ++ [p'] :: C, f1 ++ (f' ++ f3), by rw [List.length_set]; exact hs, ?_, ?_, by rw [hgb]; simp, ?_⟩, ?_⟩
  · intro u' hu'
    simp at hu'
    rcases hu' with hu' | rfl | hu'
    · exact hone u' (by simp [hu'])
    · rfl
    · exact hone u' (by simp [hu'])
  · have hsx : xs.set i y = xs.take i ++ y :: xs.drop (i + 1) := List.set_eq_take_append_cons_drop.trans (if_pos hk)
    rw [hsx]
    have step : ∀ {us : List (List Value)} {zs : List (List Int)} {f : List Nat}, OwnEls (OElII e) w us zs f → (∀ b ∈ f, b ∉ f0) → (∀ b ∈ f, b ≠ g) → OwnEls (OElII e) (w2.setCell ⟨g, i, none⟩ p') us zs f := fun h a1 a2 =>
      ownEls_only (fun u x f h hd => oelII_only h hO hd) (ownEls_only (fun u x f h hd => oelII_only h ho hd) h a1) (fun b hb hm => a2 b hb (List.mem_singleton.1 hm))
    have h1' := step h1 (fun b hb hm => hn13 b hb b (by simp [hm]) rfl) (fun b hb e => hgn.1 (e ▸ hb))
    have h3' := step h3 (fun b hb hm => hn03 b hm b hb rfl) (fun b hb e => hgn.2.2 (e ▸ hb))
    exact ownEls_append h1' ⟨f', f3, rfl, ⟨p', rfl, ownI_only hp' hO (fun b hb hm => (hdf b hb).1 (List.mem_singleton.1 hm))⟩, h3'⟩
  · rw [List.nodup_cons, List.nodup_append, List.nodup_append]
    refine ⟨fun hm => ?_, hn1, ⟨ownI_nodup hp', hn3, fun a ha b hb e => (hdf a ha).2.2 (e ▸ hb)⟩, fun a ha b hb e => ?_⟩
    · simp only [List.mem_append] at hm
      rcases hm with hm | hm | hm
      · exact hgn.1 hm
      · exact (hdf g hm).1 rfl
      · exact hgn.2.2 hm
    · simp only [List.mem_append] at hb
      rcases hb with hb | hb
      · exact (hdf b hb).2.1 (e ▸ ha)
      · exact hn13 a ha b (by simp [hb]) e
  · intro b hb
    simp at hb
    rcases hb with rfl | hb | hb | hb
    · left; simp
    · left; simp [hb]
    · rcases hf' b hb with h | h
      · left; simp [h]
      · right; exact h
    · left; simp [hb]
end Go.Proofs.YtbcjhpgkodeoeaaGreatDoor
