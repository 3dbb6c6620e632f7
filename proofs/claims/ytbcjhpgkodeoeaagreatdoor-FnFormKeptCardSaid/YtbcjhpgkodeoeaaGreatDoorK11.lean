/- Drawn polynomials: what the walk keeps. Conditions: a cursor. -/
import Derived.Test.YtbcjhpgkodeoeaaGreatDoorK05
import Derived.Test.YtbcjhpgkodeoeaaGreatDoorK08
import Derived.Test.YtbcjhpgkodeoeaaGreatDoorK09
import Derived.Test.YtbcjhpgkodeoeaaGreatDoorK10
import Derived.Test.YtbcjhpgkodeoeaaGreatDoorK03
set_option linter.unusedSimpArgs false
set_option linter.unusedVariables false

namespace Go.Proofs.YtbcjhpgkodeoeaaGreatDoor
open Go.RowKit Go.Sort

/-- A polynomial of the call's own: its monomials are put in order. -/
structure PolD (g n : Nat) (d : Int) (W w : World) (v : Value) (Z : List ElS) : Prop where
  shape : ∃ gp cap, v = .slice (some ⟨gp, 0, none⟩) Z.length cap
  row : w.ownsRow 0 56 2 v Z.length (rowS Z)
  els : ∀ z ∈ Z, I64 z.c ∧ OwnI 3 w z.v z.ps z.f
  nd : (v.ownBlock.toList ++ Z.flatMap ElS.f).Nodup
  new : ∀ b ∈ v.ownBlock.toList ++ Z.flatMap ElS.f, W.heap.size ≤ b
  canon : Canon (Z.map monS)
  mons : ∀ z ∈ Z, MonIn n d (monS z)
  drawn : Drawn g W w
theorem PolD.only {g n : Nat} {d : Int} {W w w' : World} {v : Value} {Z : List ElS} (h : PolD g n d W w v Z) (hd : Drawn g w w') (hg : g < W.heap.size) : PolD g n d W w' v Z := by
  have hne : ∀ b ∈ v.ownBlock.toList ++ Z.flatMap ElS.f, b ∉ [g] := fun b hb => by have := h.new b hb; simp; omega
  refine ⟨h.shape, ownsRow_only h.row hd.only (fun b hb => hne b (by simp [hb])), fun z hz => ⟨(h.els z hz).1, ownI_only (h.els z hz).2 hd.only (fun b hb => hne b ?_)⟩, h.nd, h.new, h.canon, h.mons, h.drawn.trans hd⟩
  simp only [List.mem_append, List.mem_flatMap]
  exact .inr ⟨z, hz, hb⟩
theorem PolD.newer {g n : Nat} {d : Int} {W w w' : World} {v : Value} {Z : List ElS} {fp : List Nat} (h : PolD g n d W w v Z) (ho : Only fp w w') (hd : ∀ b ∈ v.ownBlock.toList ++ Z.flatMap ElS.f, b ∉ fp) (hn : ∀ b ∈ fp, W.heap.size ≤ b) (hg : g < W.heap.size) : PolD g n d W w' v Z := by
  refine ⟨h.shape, ownsRow_only h.row ho (fun b hb => hd b (by simp [hb])), fun z hz => ⟨(h.els z hz).1, ownI_only (h.els z hz).2 ho (fun b hb => hd b ?_)⟩, h.nd, h.new, h.canon, h.mons, h.drawn.newer hg ho hn⟩
  simp only [List.mem_append, List.mem_flatMap]
  exact .inr ⟨z, hz, hb⟩
theorem PolD.bel {g n : Nat} {d : Int} {W w w' : World} {v : Value} {Z : List ElS} (h : PolD g n d W w v Z) (hb : Below w.heap.size w w') : PolD g n d W w' v Z :=
  ⟨h.shape, ownsRow_only h.row (Only.of_below (fp := []) hb) (by simp), fun z hz => ⟨(h.els z hz).1, ownI_only (h.els z hz).2 (Only.of_below (fp := []) hb) (by simp)⟩, h.nd, h.new, h.canon, h.mons, h.drawn.below hb⟩
theorem PolD.start {g n : Nat} {d : Int} {w : World} (hc : Cur w g) : PolD g n d w (w.alloc (.cells #[] 56)) (.slice (some ⟨w.heap.size, 0, none⟩) 0 0) [] :=
  ⟨⟨_, _, rfl⟩, by simpa [rowS] using World.ownsRow_lit (base := 0) (e := 56) (size := 2) w #[] 0 (Nat.zero_le _) (Nat.zero_le _) rfl, by simp, by simp [Value.ownBlock], by simp [Value.ownBlock], canon_nil, by simp, (Drawn.refl hc).below ((Below.refl _ _).alloc (Nat.le_refl _) _)⟩
/-- One monomial more is put. -/
theorem polPut_any {g n zl cap gp : Nat} {d : Int} {W w : World} {Z : List ElS} (h : PolD g n d W w (.slice (some ⟨gp, 0, none⟩) zl cap) Z) (hzl : zl = Z.length) (hl : zl ≤ 1000) (x : ElS) (ho : OwnI 3 w x.v x.ps x.f) (hc : 0 ≤ x.c ∧ x.c ≤ 1000000270)
    (hf : ∀ b ∈ x.f, W.heap.size ≤ b ∧ b ∉ Z.flatMap ElS.f) (hm : MonIn n d (monS x)) :
    Calls Tryz.prog 102 #[.slice (some ⟨gp, 0, none⟩) zl cap, .agg #[.int .i64 x.c, x.v]] w fun e w' => ∃ gg cap', e = .returned (.slice (some ⟨gg, 0, none⟩) (putE Z x).length cap') ∧ PolD g n d W w' (.slice (some ⟨gg, 0, none⟩) (putE Z x).length cap') (putE Z x) ∧ (putE Z x).length ≤ zl + 1 := by
  subst hzl
  refine (put_any gp Z.length cap Z x w h.row (fun z hz => ⟨ownI_rd (h.els z hz).2, (h.els z hz).1⟩) (ownI_rd ho) (by omega)).mono ?_
  rintro e w' ⟨gg, cap', rfl, hgg, hrow, hb⟩
  have hIx : I64 x.c := ⟨by omega, by omega⟩
  have hmem : ∀ z ∈ putE Z x, z ∈ Z ∨ ∃ d, I64 d ∧ z = { x with c := d } := fun z hz => putAE_mem _ _ _ _ z hIx (List.mem_filter.1 hz).1
  have hnd := h.nd
  rw [List.nodup_append] at hnd
  obtain ⟨q1, q2⟩ := putE_nodup (Z := Z) (x := x) (by
    rw [List.nodup_append]
    exact ⟨hnd.2.1, ownI_nodup ho, fun a ha b hb' e => (hf b hb').2 (e ▸ ha)⟩)
  have hlt : ∀ b ∈ (putE Z x).flatMap ElS.f, W.heap.size ≤ b ∧ b < w.heap.size := fun b hb' => by
    rcases q2 b hb' with h1 | h1
    · refine ⟨h.new b (by simp only [List.mem_append]; exact .inr h1), ?_⟩
      obtain ⟨z, hz, hzb⟩ := List.mem_flatMap.1 h1
      exact ownI_lt (h.els z hz).2 b hzb
    · exact ⟨(hf b h1).1, ownI_lt ho b h1⟩
  have hWw := h.drawn.only.size
  refine ⟨gg, cap', rfl, ⟨⟨gg, cap', rfl⟩, hrow, fun z hz => ?_, ?_, fun b hb' => ?_, ?_, fun z hz => ?_, h.drawn.below hb⟩, ?_⟩
  · rcases hmem z hz with hz | ⟨d, hd, rfl⟩
    · exact ⟨(h.els z hz).1, ownI_only (h.els z hz).2 (Only.of_below (fp := []) hb) (by simp)⟩
    · exact ⟨hd, ownI_only ho (Only.of_below (fp := []) hb) (by simp)⟩
  · simp only [Value.ownBlock, Option.toList]
    rw [List.singleton_append, List.nodup_cons]
    exact ⟨fun hm' => by have := (hlt gg hm').2; omega, q1⟩
  · simp only [Value.ownBlock, Option.toList, List.singleton_append, List.mem_cons] at hb'
    rcases hb' with rfl | hb'
    · omega
    · exact (hlt b hb').1
  · rw [putE_map]
    exact (putL_canon h.canon (m := monS x) hc).1
  · rcases hmem z hz with hz | ⟨d, hd, rfl⟩
    · exact h.mons z hz
    · exact hm
  · have h1 := putAE_len x Z x.c false
    have h2 : (putE Z x).length ≤ (putAE x Z x.c false).length := List.length_filter_le _ _
    omega
/-- It is a slice of monomials. -/
theorem PolD.own {g n : Nat} {d : Int} {W w : World} {v : Value} {Z : List ElS} (h : PolD g n d W w v Z) : OwnMs 56 3 w v (Z.map monS) (v.ownBlock.toList ++ Z.flatMap ElS.f) := s_ownMs h.row h.els h.nd

/-- A monomial that is being made: its box, and its powers. -/
structure MBD (g n : Nat) (W w : World) (B gm : Nat) (c : Int) (ps : List Int) : Prop where
  own : OwnI 3 w (.slice (some ⟨gm, 0, none⟩) n n) ps [gm]
  c0 : w.cell? ⟨B, 0, none⟩ = some (.int .i64 c)
  c1 : w.cell? ⟨B, 1, none⟩ = some (.slice (some ⟨gm, 0, none⟩) n n)
  ne : gm ≠ B
  nB : W.heap.size ≤ B
  nm : W.heap.size ≤ gm
  drawn : Drawn g W w
theorem MBD.only {g n B gm : Nat} {c : Int} {ps : List Int} {W w w' : World} (h : MBD g n W w B gm c ps) (hd : Drawn g w w') (hg : g < W.heap.size) : MBD g n W w' B gm c ps := by
  have hB := h.nB
  have hm := h.nm
  exact ⟨ownI_only h.own hd.only (by simp; omega), cell_only hd.only (by simp; omega) h.c0, cell_only hd.only (by simp; omega) h.c1, h.ne, hB, hm, h.drawn.trans hd⟩
theorem MBD.bel {g n B gm : Nat} {c : Int} {ps : List Int} {W w w' : World} (h : MBD g n W w B gm c ps) (hb : Below w.heap.size w w') : MBD g n W w' B gm c ps :=
  ⟨ownI_only h.own (Only.of_below (fp := []) hb) (by simp), cell_below hb h.c0, cell_below hb h.c1, h.ne, h.nB, h.nm, h.drawn.below hb⟩
/-- A power is stored. -/
theorem MBD.set {g n B gm k : Nat} {c x y : Int} {ps : List Int} {W w : World} (h : MBD g n W w B gm c ps) (hx : ps[k]? = some x) (hy : I64 y) (hg : g < W.heap.size) :
    w.cell? ⟨gm, k, none⟩ = some (.int .i64 x) ∧ w.frozen? ⟨gm, k, none⟩ = false ∧ MBD g n W (w.setCell ⟨gm, k, none⟩ (.int .i64 y)) B gm c (ps.set k y) := by
  obtain ⟨ad, len, cap, he, hl, _, _, hown, _, _⟩ := ownI_open h.own
  simp only [Value.slice.injEq] at he
  obtain ⟨rfl, rfl, rfl⟩ := he
  obtain ⟨h1, h2, h3, _⟩ := own_set hown (Below.refl 0 w) hx (Nat.zero_le _) y
  have hS : Only [gm] w (w.setCell ⟨gm, k, none⟩ (.int .i64 y)) := (Only.refl _ _).setCell (by simp) _
  have hB : B ∉ [gm] := by have := h.ne; simp; omega
  refine ⟨h1, h2, ⟨⟨by rw [List.length_set, hl]; exact h3, rfl, fun z hz => ?_⟩, cell_only hS hB h.c0, cell_only hS hB h.c1, h.ne, h.nB, h.nm, h.drawn.newer hg hS (by have := h.nm; simpa using this)⟩⟩
  rcases List.mem_or_eq_of_mem_set hz with hz | rfl
  · exact h.own.2.2 z hz
  · exact hy
/-- What is made of a store into a fresh box. -/
theorem MBD.put {g n B gm : Nat} {c : Int} {v0 : Value} {ps : List Int} {W w : World} (ho : OwnI 3 w (.slice (some ⟨gm, 0, none⟩) n n) ps [gm]) (h0 : w.cell? ⟨B, 0, none⟩ = some v0) (h1 : ∃ x, w.cell? ⟨B, 1, none⟩ = some x) (hne : gm ≠ B) (hB : W.heap.size ≤ B) (hm : W.heap.size ≤ gm) (hD : Drawn g W w) (hg : g < W.heap.size) :
    MBD g n W ((w.setCell ⟨B, 0, none⟩ (.int .i64 c)).setCell ⟨B, 1, none⟩ (.slice (some ⟨gm, 0, none⟩) n n)) B gm c ps := by
  have hS : Only [B] w ((w.setCell ⟨B, 0, none⟩ (.int .i64 c)).setCell ⟨B, 1, none⟩ (.slice (some ⟨gm, 0, none⟩) n n)) := ((Only.refl _ _).setCell (by simp) _).setCell (by simp) _
  obtain ⟨x1, h1⟩ := h1
  refine ⟨ownI_only ho hS (by simpa using hne), ?_, ?_, hne, hB, hm, hD.newer hg hS (by simpa using hB)⟩
  · rw [World.cell?_setCell_other _ _ _ _ (by simp)]
    exact World.cell?_setCell_same _ _ _ h0
  · exact World.cell?_setCell_same _ _ _ ((World.cell?_setCell_other _ _ _ _ (by simp)).trans h1)
theorem sum_set {ps : List Int} {k : Nat} {x : Int} (h : ps[k]? = some x) : (ps.set k (x + 1)).sum = ps.sum + 1 := by
  induction ps generalizing k with
  | nil => simp at h
  | cons p ps ih =>
    cases k with
    | zero => simp at h; subst h; simp only [List.set_cons_zero, List.sum_cons]; omega
    | succ k => simp at h; simp only [List.set_cons_succ, List.sum_cons, ih h]; omega
end Go.Proofs.YtbcjhpgkodeoeaaGreatDoor
