/- A tableau that is being made: its box, and its rows so far. Conditions: none. -/
import Derived.Test.YtbcjhpgkodeoeaaGreatDoorG03
set_option linter.unusedSimpArgs false
set_option linter.unusedVariables false

namespace Go.Proofs.YtbcjhpgkodeoeaaGreatDoor
open Go.RowKit

structure TBox (e N : Nat) (w : World) (Bt : Nat) (st : Int) (vA vB : Value) (A B : List Int) (fA fB : List Nat) : Prop where
  ownA : OwnI e w vA A fA
  ownB : OwnI e w vB B fB
  newA : ∀ b ∈ fA, N ≤ b ∧ b ≠ Bt
  newB : ∀ b ∈ fB, N ≤ b ∧ b ≠ Bt
  dis : ∀ b ∈ fA, b ∉ fB
  hB : N ≤ Bt
  c0 : w.cell? ⟨Bt, 0, none⟩ = some (.int .i64 st)
  c1 : w.cell? ⟨Bt, 1, none⟩ = some vA
  c2 : w.cell? ⟨Bt, 2, none⟩ = some vB
  f1 : w.frozen? ⟨Bt, 1, none⟩ = false
  f2 : w.frozen? ⟨Bt, 2, none⟩ = false
  f0 : w.frozen? ⟨Bt, 0, none⟩ = false
theorem TBox.only {e N : Nat} {w w' : World} {Bt : Nat} {st : Int} {vA vB : Value} {A B : List Int} {fA fB fp : List Nat} (h : TBox e N w Bt st vA vB A B fA fB) (ho : Only fp w w') (hf : ∀ b ∈ fp, b < N) : TBox e N w' Bt st vA vB A B fA fB := by
  have hb : Bt ∉ fp := fun hm => by have := hf _ hm; have := h.hB; omega
  have hl : Bt < w.heap.size := World.block_lt_of_cell? _ _ h.c0
  have fr : ∀ c, w'.frozen? ⟨Bt, c, none⟩ = w.frozen? ⟨Bt, c, none⟩ := fun c => World.frozen?_of_block (ho.block _ hl hb)
  exact ⟨ownI_only h.ownA ho (fun b hb hm => by have := (h.newA b hb).1; have := hf b hm; omega), ownI_only h.ownB ho (fun b hb hm => by have := (h.newB b hb).1; have := hf b hm; omega), h.newA, h.newB, h.dis, h.hB, cell_only ho hb h.c0, cell_only ho hb h.c1, cell_only ho hb h.c2, (fr 1).trans h.f1, (fr 2).trans h.f2, (fr 0).trans h.f0⟩
theorem TBox.bel {e N : Nat} {w w' : World} {Bt : Nat} {st : Int} {vA vB : Value} {A B : List Int} {fA fB : List Nat} (h : TBox e N w Bt st vA vB A B fA fB) (hb : Below w.heap.size w w') : TBox e N w' Bt st vA vB A B fA fB := h.only (fp := []) (Only.of_below hb) (by simp)
theorem tbox_lt {e N : Nat} {w : World} {Bt : Nat} {st : Int} {vA vB : Value} {A B : List Int} {fA fB : List Nat} (h : TBox e N w Bt st vA vB A B fA fB) : Bt < w.heap.size := World.block_lt_of_cell? _ _ h.c0
/-- The first row has grown, and is stored. -/
theorem TBox.putA {e N : Nat} {w w2 : World} {Bt : Nat} {st : Int} {vA vB v' : Value} {A B A' : List Int} {fA fB f' : List Nat} (h : TBox e N w Bt st vA vB A B fA fB) (ho : Only fA w w2) (hv : OwnI e w2 v' A' f') (hf : ∀ b ∈ f', b ∈ fA ∨ w.heap.size ≤ b) (hN : N ≤ w.heap.size) :
    (w2.cell? ⟨Bt, 1, none⟩ = some vA ∧ w2.frozen? ⟨Bt, 1, none⟩ = false) ∧ TBox e N (w2.setCell ⟨Bt, 1, none⟩ v') Bt st v' vB A' B f' fB ∧ Only (Bt :: fA) w (w2.setCell ⟨Bt, 1, none⟩ v') := by
  have hb : Bt ∉ fA := fun hm => (h.newA _ hm).2 rfl
  have hl := tbox_lt h
  have fr : ∀ c, w2.frozen? ⟨Bt, c, none⟩ = w.frozen? ⟨Bt, c, none⟩ := fun c => World.frozen?_of_block (ho.block _ hl hb)
  have hS : Only [Bt] w2 (w2.setCell ⟨Bt, 1, none⟩ v') := (Only.refl _ _).setCell (by simp) _
  have c1 := cell_only ho hb h.c1
  have hltB := ownI_lt h.ownB
  have hne : ∀ b ∈ f', b ≠ Bt := fun b hb e => by
    rcases hf b hb with h1 | h1
    · exact (h.newA b h1).2 e
    · omega
  refine ⟨⟨c1, (fr 1).trans h.f1⟩, ⟨ownI_only hv hS (fun b hb hm => hne b hb (List.mem_singleton.1 hm)), ownI_only (ownI_only h.ownB ho (fun b hb hm => h.dis b hm hb)) hS (fun b hb hm => (h.newB b hb).2 (List.mem_singleton.1 hm)), fun b hb => ⟨?_, hne b hb⟩, h.newB, fun b hb hm => ?_, h.hB, ?_, World.cell?_setCell_same _ _ _ c1, ?_, ?_, ?_, ?_⟩, ?_⟩
  · rcases hf b hb with h1 | h1
    · exact (h.newA b h1).1
    · omega
  · rcases hf b hb with h1 | h1
    · exact h.dis b h1 hm
    · have := hltB b hm; omega
  · exact (World.cell?_setCell_other _ _ _ _ (by simp)).trans (cell_only ho hb h.c0)
  · exact (World.cell?_setCell_other _ _ _ _ (by simp)).trans (cell_only ho hb h.c2)
  · rw [World.frozen?_setCell]; exact (fr 1).trans h.f1
  · rw [World.frozen?_setCell]; exact (fr 2).trans h.f2
  · rw [World.frozen?_setCell]; exact (fr 0).trans h.f0
  · exact (ho.mono (by intro b hb; simp [hb])).trans (hS.mono (by intro b hb; simp at hb; simp [hb]))
/-- The second row has grown, and is stored. -/
theorem TBox.putB {e N : Nat} {w w2 : World} {Bt : Nat} {st : Int} {vA vB v' : Value} {A B B' : List Int} {fA fB f' : List Nat} (h : TBox e N w Bt st vA vB A B fA fB) (ho : Only fB w w2) (hv : OwnI e w2 v' B' f') (hf : ∀ b ∈ f', b ∈ fB ∨ w.heap.size ≤ b) (hN : N ≤ w.heap.size) :
    (w2.cell? ⟨Bt, 2, none⟩ = some vB ∧ w2.frozen? ⟨Bt, 2, none⟩ = false) ∧ TBox e N (w2.setCell ⟨Bt, 2, none⟩ v') Bt st vA v' A B' fA f' ∧ Only (Bt :: fB) w (w2.setCell ⟨Bt, 2, none⟩ v') := by
  have hb : Bt ∉ fB := fun hm => (h.newB _ hm).2 rfl
  have hl := tbox_lt h
  have fr : ∀ c, w2.frozen? ⟨Bt, c, none⟩ = w.frozen? ⟨Bt, c, none⟩ := fun c => World.frozen?_of_block (ho.block _ hl hb)
  have hS : Only [Bt] w2 (w2.setCell ⟨Bt, 2, none⟩ v') := (Only.refl _ _).setCell (by simp) _
  have c2 := cell_only ho hb h.c2
  have hltA := ownI_lt h.ownA
  have hne : ∀ b ∈ f', b ≠ Bt := fun b hb e => by
    rcases hf b hb with h1 | h1
    · exact (h.newB b h1).2 e
    · omega
  refine ⟨⟨c2, (fr 2).trans h.f2⟩, ⟨ownI_only (ownI_only h.ownA ho (fun b hb hm => h.dis b hb hm)) hS (fun b hb hm => (h.newA b hb).2 (List.mem_singleton.1 hm)), ownI_only hv hS (fun b hb hm => hne b hb (List.mem_singleton.1 hm)), h.newA, fun b hb => ⟨?_, hne b hb⟩, fun b hb hm => ?_, h.hB, ?_, ?_, World.cell?_setCell_same _ _ _ c2, ?_, ?_, ?_⟩, ?_⟩
  · rcases hf b hb with h1 | h1
    · exact (h.newB b h1).1
    · omega
  · rcases hf b hm with h1 | h1
    · exact h.dis b hb h1
    · have := hltA b hb; omega
  · exact (World.cell?_setCell_other _ _ _ _ (by simp)).trans (cell_only ho hb h.c0)
  · exact (World.cell?_setCell_other _ _ _ _ (by simp)).trans (cell_only ho hb h.c1)
  · rw [World.frozen?_setCell]; exact (fr 1).trans h.f1
  · rw [World.frozen?_setCell]; exact (fr 2).trans h.f2
  · rw [World.frozen?_setCell]; exact (fr 0).trans h.f0
  · exact (ho.mono (by intro b hb; simp [hb])).trans (hS.mono (by intro b hb; simp at hb; simp [hb]))
theorem TBox.new {e N : Nat} {w : World} {t : Nat} {st : Int} (hN : N ≤ w.heap.size) : TBox e N (w.alloc (.cells #[.int .i64 st, .slice none 0 0, .slice none 0 0] t)) w.heap.size st (.slice none 0 0) (.slice none 0 0) [] [] [] [] :=
  ⟨⟨World.ownsRow_nil _ _ _ _, rfl, by simp⟩, ⟨World.ownsRow_nil _ _ _ _, rfl, by simp⟩, by simp, by simp, by simp, hN, by simp, by simp, by simp, by simp, by simp, by simp⟩
/-- What it is at last. -/
theorem TBox.tab {e N : Nat} {w w' : World} {Bt : Nat} {st : Int} {vA vB : Value} {A B : List Int} {fA fB fp : List Nat} (h : TBox e N w Bt st vA vB A B fA fB) (hs : I64 st) (ho : Only fp w w') (hf : ∀ b ∈ fp, b < N) : OwnTab e w' (.agg #[.int .i64 st, vA, vB]) ⟨st, A, B⟩ (fA ++ fB) ∧ ∀ b ∈ fA ++ fB, N ≤ b := by
  have h' := h.only ho hf
  refine ⟨⟨vA, vB, fA, fB, rfl, hs, h'.ownA, h'.ownB, rfl, ?_⟩, fun b hb => ?_⟩
  · rw [List.nodup_append]
    exact ⟨ownI_nodup h'.ownA, ownI_nodup h'.ownB, fun a ha b hb e => h.dis a ha (e ▸ hb)⟩
  · rcases List.mem_append.1 hb with hb | hb
    · exact (h.newA b hb).1
    · exact (h.newB b hb).1
/-- A tableau and a bool. -/
def GivesTab (e : Nat) (w : World) : Ending → World → Prop := fun en w' => ∃ v t fp b, en = .returned (.tuple #[v, .bool b]) ∧ OwnTab e w' v t fp ∧ (∀ b ∈ fp, w.heap.size ≤ b) ∧ Below w.heap.size w w'
theorem tab_nil {e : Nat} (w : World) : OwnTab e w (.agg #[.int .i64 0, .slice none 0 0, .slice none 0 0]) ⟨0, [], []⟩ [] :=
  ⟨_, _, [], [], rfl, ⟨by decide, by decide⟩, ⟨World.ownsRow_nil _ _ _ _, rfl, by simp⟩, ⟨World.ownsRow_nil _ _ _ _, rfl, by simp⟩, rfl, by simp⟩
/-- The box of a result. -/
theorem rbox {w W : World} {e : Nat} {a b c : Value} (hb : Below (w.alloc (.cells #[a, b, c] e)).heap.size (w.alloc (.cells #[a, b, c] e)) W) :
    (∃ x, W.cell? ⟨w.heap.size, 0, none⟩ = some x) ∧ (∃ x, W.cell? ⟨w.heap.size, 1, none⟩ = some x) ∧ (∃ x, W.cell? ⟨w.heap.size, 2, none⟩ = some x) ∧ W.frozen? ⟨w.heap.size, 0, none⟩ = false ∧ W.frozen? ⟨w.heap.size, 1, none⟩ = false ∧ W.frozen? ⟨w.heap.size, 2, none⟩ = false := by
  have hlt : w.heap.size < (w.alloc (.cells #[a, b, c] e)).heap.size := by simp
  have fr : ∀ i, W.frozen? ⟨w.heap.size, i, none⟩ = _ := fun i => hb.frozen (p := ⟨w.heap.size, i, none⟩) hlt
  refine ⟨⟨a, (hb.cell (p := ⟨w.heap.size, 0, none⟩) hlt).trans ?_⟩, ⟨b, (hb.cell (p := ⟨w.heap.size, 1, none⟩) hlt).trans ?_⟩, ⟨c, (hb.cell (p := ⟨w.heap.size, 2, none⟩) hlt).trans ?_⟩, (fr 0).trans ?_, (fr 1).trans ?_, (fr 2).trans ?_⟩ <;> simp
/-- The box of an argument, and that of the result behind it. -/
theorem pbox {w W : World} {e : Nat} {a b c a' b' c' : Value} (hb : Below ((w.alloc (.cells #[a, b, c] e)).alloc (.cells #[a', b', c'] e)).heap.size ((w.alloc (.cells #[a, b, c] e)).alloc (.cells #[a', b', c'] e)) W) :
    W.cell? ⟨w.heap.size, 0, none⟩ = some a ∧ W.cell? ⟨w.heap.size, 1, none⟩ = some b ∧ W.cell? ⟨w.heap.size, 2, none⟩ = some c := by
  have hlt : w.heap.size < ((w.alloc (.cells #[a, b, c] e)).alloc (.cells #[a', b', c'] e)).heap.size := by simp; omega
  refine ⟨(hb.cell (p := ⟨w.heap.size, 0, none⟩) hlt).trans ?_, (hb.cell (p := ⟨w.heap.size, 1, none⟩) hlt).trans ?_, (hb.cell (p := ⟨w.heap.size, 2, none⟩) hlt).trans ?_⟩ <;> simp
/-- A tableau alone. -/
def GivesTab1 (e : Nat) (w : World) : Ending → World → Prop := fun en w' => ∃ v t fp, en = .returned v ∧ OwnTab e w' v t fp ∧ (∀ b ∈ fp, w.heap.size ≤ b) ∧ Below w.heap.size w w'
/-- A literal of one number, to be appended. -/
theorem below_lit1 (w : World) (e : Nat) (x : Int) : Below w.heap.size w (w.alloc (.cells #[.int .i64 x] e)) := (Below.refl _ _).alloc (Nat.le_refl _) _
theorem src_lit {e : Nat} (w : World) (y : Int) (hy : I64 y) : SrcI (w.alloc (.cells #[.int .i64 y] e)) (.slice (some ⟨w.heap.size, 0, none⟩) 1 1) [y] :=
  srcI_own (e := e) (f := [w.heap.size]) ⟨⟨by simp, .inr ⟨w.heap.size, 1, #[.int .i64 y], rfl, Nat.zero_le _, heap_alloc_new w _, Nat.le_refl _, by unfold maxLen; omega, by simp, by simp⟩⟩, rfl, by simpa using hy⟩
theorem src_lit_drew {e : Nat} (w : World) (y : Int) (hy : I64 y) : SrcI ((w.alloc (.cells #[.int .i64 y] e)).drew) (.slice (some ⟨w.heap.size, 0, none⟩) 1 1) [y] := srcI_below (src_lit w y hy) (Below.refl _ _).drew
/-- A row that grows in several steps: what is known of it since wk. -/
structure Chn (e : Nat) (wk : World) (fA : List Nat) (wc : World) (vc : Value) (Ac : List Int) (fc : List Nat) : Prop where
  own : OwnI e wc vc Ac fc
  only : Only fA wk wc
  sub : ∀ b ∈ fc, b ∈ fA ∨ wk.heap.size ≤ b
theorem Chn.start {e : Nat} {wk : World} {v : Value} {A : List Int} {fA : List Nat} (h : OwnI e wk v A fA) : Chn e wk fA wk v A fA := ⟨h, Only.refl _ _, fun b hb => .inl hb⟩
theorem Chn.bel {e : Nat} {wk wc wd : World} {fA fc : List Nat} {vc : Value} {Ac : List Int} (h : Chn e wk fA wc vc Ac fc) (hb : Below wc.heap.size wc wd) : Chn e wk fA wd vc Ac fc :=
  ⟨ownI_only h.own (Only.of_below (fp := []) hb) (by simp), h.only.trans (Only.of_below hb), h.sub⟩
theorem Only.grow {f f' : List Nat} {a b c : World} (h : Only f a b) (k : Only f' b c) (hf : ∀ x ∈ f', x ∈ f ∨ a.heap.size ≤ x) : Only f a c :=
  ⟨k.os.trans h.os, k.tape.trans h.tape, k.output.trans h.output, Nat.le_trans h.size k.size, fun x hx hn => (k.block x (Nat.lt_of_lt_of_le hx h.size) (fun hm => by
    rcases hf x hm with h1 | h1
    · exact hn h1
    · omega)).trans (h.block x hx hn)⟩
theorem Chn.app {e : Nat} {wk wc wd : World} {fA fc f' : List Nat} {vc v' : Value} {Ac A' : List Int} (h : Chn e wk fA wc vc Ac fc) (h1 : OwnI e wd v' A' f') (h2 : ∀ b ∈ f', b ∈ fc ∨ wc.heap.size ≤ b) (h3 : Only fc wc wd) : Chn e wk fA wd v' A' f' :=
  ⟨h1, h.only.grow h3 h.sub, fun b hb => by
    have := h.only.size
    rcases h2 b hb with h4 | h4
    · exact h.sub b h4
    · right; omega⟩
theorem Chn.below {e : Nat} {W wk wc : World} {fA fc : List Nat} {vc : Value} {Ac : List Int} (h : Chn e wk fA wc vc Ac fc) (hb : Below W.heap.size W wk) (hf : ∀ b ∈ fA, W.heap.size ≤ b) : Below W.heap.size W wc := below_newer hb h.only hf
theorem srcI_pos {w : World} {x : Value} {ys : List Int} (h : RdI w x ys) (h0 : 0 < ys.length) : SrcI w x ys := by
  refine ⟨h, ?_⟩
  obtain ⟨ad, cap, rfl, _, _, h3⟩ := h
  obtain ⟨b, off, rfl, _⟩ := h3 h0
  exact .inr ⟨b, off, _, cap, rfl⟩
/-- A tableau whose rows can be appended. -/
def SrcTab (w : World) (v : Value) (t : TabZ) : Prop := ∃ vA vB, v = .agg #[.int .i64 t.stages, vA, vB] ∧ I64 t.stages ∧ SrcI w vA t.A ∧ SrcI w vB t.B
theorem ownTab_src {e : Nat} {w : World} {v : Value} {t : TabZ} {fp : List Nat} (h : OwnTab e w v t fp) : SrcTab w v t := by
  obtain ⟨vA, vB, fA, fB, rfl, hI, hA, hB, _, _⟩ := h
  exact ⟨vA, vB, rfl, hI, srcI_own hA, srcI_own hB⟩
theorem srcTab_rd {w : World} {v : Value} {t : TabZ} (h : SrcTab w v t) : RdTab w v t := by
  obtain ⟨vA, vB, rfl, hI, hA, hB⟩ := h
  exact ⟨vA, vB, rfl, hI, hA.1, hB.1⟩
end Go.Proofs.YtbcjhpgkodeoeaaGreatDoor
