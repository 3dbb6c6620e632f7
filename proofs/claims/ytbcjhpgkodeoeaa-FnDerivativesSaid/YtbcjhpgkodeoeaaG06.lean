/- The texts AppI, Tab, TBox in one: each says at its head what it proves. Conditions: as said there. -/
import Derived.Maps.AppendAt
import Derived.Laws.OwnMore
import Derived.Lib.AppendZeros
import Derived.Test.YtbcjhpgkodeoeaaG05
import Derived.Test.YtbcjhpgkodeoeaaG03
set_option linter.unusedSimpArgs false
set_option linter.unusedVariables false
/- Appending a readable row of numbers, perhaps empty, to one of the call's own. Conditions: short rows. -/
namespace Go.Proofs.Ytbcjhpgkodeoeaa
open Go.RowKit

/-- A row that can be appended. -/
def SrcI (w : World) (x : Value) (ys : List Int) : Prop := RdI w x ys ∧ (x = .slice none 0 0 ∨ ∃ b off m c, x = .slice (some ⟨b, off, none⟩) m c)
theorem srcI_own {e : Nat} {w : World} {x : Value} {ys : List Int} {f : List Nat} (h : OwnI e w x ys f) : SrcI w x ys := by
  refine ⟨ownI_rd h, ?_⟩
  obtain ⟨_, ⟨rfl, _⟩ | ⟨g, cap, cur, rfl, _⟩⟩ := h.1
  · exact .inl rfl
  · exact .inr ⟨g, 0, _, cap, rfl⟩
theorem srcI_below {w w' : World} {x : Value} {ys : List Int} (h : SrcI w x ys) (hb : Below w.heap.size w w') : SrcI w' x ys := ⟨rdI_mono hb h.1, h.2⟩
theorem append_I {P : Program} {w : World} (t ty e : TypeId) (i : TypeInfo) (ht : P.underlying t = some (.slice e)) (hi : P.info? e = some i) (hz : i.zero = some (.int .i64 0)) (hsize : i.size = 1) (hby : i.bytes = 8)
    {v x : Value} {xs ys : List Int} {f : List Nat} (hv : OwnI e w v xs f) (hx : SrcI w x ys) (hn : xs.length + ys.length ≤ 1000000) :
    ∃ v' w' f', (Builtin.append_ #[t, t] ty #[v, x]).run P w = .ok v' w' ∧ OwnI e w' v' (xs ++ ys) f' ∧ (∀ b ∈ f', b ∈ f ∨ w.heap.size ≤ b) ∧ Only f w w' := by
  have hyI := i64_all hx.1
  have hfe := hv.2.1
  rcases hx.2 with rfl | ⟨b, off, m, c, rfl⟩
  · obtain ⟨_, _, he, _, _, _⟩ := hx.1
    injection he with e1 e2 e3
    obtain rfl := List.eq_nil_of_length_eq_zero e2.symm
    exact ⟨v, w, f, run_append_owned_none (P := P) (w := w) 0 t ty e i 1 ht hi v xs.length _ hv.1, by simpa using hv, fun b hb => .inl hb, Only.refl _ _⟩
  · obtain ⟨_, _, _, he, hl, _, _, _⟩ := rdS_open hx.1
    injection he with e1 e2 e3
    subst e2
    obtain ⟨v', w', hr, h2, h3, _, h5⟩ := run_append_own_at (P := P) w 0 t ty e i (.int .i64 0) 1 8 ht hi hz hsize hby rfl (by omega) v xs.length _ hv.1 ⟨b, off, none⟩ m c (ys.map (Value.int .i64)) (by rw [List.length_map, hl, Nat.mul_one]) (rdI_news hx.1) (by intro u hu; simp only [List.mem_map] at hu; obtain ⟨z, _, rfl⟩ := hu; rfl)
      (by unfold maxLen; omega) (by omega) (Nat.zero_le _)
    refine ⟨v', w', v'.ownBlock.toList, hr, ⟨by simpa [hl] using h2, rfl, fun z hz => ?_⟩, fun b hb => ?_, ?_⟩
    · rcases List.mem_append.1 hz with hz | hz
      · exact hv.2.2 z hz
      · exact hyI z hz
    · rw [Option.mem_toList] at hb
      rcases h5 with h5 | h5
      · left; rw [hfe, ← h5, hb]; simp
      · right; rw [h5] at hb; simp at hb; omega
    · rw [hfe]
      exact ⟨h3.os, h3.tape, h3.output, h3.size, fun k hk hn => h3.block k hk (fun e => hn (by rw [← e]; simp))⟩
/-- One step of a region that draws. -/
theorem step_append_I {P : Program} (w : World) {ops : Array Oper} {o : Oper} {a : Act} {K : Act → World → Prop} {Q : Exit → Act → World → Prop} {E : Prop} (hgd : o.guard = none) (s x : Operand) (t e : TypeId) (ho : o.op = .call { callee := .builtin .append, args := #[s, x], argTypes := #[t, t] })
    (i : TypeInfo) (ht : P.underlying t = some (.slice e)) (hi : P.info? e = some i) (hz : i.zero = some (.int .i64 0)) (hsize : i.size = 1) (hby : i.bytes = 8)
    {v vx : Value} {xs ys : List Int} {f : List Nat} (hs : a.eval s = v) (hxx : a.eval x = vx) (hv : OwnI e w v xs f) (hx : SrcI w vx ys) (hn : xs.length + ys.length ≤ 1000000)
    (h : ∀ v' w' f', OwnI e w' v' (xs ++ ys) f' → (∀ b ∈ f', b ∈ f ∨ w.heap.size ≤ b) → Only f w w' → K (a.put o.dst v') w') :
    if Region.wanted o (yielded ops a.tmps) = true then Oper.wp P o a w K Q else E := by
  have hw : Region.wanted o (yielded ops a.tmps) = true := by simp [Region.wanted, hgd]
  rw [if_pos hw]
  obtain ⟨v', w', f', hr, h2, h3, h4⟩ := append_I (P := P) (w := w) t o.type e i ht hi hz hsize hby hv hx hn
  exact Lib.wp_append_run w s x t t ho _ _ hs hxx _ _ hr (h v' w' f' h2 h3 h4)
theorem wpList_append_I {P : Program} (w : World) {ops : Array Oper} {rest : List Oper} {o : Oper} {a : Act} {Q : Exit → Act → World → Prop} (hgd : o.guard = none) (s x : Operand) (t e : TypeId) (ho : o.op = .call { callee := .builtin .append, args := #[s, x], argTypes := #[t, t] })
    (i : TypeInfo) (ht : P.underlying t = some (.slice e)) (hi : P.info? e = some i) (hz : i.zero = some (.int .i64 0)) (hsize : i.size = 1) (hby : i.bytes = 8)
    {v vx : Value} {xs ys : List Int} {f : List Nat} (hs : a.eval s = v) (hxx : a.eval x = vx) (hv : OwnI e w v xs f) (hx : SrcI w vx ys) (hn : xs.length + ys.length ≤ 1000000)
    (h : ∀ v' w' f', OwnI e w' v' (xs ++ ys) f' → (∀ b ∈ f', b ∈ f ∨ w.heap.size ≤ b) → Only f w w' → wpList P ops Q rest (a.put o.dst v') w') : wpList P ops Q (o :: rest) a w := by
  obtain ⟨v', w', f', hr, h2, h3, h4⟩ := append_I (P := P) (w := w) t o.type e i ht hi hz hsize hby hv hx hn
  exact Lib.wpList_append_run w hgd s x t t ho _ _ hs hxx _ _ hr (h v' w' f' h2 h3 h4)
end Go.Proofs.Ytbcjhpgkodeoeaa

/- Tableaus: readings, what is owned, and the laws' copying, comparing, marking. Conditions: none. -/
namespace Go.Proofs.Ytbcjhpgkodeoeaa
open Go.RowKit Go.Sort

/-- A tableau. -/
structure TabZ where
  stages : Int
  A : List Int
  B : List Int
deriving Inhabited
def RdTab (w : World) (v : Value) (t : TabZ) : Prop := ∃ vA vB, v = .agg #[.int .i64 t.stages, vA, vB] ∧ I64 t.stages ∧ RdI w vA t.A ∧ RdI w vB t.B
def OwnTab (e : Nat) (w : World) (v : Value) (t : TabZ) (fp : List Nat) : Prop := ∃ vA vB fA fB, v = .agg #[.int .i64 t.stages, vA, vB] ∧ I64 t.stages ∧ OwnI e w vA t.A fA ∧ OwnI e w vB t.B fB ∧ fp = fA ++ fB ∧ fp.Nodup
theorem rdTab_mono {w w' : World} {v : Value} {t : TabZ} (hb : Below w.heap.size w w') (h : RdTab w v t) : RdTab w' v t := by
  obtain ⟨vA, vB, rfl, hI, hA, hB⟩ := h
  exact ⟨vA, vB, rfl, hI, rdI_mono hb hA, rdI_mono hb hB⟩
theorem ownTab_rd {e : Nat} {w : World} {v : Value} {t : TabZ} {fp : List Nat} (h : OwnTab e w v t fp) : RdTab w v t := by
  obtain ⟨vA, vB, fA, fB, rfl, hI, hA, hB, _, _⟩ := h
  exact ⟨vA, vB, rfl, hI, ownI_rd hA, ownI_rd hB⟩
theorem ownTab_lt {e : Nat} {w : World} {v : Value} {t : TabZ} {fp : List Nat} (h : OwnTab e w v t fp) : ∀ b ∈ fp, b < w.heap.size := by
  obtain ⟨vA, vB, fA, fB, rfl, hI, hA, hB, rfl, _⟩ := h
  intro b hb
  simp at hb
  exact hb.elim (ownI_lt hA b) (ownI_lt hB b)
theorem ownTab_only {e : Nat} {w w' : World} {v : Value} {t : TabZ} {fp fp' : List Nat} (h : OwnTab e w v t fp) (ho : Only fp' w w') (hd : ∀ b ∈ fp, b ∉ fp') : OwnTab e w' v t fp := by
  obtain ⟨vA, vB, fA, fB, rfl, hI, hA, hB, rfl, hn⟩ := h
  exact ⟨vA, vB, fA, fB, rfl, hI, ownI_only hA ho (fun b hb => hd b (by simp [hb])), ownI_only hB ho (fun b hb => hd b (by simp [hb])), rfl, hn⟩
theorem rdI_slice {w : World} {v : Value} {xs : List Int} (h : RdI w v xs) : ∃ ad len cap, v = .slice ad len cap := by
  obtain ⟨ad, len, cap, rfl, _⟩ := rdS_open h
  exact ⟨_, _, _, rfl⟩

def Fit_Tab (t : TabZ) : Prop := t.A.length ≤ 1048576 ∧ t.B.length ≤ 1048576
def mk_Tab (k : Int) (t : TabZ) : TabZ := ⟨t.stages, marks k t.A.length, marks (k + t.A.length) t.B.length⟩
def cnt_Tab (t : TabZ) : Nat := t.A.length + t.B.length

end Go.Proofs.Ytbcjhpgkodeoeaa

/- A tableau that is being made: its box, and its rows so far. Conditions: none. -/
namespace Go.Proofs.Ytbcjhpgkodeoeaa
open Go.RowKit

structure TBox (e N : Nat) (w : World) (Bt : Nat) (st : Int) (vA vB : Value) (A B : List Int) (fA fB : List Nat) : Prop where
  ownA : OwnI e w vA A fA
  ownB : OwnI e w vB B fB
  newA : ∀ b ∈ fA, N ≤ b ∧ b ≠ Bt
  newB : ∀ b ∈ fB, N ≤ b ∧ b ≠ Bt
  dis : ∀ b ∈ fA, b ∉ fB
  hB : N ≤ Bt
  c0 : w.cell? ⟨Bt, 0, none⟩ = some (.int .i64 st)
  c1 : w.cell? ⟨Bt, 1, none⟩ = some vA
  c2 : w.cell? ⟨Bt, 2, none⟩ = some vB
  f1 : w.frozen? ⟨Bt, 1, none⟩ = false
  f2 : w.frozen? ⟨Bt, 2, none⟩ = false
  f0 : w.frozen? ⟨Bt, 0, none⟩ = false
theorem TBox.only {e N : Nat} {w w' : World} {Bt : Nat} {st : Int} {vA vB : Value} {A B : List Int} {fA fB fp : List Nat} (h : TBox e N w Bt st vA vB A B fA fB) (ho : Only fp w w') (hf : ∀ b ∈ fp, b < N) : TBox e N w' Bt st vA vB A B fA fB := by
  have hb : Bt ∉ fp := fun hm => by have := hf _ hm; have := h.hB; omega
  have hl : Bt < w.heap.size := World.block_lt_of_cell? _ _ h.c0
  have fr : ∀ c, w'.frozen? ⟨Bt, c, none⟩ = w.frozen? ⟨Bt, c, none⟩ := fun c => World.frozen?_of_block (ho.block _ hl hb)
  exact ⟨ownI_only h.ownA ho (fun b hb hm => by have := (h.newA b hb).1; have := hf b hm; omega), ownI_only h.ownB ho (fun b hb hm => by have := (h.newB b hb).1; have := hf b hm; omega), h.newA, h.newB, h.dis, h.hB, cell_only ho hb h.c0, cell_only ho hb h.c1, cell_only ho hb h.c2, (fr 1).trans h.f1, (fr 2).trans h.f2, (fr 0).trans h.f0⟩
theorem TBox.bel {e N : Nat} {w w' : World} {Bt : Nat} {st : Int} {vA vB : Value} {A B : List Int} {fA fB : List Nat} (h : TBox e N w Bt st vA vB A B fA fB) (hb : Below w.heap.size w w') : TBox e N w' Bt st vA vB A B fA fB := h.only (fp := []) (Only.of_below hb) (by simp)
theorem tbox_lt {e N : Nat} {w : World} {Bt : Nat} {st : Int} {vA vB : Value} {A B : List Int} {fA fB : List Nat} (h : TBox e N w Bt st vA vB A B fA fB) : Bt < w.heap.size := World.block_lt_of_cell? _ _ h.c0
/-- The first row has grown, and is stored. -/
theorem TBox.putA {e N : Nat} {w w2 : World} {Bt : Nat} {st : Int} {vA vB v' : Value} {A B A' : List Int} {fA fB f' : List Nat} (h : TBox e N w Bt st vA vB A B fA fB) (ho : Only fA w w2) (hv : OwnI e w2 v' A' f') (hf : ∀ b ∈ f', b ∈ fA ∨ w.heap.size ≤ b) (hN : N ≤ w.heap.size) :
    (w2.cell? ⟨Bt, 1, none⟩ = some vA ∧ w2.frozen? ⟨Bt, 1, none⟩ = false) ∧ TBox e N (w2.setCell ⟨Bt, 1, none⟩ v') Bt st v' vB A' B f' fB ∧ Only (Bt :: fA) w (w2.setCell ⟨Bt, 1, none⟩ v') := by
  have hb : Bt ∉ fA := fun hm => (h.newA _ hm).2 rfl
  have hl := tbox_lt h
  have fr : ∀ c, w2.frozen? ⟨Bt, c, none⟩ = w.frozen? ⟨Bt, c, none⟩ := fun c => World.frozen?_of_block (ho.block _ hl hb)
  have hS : Only [Bt] w2 (w2.setCell ⟨Bt, 1, none⟩ v') := (Only.refl _ _).setCell (by simp) _
  have c1 := cell_only ho hb h.c1
  have hltB := ownI_lt h.ownB
  have hne : ∀ b ∈ f', b ≠ Bt := fun b hb e => by
    rcases hf b hb with h1 | h1
    · exact (h.newA b h1).2 e
    · omega
  refine ⟨⟨c1, (fr 1).trans h.f1⟩, ⟨ownI_only hv hS (fun b hb hm => hne b hb (List.mem_singleton.1 hm)), ownI_only (ownI_only h.ownB ho (fun b hb hm => h.dis b hm hb)) hS (fun b hb hm => (h.newB b hb).2 (List.mem_singleton.1 hm)), fun b hb => ⟨?_, hne b hb⟩, h.newB, fun b hb hm => ?_, h.hB, ?_, World.cell?_setCell_same _ _ _ c1, ?_, ?_, ?_, ?_⟩, ?_⟩
  · rcases hf b hb with h1 | h1
    · exact (h.newA b h1).1
    · omega
  · rcases hf b hb with h1 | h1
    · exact h.dis b h1 hm
    · have := hltB b hm; omega
  · exact (World.cell?_setCell_other _ _ _ _ (by simp)).trans (cell_only ho hb h.c0)
  · exact (World.cell?_setCell_other _ _ _ _ (by simp)).trans (cell_only ho hb h.c2)
  · rw [World.frozen?_setCell]; exact (fr 1).trans h.f1
  · rw [World.frozen?_setCell]; exact (fr 2).trans h.f2
  · rw [World.frozen?_setCell]; exact (fr 0).trans h.f0
  · exact (ho.mono (by intro b hb; simp [hb])).trans (hS.mono (by intro b hb; simp at hb; simp [hb]))
/-- The second row has grown, and is stored. -/
theorem TBox.putB {e N : Nat} {w w2 : World} {Bt : Nat} {st : Int} {vA vB v' : Value} {A B B' : List Int} {fA fB f' : List Nat} (h : TBox e N w Bt st vA vB A B fA fB) (ho : Only fB w w2) (hv : OwnI e w2 v' B' f') (hf : ∀ b ∈ f', b ∈ fB ∨ w.heap.size ≤ b) (hN : N ≤ w.heap.size) :
    (w2.cell? ⟨Bt, 2, none⟩ = some vB ∧ w2.frozen? ⟨Bt, 2, none⟩ = false) ∧ TBox e N (w2.setCell ⟨Bt, 2, none⟩ v') Bt st vA v' A B' fA f' ∧ Only (Bt :: fB) w (w2.setCell ⟨Bt, 2, none⟩ v') := by
  have hb : Bt ∉ fB := fun hm => (h.newB _ hm).2 rfl
  have hl := tbox_lt h
  have fr : ∀ c, w2.frozen? ⟨Bt, c, none⟩ = w.frozen? ⟨Bt, c, none⟩ := fun c => World.frozen?_of_block (ho.block _ hl hb)
  have hS : Only [Bt] w2 (w2.setCell ⟨Bt, 2, none⟩ v') := (Only.refl _ _).setCell (by simp) _
  have c2 := cell_only ho hb h.c2
  have hltA := ownI_lt h.ownA
  have hne : ∀ b ∈ f', b ≠ Bt := fun b hb e => by
    rcases hf b hb with h1 | h1
    · exact (h.newB b h1).2 e
    · omega
  refine ⟨⟨c2, (fr 2).trans h.f2⟩, ⟨ownI_only (ownI_only h.ownA ho (fun b hb hm => h.dis b hb hm)) hS (fun b hb hm => (h.newA b hb).2 (List.mem_singleton.1 hm)), ownI_only hv hS (fun b hb hm => hne b hb (List.mem_singleton.1 hm)), h.newA, fun b hb => ⟨?_, hne b hb⟩, fun b hb hm => ?_, h.hB, ?_, ?_, World.cell?_setCell_same _ _ _ c2, ?_, ?_, ?_⟩, ?_⟩
  · rcases hf b hb with h1 | h1
    · exact (h.newB b h1).1
    · omega
  · rcases hf b hm with h1 | h1
    · exact h.dis b hb h1
    · have := hltA b hb; omega
  · exact (World.cell?_setCell_other _ _ _ _ (by simp)).trans (cell_only ho hb h.c0)
  · exact (World.cell?_setCell_other _ _ _ _ (by simp)).trans (cell_only ho hb h.c1)
  · rw [World.frozen?_setCell]; exact (fr 1).trans h.f1
  · rw [World.frozen?_setCell]; exact (fr 2).trans h.f2
  · rw [World.frozen?_setCell]; exact (fr 0).trans h.f0
  · exact (ho.mono (by intro b hb; simp [hb])).trans (hS.mono (by intro b hb; simp at hb; simp [hb]))
theorem TBox.new {e N : Nat} {w : World} {t : Nat} {st : Int} (hN : N ≤ w.heap.size) : TBox e N (w.alloc (.cells #[.int .i64 st, .slice none 0 0, .slice none 0 0] t)) w.heap.size st (.slice none 0 0) (.slice none 0 0) [] [] [] [] :=
  ⟨⟨World.ownsRow_nil _ _ _ _, rfl, by simp⟩, ⟨World.ownsRow_nil _ _ _ _, rfl, by simp⟩, by simp, by simp, by simp, hN, by simp, by simp, by simp, by simp, by simp, by simp⟩
/-- What it is at last. -/
theorem TBox.tab {e N : Nat} {w w' : World} {Bt : Nat} {st : Int} {vA vB : Value} {A B : List Int} {fA fB fp : List Nat} (h : TBox e N w Bt st vA vB A B fA fB) (hs : I64 st) (ho : Only fp w w') (hf : ∀ b ∈ fp, b < N) : OwnTab e w' (.agg #[.int .i64 st, vA, vB]) ⟨st, A, B⟩ (fA ++ fB) ∧ ∀ b ∈ fA ++ fB, N ≤ b := by
  have h' := h.only ho hf
  refine ⟨⟨vA, vB, fA, fB, rfl, hs, h'.ownA, h'.ownB, rfl, ?_⟩, fun b hb => ?_⟩
  · rw [List.nodup_append]
    exact ⟨ownI_nodup h'.ownA, ownI_nodup h'.ownB, fun a ha b hb e => h.dis a ha (e ▸ hb)⟩
  · rcases List.mem_append.1 hb with hb | hb
    · exact (h.newA b hb).1
    · exact (h.newB b hb).1
/-- A tableau and a bool. -/
def GivesTab (e : Nat) (w : World) : Ending → World → Prop := fun en w' => ∃ v t fp b, en = .returned (.tuple #[v, .bool b]) ∧ OwnTab e w' v t fp ∧ (∀ b ∈ fp, w.heap.size ≤ b) ∧ Below w.heap.size w w'
theorem tab_nil {e : Nat} (w : World) : OwnTab e w (.agg #[.int .i64 0, .slice none 0 0, .slice none 0 0]) ⟨0, [], []⟩ [] :=
  ⟨_, _, [], [], rfl, ⟨by decide, by decide⟩, ⟨World.ownsRow_nil _ _ _ _, rfl, by simp⟩, ⟨World.ownsRow_nil _ _ _ _, rfl, by simp⟩, rfl, by simp⟩
/-- The box of a result. -/
theorem rbox {w W : World} {e : Nat} {a b c : Value} (hb : Below (w.alloc (.cells #[a, b, c] e)).heap.size (w.alloc (.cells #[a, b, c] e)) W) :
    (∃ x, W.cell? ⟨w.heap.size, 0, none⟩ = some x) ∧ (∃ x, W.cell? ⟨w.heap.size, 1, none⟩ = some x) ∧ (∃ x, W.cell? ⟨w.heap.size, 2, none⟩ = some x) ∧ W.frozen? ⟨w.heap.size, 0, none⟩ = false ∧ W.frozen? ⟨w.heap.size, 1, none⟩ = false ∧ W.frozen? ⟨w.heap.size, 2, none⟩ = false := by
  have hlt : w.heap.size < (w.alloc (.cells #[a, b, c] e)).heap.size := by simp
  have fr : ∀ i, W.frozen? ⟨w.heap.size, i, none⟩ = _ := fun i => hb.frozen (p := ⟨w.heap.size, i, none⟩) hlt
  refine ⟨⟨a, (hb.cell (p := ⟨w.heap.size, 0, none⟩) hlt).trans ?_⟩, ⟨b, (hb.cell (p := ⟨w.heap.size, 1, none⟩) hlt).trans ?_⟩, ⟨c, (hb.cell (p := ⟨w.heap.size, 2, none⟩) hlt).trans ?_⟩, (fr 0).trans ?_, (fr 1).trans ?_, (fr 2).trans ?_⟩ <;> simp
/-- The box of an argument, and that of the result behind it. -/
theorem pbox {w W : World} {e : Nat} {a b c a' b' c' : Value} (hb : Below ((w.alloc (.cells #[a, b, c] e)).alloc (.cells #[a', b', c'] e)).heap.size ((w.alloc (.cells #[a, b, c] e)).alloc (.cells #[a', b', c'] e)) W) :
    W.cell? ⟨w.heap.size, 0, none⟩ = some a ∧ W.cell? ⟨w.heap.size, 1, none⟩ = some b ∧ W.cell? ⟨w.heap.size, 2, none⟩ = some c := by
  have hlt : w.heap.size < ((w.alloc (.cells #[a, b, c] e)).alloc (.cells #[a', b', c'] e)).heap.size := by simp; omega
  refine ⟨(hb.cell (p := ⟨w.heap.size, 0, none⟩) hlt).trans ?_, (hb.cell (p := ⟨w.heap.size, 1, none⟩) hlt).trans ?_, (hb.cell (p := ⟨w.heap.size, 2, none⟩) hlt).trans ?_⟩ <;> simp
/-- A tableau alone. -/
def GivesTab1 (e : Nat) (w : World) : Ending → World → Prop := fun en w' => ∃ v t fp, en = .returned v ∧ OwnTab e w' v t fp ∧ (∀ b ∈ fp, w.heap.size ≤ b) ∧ Below w.heap.size w w'
/-- A literal of one number, to be appended. -/
theorem below_lit1 (w : World) (e : Nat) (x : Int) : Below w.heap.size w (w.alloc (.cells #[.int .i64 x] e)) := (Below.refl _ _).alloc (Nat.le_refl _) _
theorem src_lit {e : Nat} (w : World) (y : Int) (hy : I64 y) : SrcI (w.alloc (.cells #[.int .i64 y] e)) (.slice (some ⟨w.heap.size, 0, none⟩) 1 1) [y] :=
  srcI_own (e := e) (f := [w.heap.size]) ⟨⟨by simp, .inr ⟨w.heap.size, 1, #[.int .i64 y], rfl, Nat.zero_le _, heap_alloc_new w _, Nat.le_refl _, by unfold maxLen; omega, by simp, by simp⟩⟩, rfl, by simpa using hy⟩
theorem src_lit_drew {e : Nat} (w : World) (y : Int) (hy : I64 y) : SrcI ((w.alloc (.cells #[.int .i64 y] e)).drew) (.slice (some ⟨w.heap.size, 0, none⟩) 1 1) [y] := srcI_below (src_lit w y hy) (Below.refl _ _).drew
/-- A row that grows in several steps: what is known of it since wk. -/
structure Chn (e : Nat) (wk : World) (fA : List Nat) (wc : World) (vc : Value) (Ac : List Int) (fc : List Nat) : Prop where
  own : OwnI e wc vc Ac fc
  only : Only fA wk wc
  sub : ∀ b ∈ fc, b ∈ fA ∨ wk.heap.size ≤ b
theorem Chn.start {e : Nat} {wk : World} {v : Value} {A : List Int} {fA : List Nat} (h : OwnI e wk v A fA) : Chn e wk fA wk v A fA := ⟨h, Only.refl _ _, fun b hb => .inl hb⟩
theorem Chn.bel {e : Nat} {wk wc wd : World} {fA fc : List Nat} {vc : Value} {Ac : List Int} (h : Chn e wk fA wc vc Ac fc) (hb : Below wc.heap.size wc wd) : Chn e wk fA wd vc Ac fc :=
  ⟨ownI_only h.own (Only.of_below (fp := []) hb) (by simp), h.only.trans (Only.of_below hb), h.sub⟩
theorem Only.grow {f f' : List Nat} {a b c : World} (h : Only f a b) (k : Only f' b c) (hf : ∀ x ∈ f', x ∈ f ∨ a.heap.size ≤ x) : Only f a c :=
  ⟨k.os.trans h.os, k.tape.trans h.tape, k.output.trans h.output, Nat.le_trans h.size k.size, fun x hx hn => (k.block x (Nat.lt_of_lt_of_le hx h.size) (fun hm => by
    rcases hf x hm with h1 | h1
    · exact hn h1
    · omega)).trans (h.block x hx hn)⟩
theorem Chn.app {e : Nat} {wk wc wd : World} {fA fc f' : List Nat} {vc v' : Value} {Ac A' : List Int} (h : Chn e wk fA wc vc Ac fc) (h1 : OwnI e wd v' A' f') (h2 : ∀ b ∈ f', b ∈ fc ∨ wc.heap.size ≤ b) (h3 : Only fc wc wd) : Chn e wk fA wd v' A' f' :=
  ⟨h1, h.only.grow h3 h.sub, fun b hb => by
    have := h.only.size
    rcases h2 b hb with h4 | h4
    · exact h.sub b h4
    · right; omega⟩
theorem Chn.below {e : Nat} {W wk wc : World} {fA fc : List Nat} {vc : Value} {Ac : List Int} (h : Chn e wk fA wc vc Ac fc) (hb : Below W.heap.size W wk) (hf : ∀ b ∈ fA, W.heap.size ≤ b) : Below W.heap.size W wc := below_newer hb h.only hf
theorem srcI_pos {w : World} {x : Value} {ys : List Int} (h : RdI w x ys) (h0 : 0 < ys.length) : SrcI w x ys := by
  refine ⟨h, ?_⟩
  obtain ⟨ad, cap, rfl, _, _, h3⟩ := h
  obtain ⟨b, off, rfl, _⟩ := h3 h0
  exact .inr ⟨b, off, _, cap, rfl⟩
/-- A tableau whose rows can be appended. -/
def SrcTab (w : World) (v : Value) (t : TabZ) : Prop := ∃ vA vB, v = .agg #[.int .i64 t.stages, vA, vB] ∧ I64 t.stages ∧ SrcI w vA t.A ∧ SrcI w vB t.B
theorem ownTab_src {e : Nat} {w : World} {v : Value} {t : TabZ} {fp : List Nat} (h : OwnTab e w v t fp) : SrcTab w v t := by
  obtain ⟨vA, vB, fA, fB, rfl, hI, hA, hB, _, _⟩ := h
  exact ⟨vA, vB, rfl, hI, srcI_own hA, srcI_own hB⟩
theorem srcTab_rd {w : World} {v : Value} {t : TabZ} (h : SrcTab w v t) : RdTab w v t := by
  obtain ⟨vA, vB, rfl, hI, hA, hB⟩ := h
  exact ⟨vA, vB, rfl, hI, hA.1, hB.1⟩
end Go.Proofs.Ytbcjhpgkodeoeaa
