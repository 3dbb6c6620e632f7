/- Small facts on worlds, on readings of slices, and on numbers, over any program. Conditions: none. -/
import Derived.WalkKit
import Derived.WalkSpells
import Derived.WalkLawsBesides
import Derived.Lib.Hide
import Derived.BigQuiet
import Derived.Lib.QuietBelow
import Derived.StillTailTactics
import Derived.Deep.RegionHeld3
import Derived.Deep.QuietTactic
import Derived.Deep.OwnRows
import Derived.Deep.LoopGhost
set_option linter.unusedSimpArgs false
set_option linter.unusedVariables false

namespace Go.Proofs.YtbcjhpgkodeoeaaGreatDoor
open Go.RowKit

/-- A number that an int holds. -/
def I64 (n : Int) : Prop := -9223372036854775808 ≤ n ∧ n ≤ 9223372036854775807
theorem I64.lo {n : Int} (h : I64 n) : -9223372036854775808 ≤ n := h.1
theorem I64.hi {n : Int} (h : I64 n) : n ≤ 9223372036854775807 := h.2

theorem ret_eq {a b : Value} (h : a = b) : Ending.returned a = .returned b := by rw [h]
theorem ret_int {k : IntKind} {a b : Int} (h : a = b) : Ending.returned (.int k a) = .returned (.int k b) := by rw [h]
theorem ret_bool {a b : Bool} (h : a = b) : Ending.returned (.bool a) = .returned (.bool b) := by rw [h]

/-- A slice that reads as xs: each element takes size cells, which read by El. -/
def RdS {α : Type} (size : Nat) (El : World → List Value → α → Prop) (w : World) (v : Value) (xs : List α) : Prop :=
  ∃ ad cap, v = .slice ad xs.length cap ∧ xs.length ≤ cap ∧ cap ≤ 9223372036854775807 ∧
    (0 < xs.length → ∃ b off, ad = some ⟨b, off, none⟩ ∧ ∀ i x, xs[i]? = some x →
      ∃ us : List Value, us.length = size ∧ (∀ j u, us[j]? = some u → w.cell? ⟨b, off + i * size + j, none⟩ = some u) ∧ El w us x)

def ElI (_ : World) (us : List Value) (x : Int) : Prop := us = [.int .i64 x] ∧ I64 x
/-- []int -/
abbrev RdI := RdS 1 ElI
def ElII (w : World) (us : List Value) (x : List Int) : Prop := ∃ u, us = [u] ∧ RdI w u x
/-- [][]int -/
abbrev RdII := RdS 1 ElII

theorem rdS_open {α : Type} {size : Nat} {El : World → List Value → α → Prop} {w : World} {v : Value} {xs : List α} (h : RdS size El w v xs) :
    ∃ ad len cap, v = .slice ad len cap ∧ xs.length = len ∧ len ≤ cap ∧ cap ≤ 9223372036854775807 ∧ RdS size El w (.slice ad len cap) xs := by
  have h' := h
  obtain ⟨ad, cap, rfl, h1, h2, _⟩ := h
  exact ⟨ad, _, cap, rfl, rfl, h1, h2, h'⟩

theorem rdS_get {α : Type} {size : Nat} {El : World → List Value → α → Prop} {w : World} {ad : Option Addr} {len cap : Nat} {xs : List α} (h : RdS size El w (.slice ad len cap) xs)
    {k : Nat} (hk : k < len) : ∃ b off us x, ad = some ⟨b, off, none⟩ ∧ xs[k]? = some x ∧ us.length = size ∧
      (∀ j u, us[j]? = some u → w.cell? ⟨b, off + k * size + j, none⟩ = some u) ∧ El w us x := by
  obtain ⟨ad', cap', he, _, _, h3⟩ := h
  injection he with e1 e2 e3
  subst e1 e2 e3
  obtain ⟨b, off, rfl, hc⟩ := h3 (by omega)
  obtain ⟨us, hs, hu, hE⟩ := hc k _ (List.getElem?_eq_getElem hk)
  exact ⟨b, off, us, _, rfl, List.getElem?_eq_getElem hk, hs, hu, hE⟩

theorem rdS_mono {α : Type} {size : Nat} {El : World → List Value → α → Prop} {w w' : World} {v : Value} {xs : List α} (hEl : ∀ u x, El w u x → El w' u x)
    (hb : Below w.heap.size w w') (h : RdS size El w v xs) : RdS size El w' v xs := by
  obtain ⟨ad, cap, rfl, h1, h2, h3⟩ := h
  refine ⟨ad, cap, rfl, h1, h2, fun hp => ?_⟩
  obtain ⟨b, off, rfl, hc⟩ := h3 hp
  refine ⟨b, off, rfl, fun i x hx => ?_⟩
  obtain ⟨us, hs, hu, hE⟩ := hc i x hx
  exact ⟨us, hs, fun j u hj => (hb.cell (World.block_lt_of_cell? _ _ (hu j u hj))).trans (hu j u hj), hEl _ _ hE⟩

theorem rdI_mono {w w' : World} {v : Value} {xs : List Int} (hb : Below w.heap.size w w') (h : RdI w v xs) : RdI w' v xs := rdS_mono (w := w) (fun _ _ h => h) hb h
theorem elII_mono {w w' : World} {us : List Value} {x : List Int} (hb : Below w.heap.size w w') (h : ElII w us x) : ElII w' us x := by
  obtain ⟨u, rfl, h⟩ := h
  exact ⟨u, rfl, rdI_mono hb h⟩
theorem rdII_mono {w w' : World} {v : Value} {xs : List (List Int)} (hb : Below w.heap.size w w') (h : RdII w v xs) : RdII w' v xs := rdS_mono (fun _ _ h => elII_mono hb h) hb h

theorem rdI_get {w : World} {ad : Option Addr} {len cap : Nat} {xs : List Int} (h : RdI w (.slice ad len cap) xs)
    {k : Nat} (hk : k < len) : ∃ b off x, ad = some ⟨b, off, none⟩ ∧ xs[k]? = some x ∧ w.cell? ⟨b, off + k, none⟩ = some (.int .i64 x) ∧ I64 x ∧ b < w.heap.size := by
  obtain ⟨b, off, us, x, h1, h2, h3, h4, rfl, h5⟩ := rdS_get h hk
  have := h4 0 _ rfl
  simp only [Nat.mul_one, Nat.add_zero] at this
  exact ⟨b, off, x, h1, h2, this, h5, World.block_lt_of_cell? _ _ this⟩

theorem rdII_get {w : World} {ad : Option Addr} {len cap : Nat} {xs : List (List Int)} (h : RdII w (.slice ad len cap) xs)
    {k : Nat} (hk : k < len) : ∃ b off ad' len' cap' x, ad = some ⟨b, off, none⟩ ∧ xs[k]? = some x ∧ w.cell? ⟨b, off + k, none⟩ = some (.slice ad' len' cap') ∧
      x.length = len' ∧ len' ≤ cap' ∧ cap' ≤ 9223372036854775807 ∧ RdI w (.slice ad' len' cap') x ∧ b < w.heap.size := by
  obtain ⟨b, off, us, x, h1, h2, h3, h4, u, rfl, h5⟩ := rdS_get h hk
  have := h4 0 _ rfl
  simp only [Nat.mul_one, Nat.add_zero] at this
  obtain ⟨ad', len', cap', rfl, h6, h7, h8, h9⟩ := rdS_open h5
  exact ⟨b, off, ad', len', cap', x, h1, h2, this, h6, h7, h8, h9, World.block_lt_of_cell? _ _ this⟩

/-- Elements of the call's own, each with its cells and its blocks. -/
def OwnEls {α : Type} (El : World → List Value → α → List Nat → Prop) (w : World) : List (List Value) → List α → List Nat → Prop
  | [], [], fp => fp = []
  | u :: us, x :: xs, fp => ∃ f fs, fp = f ++ fs ∧ El w u x f ∧ OwnEls El w us xs fs
  | _, _, _ => False

/-- A slice of the call's own that holds xs: each element takes size cells; all blocks are different. -/
def OwnS {α : Type} (e size : Nat) (El : World → List Value → α → List Nat → Prop) (w : World) (v : Value) (xs : List α) (fp : List Nat) : Prop :=
  ∃ (us : List (List Value)) (fs : List Nat), w.ownsRow 0 e size v xs.length us.flatten ∧ (∀ u ∈ us, u.length = size) ∧ OwnEls El w us xs fs ∧ fp = v.ownBlock.toList ++ fs ∧ fp.Nodup

/-- A []int of the call's own. -/
def OwnI (e : Nat) (w : World) (v : Value) (xs : List Int) (fp : List Nat) : Prop :=
  w.ownsRow 0 e 1 v xs.length (xs.map (Value.int .i64)) ∧ fp = v.ownBlock.toList ∧ ∀ x ∈ xs, I64 x

/-- What a call that makes memory leaves: a value whose blocks are new; nothing that was there has changed. -/
def Gives (Own : World → Value → List Nat → Prop) (w : World) : Ending → World → Prop := fun e w' =>
  ∃ v fp, e = .returned v ∧ Own w' v fp ∧ (∀ g ∈ fp, w.heap.size ≤ g) ∧ Below w.heap.size w w'

/-- Nothing has changed but in the blocks of a list; new blocks may have come. -/
structure Only (fp : List Nat) (w w' : World) : Prop where
  os : w'.os = w.os
  tape : w'.tape = w.tape
  output : w'.output = w.output
  size : w.heap.size ≤ w'.heap.size
  block : ∀ k, k < w.heap.size → k ∉ fp → w'.heap[k]? = w.heap[k]?

theorem take_snoc {α : Type} {xs : List α} {k : Nat} {x : α} (h : xs[k]? = some x) : xs.take (k + 1) = xs.take k ++ [x] := by
  obtain ⟨hk, rfl⟩ := List.getElem?_eq_some_iff.1 h
  exact List.take_succ_eq_append_getElem hk

theorem all_snoc {α : Type} {p : α → Bool} {xs : List α} {k : Nat} {x : α} (h : xs[k]? = some x) (ha : (xs.take k).all p = true) (hp : p x = true) : (xs.take (k + 1)).all p = true := by
  rw [take_snoc h]; simp_all

theorem all_false {α : Type} {p : α → Bool} {xs : List α} {k : Nat} {x : α} (h : xs[k]? = some x) (hp : p x = false) : xs.all p = false := by
  rw [List.all_eq_false]
  exact ⟨x, List.mem_of_getElem? h, by simp [hp]⟩

theorem all_done {α : Type} {p : α → Bool} {xs : List α} {k : Nat} (h : xs.length ≤ k) (ha : (xs.take k).all p = true) : xs.all p = true := by
  rwa [List.take_of_length_le h] at ha


theorem fill_set {α : Type} (f : α → Value) (z : Value) {xs : List α} {k n : Nat} {x : α} (hx : xs[k]? = some x) (hn : xs.length = n) :
    ((xs.take k).map f ++ List.replicate (n - k) z).set k (f x) = (xs.take (k + 1)).map f ++ List.replicate (n - (k + 1)) z := by
  obtain ⟨hk, rfl⟩ := List.getElem?_eq_some_iff.1 hx
  have h1 : ((xs.take k).map f).length = k := by simp; omega
  obtain ⟨m, hm⟩ : ∃ m, n - k = m + 1 := ⟨n - k - 1, by omega⟩
  have h2 : n - (k + 1) = m := by omega
  rw [List.set_append_right _ _ (by omega), h1, hm, h2, Nat.sub_self, List.replicate_succ, List.set_cons_zero, List.take_succ_eq_append_getElem hk, List.map_append, List.append_assoc]
  rfl

theorem fill_full {α : Type} (f : α → Value) (z : Value) {xs : List α} {k n : Nat} (hn : xs.length = n) (hk : n ≤ k) :
    (xs.take k).map f ++ List.replicate (n - k) z = xs.map f := by
  rw [List.take_of_length_le (by omega), Nat.sub_eq_zero_of_le hk]; simp

theorem i64_all {w : World} {v : Value} {xs : List Int} (h : RdI w v xs) : ∀ x ∈ xs, I64 x := by
  obtain ⟨ad, cap, rfl, _, _, h3⟩ := h
  intro x hx
  obtain ⟨i, hi, rfl⟩ := List.getElem_of_mem hx
  obtain ⟨b, off, rfl, hc⟩ := h3 (by omega)
  obtain ⟨us, _, _, h4⟩ := hc i _ (List.getElem?_eq_getElem hi)
  exact h4.2

/-- A store into an owned row of one-cell elements that is filled from the left. -/
theorem own_fill {α : Type} {w W : World} {B g e : Nat} {n cap : Nat} {f : α → Value} {z : Value} {xs : List α} {k : Nat} {x : α}
    (h : w.ownsRow B e 1 (.slice (some ⟨g, 0, none⟩) n cap) n ((xs.take k).map f ++ List.replicate (n - k) z)) (hb : Below B W w) (hx : xs[k]? = some x) (hn : xs.length = n) (hg : B ≤ g) :
    (∃ u, w.cell? ⟨g, k, none⟩ = some u) ∧ w.frozen? ⟨g, k, none⟩ = false ∧
    (w.setCell ⟨g, k, none⟩ (f x)).ownsRow B e 1 (.slice (some ⟨g, 0, none⟩) n cap) n ((xs.take (k + 1)).map f ++ List.replicate (n - (k + 1)) z) ∧ Below B W (w.setCell ⟨g, k, none⟩ (f x)) := by
  have hk : k < xs.length := (List.getElem?_eq_some_iff.1 hx).1
  have hs := (h.stored k (f x)).1
  rw [fill_set f z hx hn] at hs
  refine ⟨?_, h.frozenAt k, hs, hb.setCell (by exact hg) _⟩
  rw [h.cellAt k (by omega)]
  refine ⟨_, List.getElem?_eq_getElem (by simp; omega)⟩

/-- An owned row of ints, full. -/
theorem own_i64 {w : World} {B e g n cap : Nat} {xs : List Int} {k : Nat}
    (h : w.ownsRow B e 1 (.slice (some ⟨g, 0, none⟩) n cap) n ((xs.take k).map (Value.int .i64) ++ List.replicate (n - k) (.int .i64 0))) (hn : xs.length = n) (hk : n ≤ k) (hI : ∀ x ∈ xs, I64 x) :
    OwnI e w (.slice (some ⟨g, 0, none⟩) n cap) xs [g] := by
  rw [fill_full _ _ hn hk] at h
  subst hn
  refine ⟨?_, rfl, hI⟩
  obtain ⟨h1, h2⟩ := h
  refine ⟨h1, ?_⟩
  rcases h2 with h2 | ⟨g, cap, cur, hv, hg, r⟩
  · exact .inl h2
  · exact .inr ⟨g, cap, cur, hv, Nat.zero_le _, r⟩

theorem Only.refl (fp : List Nat) (w : World) : Only fp w w := ⟨rfl, rfl, rfl, Nat.le_refl _, fun _ _ _ => rfl⟩
theorem Only.trans {fp : List Nat} {a b c : World} (h : Only fp a b) (k : Only fp b c) : Only fp a c :=
  ⟨k.os.trans h.os, k.tape.trans h.tape, k.output.trans h.output, Nat.le_trans h.size k.size,
   fun i hi hn => (k.block i (Nat.lt_of_lt_of_le hi h.size) hn).trans (h.block i hi hn)⟩
theorem Only.mono {fp fp' : List Nat} {a b : World} (h : Only fp a b) (hs : ∀ g ∈ fp, g ∈ fp') : Only fp' a b :=
  ⟨h.os, h.tape, h.output, h.size, fun i hi hn => h.block i hi (fun hm => hn (hs i hm))⟩
theorem Only.setCell {fp : List Nat} {a b : World} (h : Only fp a b) {p : Addr} (hp : p.block ∈ fp) (u : Value) : Only fp a (b.setCell p u) :=
  h.trans ⟨rfl, rfl, rfl, by simp [World.setCell], fun k _ hn => Below.heap_setCell _ _ _ _ (fun e => hn (e ▸ hp))⟩
theorem Only.alloc {fp : List Nat} {a b : World} (h : Only fp a b) (o : Obj) : Only fp a (b.alloc o) :=
  h.trans ⟨rfl, rfl, rfl, by simp, fun k hk _ => Below.heap_alloc _ _ _ hk⟩
theorem Only.drew {fp : List Nat} {a b : World} (h : Only fp a b) : Only fp a b.drew := ⟨h.os, h.tape, h.output, h.size, h.block⟩
theorem Only.of_below {fp : List Nat} {a b : World} (h : Below a.heap.size a b) : Only fp a b := ⟨h.os, h.tape, h.output, h.size, fun k hk _ => h.block k hk⟩
theorem Only.below {fp : List Nat} {a b : World} (h : Only fp a b) {B : Nat} (hB : B ≤ a.heap.size) (hf : ∀ g ∈ fp, B ≤ g) : Below B a b :=
  ⟨h.os, h.tape, h.output, h.size, fun k hk => h.block k (by omega) (fun hm => by have := hf k hm; omega)⟩
theorem blw_drewN {B : Nat} {a w : World} (h : Below B a w) (n : Nat) : Below B a (w.drewN n) := by
  induction n generalizing w with
  | zero => exact h
  | succ n ih => exact (ih h).drew

theorem set_mid (A B : List Value) (b u : Value) {k : Nat} (hk : A.length = k) : (A ++ b :: B).set k u = (A ++ [u]) ++ B := by
  subst hk; simp

/-- A store at the place k of an owned row, of which what stands before is known. -/
theorem own_put {w : World} {B g e : Nat} {n cap k : Nat} {A C : List Value} {b : Value}
    (h : w.ownsRow B e 1 (.slice (some ⟨g, 0, none⟩) n cap) n (A ++ b :: C)) (hk : A.length = k) (u : Value) :
    w.cell? ⟨g, k, none⟩ = some b ∧ w.frozen? ⟨g, k, none⟩ = false ∧ (w.setCell ⟨g, k, none⟩ u).ownsRow B e 1 (.slice (some ⟨g, 0, none⟩) n cap) n ((A ++ [u]) ++ C) := by
  have hlen := h.1
  refine ⟨?_, h.frozenAt k, ?_⟩
  · rw [h.cellAt k (by simp at hlen; omega), List.getElem?_append_right (by omega)]
    simp [hk]
  · have hs := (h.stored k u).1
    rwa [set_mid A C b u hk] at hs

theorem ownI_open {e : Nat} {w : World} {v : Value} {xs : List Int} {fp : List Nat} (h : OwnI e w v xs fp) :
    ∃ ad len cap, v = .slice ad len cap ∧ xs.length = len ∧ len ≤ cap ∧ cap ≤ 9223372036854775807 ∧
      w.ownsRow 0 e 1 (.slice ad len cap) len (xs.map (Value.int .i64)) ∧ (0 < len → ∃ g, ad = some ⟨g, 0, none⟩ ∧ fp = [g]) ∧ fp = (Value.slice ad len cap).ownBlock.toList := by
  obtain ⟨h0, hfp, _⟩ := h
  have h0' := h0
  obtain ⟨_, ⟨rfl, h2⟩ | ⟨g, cap, cur, rfl, _, _, h4, h5, _⟩⟩ := h0
  · exact ⟨none, _, 0, rfl, h2, Nat.le_refl _, by omega, by rw [h2] at h0'; exact h0', fun hp => by omega, hfp⟩
  · exact ⟨_, _, cap, rfl, rfl, h4, h5, h0', fun _ => ⟨g, rfl, by rw [hfp]; rfl⟩, hfp⟩

theorem ownI_rd {e : Nat} {w : World} {v : Value} {xs : List Int} {fp : List Nat} (h : OwnI e w v xs fp) : RdI w v xs := by
  have hI := h.2.2
  obtain ⟨ad, len, cap, rfl, rfl, h4, h5, hown, hg, _⟩ := ownI_open h
  refine ⟨ad, cap, rfl, h4, h5, fun hp => ?_⟩
  obtain ⟨g, rfl, _⟩ := hg hp
  refine ⟨g, 0, rfl, fun i x hx => ⟨[.int .i64 x], rfl, fun j u hj => ?_, rfl, hI x (List.mem_of_getElem? hx)⟩⟩
  have hi := (List.getElem?_eq_some_iff.1 hx).1
  match j, hj with
  | 0, hj =>
    simp only [List.getElem?_cons_zero, Option.some.injEq] at hj
    subst hj
    rw [show (0 + i * 1 + 0) = i by omega, hown.cellAt i (by omega)]
    simp [hx]

theorem ownI_lt {e : Nat} {w : World} {v : Value} {xs : List Int} {fp : List Nat} (h : OwnI e w v xs fp) : ∀ g ∈ fp, g < w.heap.size := by
  intro g hg
  rw [h.2.1] at hg
  cases hv : v.ownBlock with
  | none => simp [hv] at hg
  | some g' =>
    simp [hv] at hg
    subst hg
    exact (h.1.lt g hv).2

/-- What is owned stays owned while only other blocks change. -/
theorem ownsRow_only {w w' : World} {B e size n : Nat} {v : Value} {xs : List Value} {fp : List Nat} (h : w.ownsRow B e size v n xs) (ho : Only fp w w') (hd : ∀ g, v.ownBlock = some g → g ∉ fp) :
    w'.ownsRow B e size v n xs := by
  obtain ⟨h1, h2⟩ := h
  refine ⟨h1, ?_⟩
  rcases h2 with h2 | ⟨g, cap, cur, rfl, hg, hh, r⟩
  · exact .inl h2
  · refine .inr ⟨g, cap, cur, rfl, hg, ?_, r⟩
    rw [ho.block g ?_ (hd g rfl)]
    · exact hh
    · rcases Nat.lt_or_ge g w.heap.size with hl | hl
      · exact hl
      · rw [Array.getElem?_eq_none hl] at hh; cases hh

theorem ownI_only {e : Nat} {w w' : World} {v : Value} {xs : List Int} {fp fp' : List Nat} (h : OwnI e w v xs fp) (ho : Only fp' w w') (hd : ∀ g ∈ fp, g ∉ fp') : OwnI e w' v xs fp :=
  ⟨ownsRow_only h.1 ho (fun g hg => hd g (by rw [h.2.1, hg]; simp)), h.2⟩


/-- A contract of a function that only reads (it may draw). -/
def Qt (v : Value) (w : World) : Ending → World → Prop := fun e w' => e = .returned v ∧ ∃ m, w' = w.drewN m
theorem quiet_same {P : Program} {f : FuncId} {args : Array Value} {w : World} {n : Nat} {v : Value}
    (h : Calls P f args (w.drewN n) fun e w' => e = .returned v ∧ w.drewN n = w') : Calls P f args (w.drewN n) fun e w'' => e = .returned v ∧ ∃ m, w'' = w.drewN m :=
  h.mono fun _ _ ⟨he, hm⟩ => ⟨he, n, hm.symm⟩
theorem quiet_qt {P : Program} {f : FuncId} {args : Array Value} {w : World} {n : Nat} {v : Value}
    (h : Calls P f args (w.drewN n) (Qt v (w.drewN n))) : Calls P f args (w.drewN n) fun e w'' => e = .returned v ∧ ∃ m, w'' = w.drewN m :=
  Calls.quiet_of h
theorem Qt.below {v : Value} {w : World} {e : Ending} {w' : World} (h : Qt v w e w') : e = .returned v ∧ Below w.heap.size w w' := by
  obtain ⟨rfl, m, rfl⟩ := h
  exact ⟨rfl, blw_drewN (Below.refl _ _) m⟩
theorem rdI_drewN {w : World} {v : Value} {xs : List Int} (n : Nat) (h : RdI w v xs) : RdI (w.drewN n) v xs := rdI_mono (blw_drewN (Below.refl _ _) n) h

section
variable {α : Type} {El : World → List Value → α → List Nat → Prop} {w w' : World}
theorem ownEls_length {us : List (List Value)} : ∀ {xs : List α} {fp : List Nat}, OwnEls El w us xs fp → us.length = xs.length := by
  induction us with
  | nil => intro xs fp h; cases xs <;> simp_all [OwnEls]
  | cons u us ih =>
    intro xs fp h
    cases xs with
    | nil => simp [OwnEls] at h
    | cons x xs => obtain ⟨f, fs, _, _, h⟩ := h; simp [ih h]

theorem ownEls_snoc {us : List (List Value)} {u : List Value} {x : α} {f : List Nat} : ∀ {xs : List α} {fp : List Nat}, OwnEls El w us xs fp → El w u x f → OwnEls El w (us ++ [u]) (xs ++ [x]) (fp ++ f) := by
  induction us with
  | nil =>
    intro xs fp h hE
    cases xs with
    | nil => simp only [OwnEls] at h; subst h; exact ⟨f, [], by simp, hE, rfl⟩
    | cons x xs => simp [OwnEls] at h
  | cons u us ih =>
    intro xs fp h hE
    cases xs with
    | nil => simp [OwnEls] at h
    | cons x xs => obtain ⟨f1, fs, rfl, h1, h⟩ := h; exact ⟨f1, fs ++ f, by simp, h1, ih h hE⟩

theorem ownEls_split {us : List (List Value)} : ∀ {xs : List α} {fp : List Nat} {k : Nat} {x : α}, OwnEls El w us xs fp → xs[k]? = some x →
    ∃ A u C f1 f f3, us = A ++ u :: C ∧ A.length = k ∧ fp = f1 ++ (f ++ f3) ∧ OwnEls El w A (xs.take k) f1 ∧ El w u x f ∧ OwnEls El w C (xs.drop (k + 1)) f3 := by
  induction us with
  | nil => intro xs fp k x h hx; cases xs <;> simp_all [OwnEls]
  | cons u us ih =>
    intro xs fp k x h hx
    cases xs with
    | nil => simp [OwnEls] at h
    | cons x' xs =>
      obtain ⟨f1, fs, rfl, h1, h⟩ := h
      cases k with
      | zero =>
        simp at hx; subst hx
        exact ⟨[], u, us, [], f1, fs, rfl, rfl, by simp, by simp [OwnEls], h1, by simpa using h⟩
      | succ k =>
        obtain ⟨A, u', C, g1, g, g3, rfl, rfl, rfl, h2, h3, h4⟩ := ih h (by simpa using hx)
        exact ⟨u :: A, u', C, f1 ++ g1, g, g3, by simp, by simp, by simp, ⟨f1, g1, rfl, h1, h2⟩, h3, by simpa using h4⟩

theorem ownEls_append {us us' : List (List Value)} {xs' : List α} {fp' : List Nat} : ∀ {xs : List α} {fp : List Nat}, OwnEls El w us xs fp → OwnEls El w us' xs' fp' → OwnEls El w (us ++ us') (xs ++ xs') (fp ++ fp') := by
  induction us with
  | nil =>
    intro xs fp h hE
    cases xs with
    | nil => simp only [OwnEls] at h; subst h; simpa using hE
    | cons x xs => simp [OwnEls] at h
  | cons u us ih =>
    intro xs fp h hE
    cases xs with
    | nil => simp [OwnEls] at h
    | cons x xs => obtain ⟨f1, fs, rfl, h1, h⟩ := h; exact ⟨f1, fs ++ fp', by simp, h1, ih h hE⟩

theorem ownEls_only {us : List (List Value)} {g : List Nat} (hEl : ∀ u x f, El w u x f → (∀ b ∈ f, b ∉ g) → El w' u x f) :
    ∀ {xs : List α} {fp : List Nat}, OwnEls El w us xs fp → (∀ b ∈ fp, b ∉ g) → OwnEls El w' us xs fp := by
  induction us with
  | nil => intro xs fp h _; cases xs <;> simp_all [OwnEls]
  | cons u us ih =>
    intro xs fp h hd
    cases xs with
    | nil => simp [OwnEls] at h
    | cons x xs =>
      obtain ⟨f, fs, rfl, h1, h⟩ := h
      exact ⟨f, fs, rfl, hEl _ _ _ h1 (fun b hb => hd b (by simp [hb])), ih h (fun b hb => hd b (by simp [hb]))⟩

theorem ownEls_lt (hEl : ∀ u x f, El w u x f → ∀ b ∈ f, b < w.heap.size) {us : List (List Value)} : ∀ {xs : List α} {fp : List Nat}, OwnEls El w us xs fp → ∀ b ∈ fp, b < w.heap.size := by
  induction us with
  | nil => intro xs fp h; cases xs <;> simp_all [OwnEls]
  | cons u us ih =>
    intro xs fp h b hb
    cases xs with
    | nil => simp [OwnEls] at h
    | cons x xs =>
      obtain ⟨f, fs, rfl, h1, h⟩ := h
      simp at hb
      exact hb.elim (hEl _ _ _ h1 b) (ih h b)
end

/-- An element of [][]int. -/
def OElII (e : Nat) (w : World) (us : List Value) (x : List Int) (fp : List Nat) : Prop := ∃ u, us = [u] ∧ OwnI e w u x fp
/-- A [][]int of the call's own: the numbers of its element types. -/
def OwnII (e1 e : Nat) : World → Value → List (List Int) → List Nat → Prop := OwnS e1 1 (OElII e)

theorem oelII_only {e : Nat} {w w' : World} {us : List Value} {x : List Int} {fp fp' : List Nat} (h : OElII e w us x fp) (ho : Only fp' w w') (hd : ∀ g ∈ fp, g ∉ fp') : OElII e w' us x fp := by
  obtain ⟨u, rfl, h⟩ := h
  exact ⟨u, rfl, ownI_only h ho hd⟩
theorem oelII_lt {e : Nat} {w : World} {us : List Value} {x : List Int} {fp : List Nat} (h : OElII e w us x fp) : ∀ g ∈ fp, g < w.heap.size := by
  obtain ⟨u, rfl, h⟩ := h
  exact ownI_lt h

/-- What a law's measure of an argument returns: -1, or what is left of the budget, and then the argument is small. -/
def Sz (Fit : Prop) (left : Int) (w : World) : Ending → World → Prop := fun e w' =>
  ∃ r : Int, e = .returned (.int .i64 r) ∧ (r = -1 ∨ 0 ≤ r ∧ r ≤ left ∧ Fit) ∧ Below w.heap.size w w'

theorem flat_len {us : List (List Value)} {n k : Nat} (h : ∀ u ∈ us, u.length = n) (hk : us.length = k) : us.flatten.length = k * n := by
  subst hk
  induction us with
  | nil => simp
  | cons u us ih =>
    have := ih (fun u hu => h u (by simp [hu]))
    have h2 := h u (by simp)
    simp only [List.flatten_cons, List.length_append, List.length_cons, this, h2, Nat.add_mul]
    omega

/-- Making a slice whose elements are made one by one: what the loop knows. -/
structure Build {α : Type} (e size : Nat) (El : World → List Value → α → List Nat → Prop) (g n cap : Nat) (W w : World) (xs : List α) (us : List (List Value)) (fs : List Nat) : Prop where
  row : ∃ rest, w.ownsRow 0 e size (.slice (some ⟨g, 0, none⟩) n cap) n (us.flatten ++ rest)
  one : ∀ u ∈ us, u.length = size
  els : OwnEls El w us xs fs
  new : ∀ b ∈ fs, W.heap.size ≤ b ∧ b ≠ g
  nodup : fs.Nodup
  lt : ∀ b ∈ fs, b < w.heap.size
  below : Below W.heap.size W w
  head : W.heap.size ≤ g

theorem Build.start {α : Type} {e size : Nat} {El : World → List Value → α → List Nat → Prop} {g n cap : Nat} {W w : World} {L : List Value}
    (h : w.ownsRow 0 e size (.slice (some ⟨g, 0, none⟩) n cap) n L) (hb : Below W.heap.size W w) (hg : W.heap.size ≤ g) :
    Build e size El g n cap W w ([] : List α) [] [] :=
  ⟨⟨L, by simpa using h⟩, by simp, rfl, by simp, by simp, by simp, hb, hg⟩

/-- Behind the stores of an element's cells. -/
theorem Build.put {α : Type} {e size : Nat} {El : World → List Value → α → List Nat → Prop} {g n cap : Nat} {W w w1 w2 : World} {xs : List α} {us : List (List Value)} {fs : List Nat}
    (hE : ∀ w w' u x f g, El w u x f → Only g w w' → (∀ b ∈ f, b ∉ g) → El w' u x f)
    (h : Build e size El g n cap W w xs us fs) {x : α} {u : List Value} {f : List Nat} (hx : El w1 u x f) (hul : u.length = size) (hf : ∀ b ∈ f, w.heap.size ≤ b) (hfn : f.Nodup) (hfl : ∀ b ∈ f, b < w1.heap.size)
    (hb : Below w.heap.size w w1) (hO : Only [g] w1 w2)
    (hrow : ∃ rest, w2.ownsRow 0 e size (.slice (some ⟨g, 0, none⟩) n cap) n ((us ++ [u]).flatten ++ rest)) :
    Build e size El g n cap W w2 (xs ++ [x]) (us ++ [u]) (fs ++ f) := by
  have hg : g < w.heap.size := by obtain ⟨_, hr⟩ := h.row; exact (hr.lt _ rfl).2
  have ho : Only [] w w1 := Only.of_below hb
  have hgf : g ∉ f := fun hm => by have := hf g hm; omega
  refine ⟨hrow, ?_, ?_, ?_, ?_, ?_, ?_, h.head⟩
  · intro u' hu'
    simp at hu'
    rcases hu' with hu' | rfl
    · exact h.one _ hu'
    · exact hul
  · refine ownEls_snoc ?_ (hE _ _ _ _ _ _ hx hO (fun b hb hbg => hgf (List.mem_singleton.1 hbg ▸ hb)))
    exact ownEls_only (fun u x f h1 hd => hE _ _ _ _ _ _ h1 ((ho.mono (by simp)).trans hO) hd) h.els (fun b hb' hbg => (h.new b hb').2 (List.mem_singleton.1 hbg))
  · intro b hb'
    simp at hb'
    rcases hb' with hb' | hb'
    · exact h.new b hb'
    · exact ⟨Nat.le_trans h.below.size (hf b hb'), fun e => hgf (e ▸ hb')⟩
  · rw [List.nodup_append]
    exact ⟨h.nodup, hfn, fun a ha b hb' e => by have := h.lt a ha; have := hf b hb'; omega⟩
  · intro b hb'
    simp at hb'
    have := hO.size
    rcases hb' with hb' | hb'
    · have := h.lt b hb'
      have := hb.size
      omega
    · have := hfl b hb'
      omega
  · refine (h.below.trans (hb.mono h.below.size)).trans (hO.below ?_ ?_)
    · have := hb.size
      have := h.below.size
      omega
    · intro b hb'
      rw [List.mem_singleton.1 hb']
      exact h.head

theorem build_len {α : Type} {e size : Nat} {El : World → List Value → α → List Nat → Prop} {g n cap : Nat} {W w : World} {xs : List α} {us : List (List Value)} {fs : List Nat}
    (h : Build e size El g n cap W w xs us fs) : us.flatten.length = xs.length * size := flat_len h.one (ownEls_length h.els)

/-- Behind the call that made the next element, of one cell: the cell that it goes to, and what the store leaves. -/
theorem Build.step {α : Type} {e : Nat} {El : World → List Value → α → List Nat → Prop} {g n cap : Nat} {W w w1 : World} {xs : List α} {us : List (List Value)} {fs : List Nat}
    (hE : ∀ w w' u x f g, El w u x f → Only g w w' → (∀ b ∈ f, b ∉ g) → El w' u x f)
    (h : Build e 1 El g n cap W w xs us fs) {x : α} {u : Value} {f : List Nat} (hx : El w1 [u] x f) (hf : ∀ b ∈ f, w.heap.size ≤ b) (hfn : f.Nodup) (hfl : ∀ b ∈ f, b < w1.heap.size)
    (hb : Below w.heap.size w w1) (hn : xs.length < n) :
    (∃ u0, w1.cell? ⟨g, xs.length, none⟩ = some u0) ∧ w1.frozen? ⟨g, xs.length, none⟩ = false ∧ Build e 1 El g n cap W (w1.setCell ⟨g, xs.length, none⟩ u) (xs ++ [x]) (us ++ [[u]]) (fs ++ f) := by
  obtain ⟨rest, hr⟩ := h.row
  have hlen := build_len h
  have hrow := ownsRow_only hr (Only.of_below (fp := []) hb) (by simp)
  have hrl := hrow.1
  rw [List.length_append, hlen] at hrl
  obtain ⟨z, rest', rfl⟩ : ∃ z rest', rest = z :: rest' := by
    cases rest with
    | nil => simp at hrl; omega
    | cons z r => exact ⟨z, r, rfl⟩
  obtain ⟨h1, h2, h3⟩ := own_put hrow (k := xs.length) (by omega) u
  refine ⟨⟨z, h1⟩, h2, h.put hE hx rfl hf hfn hfl hb ((Only.refl _ _).setCell (by simp) _) ⟨rest', ?_⟩⟩
  simpa using h3

theorem Build.done {α : Type} {e size : Nat} {El : World → List Value → α → List Nat → Prop} {g n cap : Nat} {W w : World} {xs : List α} {us : List (List Value)} {fs : List Nat}
    (h : Build e size El g n cap W w xs us fs) (hn : xs.length = n) : OwnS e size El w (.slice (some ⟨g, 0, none⟩) n cap) xs (g :: fs) ∧ (∀ b ∈ g :: fs, W.heap.size ≤ b) := by
  subst hn
  obtain ⟨rest, hr⟩ := h.row
  have hrl := hr.1
  rw [List.length_append, build_len h] at hrl
  have h0 : rest = [] := List.eq_nil_of_length_eq_zero (by omega)
  subst h0
  rw [List.append_nil] at hr
  refine ⟨⟨us, fs, hr, h.one, h.els, rfl, ?_⟩, ?_⟩
  · rw [List.nodup_cons]
    exact ⟨fun hm => (h.new g hm).2 rfl, h.nodup⟩
  · intro b hb
    simp at hb
    rcases hb with rfl | hb
    · exact h.head
    · exact (h.new b hb).1

theorem flat_get {us : List (List Value)} {n i j : Nat} {u : List Value} {x : Value} (h : ∀ u ∈ us, u.length = n) (hu : us[i]? = some u) (hj : u[j]? = some x) : us.flatten[i * n + j]? = some x := by
  induction us generalizing i with
  | nil => simp at hu
  | cons u' us ih =>
    have h0 := h u' (by simp)
    cases i with
    | zero =>
      simp at hu
      subst hu
      have := (List.getElem?_eq_some_iff.1 hj).1
      rw [List.flatten_cons, List.getElem?_append_left (by omega)]
      simpa using hj
    | succ i =>
      rw [List.flatten_cons, List.getElem?_append_right (by rw [Nat.succ_mul]; omega)]
      rw [show (i + 1) * n + j - u'.length = i * n + j by rw [Nat.succ_mul]; omega]
      exact ih (fun u hu => h u (by simp [hu])) (by simpa using hu)

theorem ownEls_get {α : Type} {El : World → List Value → α → List Nat → Prop} {w : World} {us : List (List Value)} {xs : List α} {fp : List Nat} (h : OwnEls El w us xs fp) {k : Nat} {x : α} (hx : xs[k]? = some x) :
    ∃ u f, us[k]? = some u ∧ El w u x f ∧ (∀ b ∈ f, b ∈ fp) := by
  obtain ⟨A, u, C, f1, f, f3, rfl, rfl, rfl, _, h2, _⟩ := ownEls_split h hx
  exact ⟨u, f, by simp, h2, fun b hb => by simp [hb]⟩

theorem ownS_rd {α : Type} {e size : Nat} {OEl : World → List Value → α → List Nat → Prop} {El : World → List Value → α → Prop} {w : World} {v : Value} {xs : List α} {fp : List Nat}
    (hE : ∀ u x f, OEl w u x f → El w u x) (h : OwnS e size OEl w v xs fp) : RdS size El w v xs := by
  obtain ⟨us, fs, hown, hsz, hels, _, _⟩ := h
  have hown' := hown
  obtain ⟨hlen, ⟨rfl, h2⟩ | ⟨g, cap, cur, rfl, _, _, h4, h5, _⟩⟩ := hown
  · exact ⟨none, 0, by rw [h2], by omega, by omega, fun hp => by omega⟩
  · refine ⟨_, cap, rfl, h4, h5, fun _ => ⟨g, 0, rfl, fun i x hx => ?_⟩⟩
    obtain ⟨u, f, hu, hEl, _⟩ := ownEls_get hels hx
    refine ⟨u, hsz u (List.mem_of_getElem? hu), fun j y hj => ?_, hE _ _ _ hEl⟩
    have hfl := flat_get hsz hu hj
    have hi := (List.getElem?_eq_some_iff.1 hfl).1
    rw [Nat.zero_add, hown'.cellAt _ (by omega)]
    exact hfl

theorem ownII_rd {e1 e : Nat} {w : World} {v : Value} {xs : List (List Int)} {fp : List Nat} (h : OwnII e1 e w v xs fp) : RdII w v xs :=
  ownS_rd (fun _ _ _ ⟨u, hu, h⟩ => ⟨u, hu, ownI_rd h⟩) h

theorem ownS_lt {α : Type} {e size : Nat} {OEl : World → List Value → α → List Nat → Prop} {w : World} {v : Value} {xs : List α} {fp : List Nat}
    (hE : ∀ u x f, OEl w u x f → ∀ b ∈ f, b < w.heap.size) (h : OwnS e size OEl w v xs fp) : ∀ b ∈ fp, b < w.heap.size := by
  obtain ⟨us, fs, hown, hsz, hels, rfl, _⟩ := h
  intro b hb
  simp only [List.mem_append, Option.mem_toList] at hb
  rcases hb with hb | hb
  · exact (hown.lt b hb).2
  · exact ownEls_lt hE hels b hb

theorem ownS_only {α : Type} {e size : Nat} {OEl : World → List Value → α → List Nat → Prop} {w w' : World} {v : Value} {xs : List α} {fp fp' : List Nat}
    (hE : ∀ u x f, OEl w u x f → (∀ b ∈ f, b ∉ fp') → OEl w' u x f) (h : OwnS e size OEl w v xs fp) (ho : Only fp' w w') (hd : ∀ b ∈ fp, b ∉ fp') : OwnS e size OEl w' v xs fp := by
  obtain ⟨us, fs, hown, hsz, hels, rfl, hn⟩ := h
  exact ⟨us, fs, ownsRow_only hown ho (fun g hg => hd g (by simp [hg])), hsz, ownEls_only hE hels (fun b hb => hd b (by simp [hb])), rfl, hn⟩

theorem ownII_lt {e1 e : Nat} {w : World} {v : Value} {xs : List (List Int)} {fp : List Nat} (h : OwnII e1 e w v xs fp) : ∀ b ∈ fp, b < w.heap.size :=
  ownS_lt (fun _ _ _ h => oelII_lt h) h
theorem ownII_only {e1 e : Nat} {w w' : World} {v : Value} {xs : List (List Int)} {fp fp' : List Nat} (h : OwnII e1 e w v xs fp) (ho : Only fp' w w') (hd : ∀ b ∈ fp, b ∉ fp') : OwnII e1 e w' v xs fp :=
  ownS_only (fun _ _ _ h hd => oelII_only h ho hd) h ho hd

theorem still_of {P : Program} {f : FuncId} {args : Array Value} {w : World} {v : Value} (h : Calls P f args w fun e w' => e = .returned v ∧ w = w') :
    Calls P f args w fun e w' => e = .returned v ∧ w' = w := h.mono fun _ _ ⟨he, hw⟩ => ⟨he, hw.symm⟩

/-- The elements before the place k are done, the others as they were. -/
structure Marked {α : Type} (e size : Nat) (El : World → List Value → α → List Nat → Prop) (v : Value) (fp : List Nat) (us : List (List Value)) (W w : World) (done todo : List α) (n : Nat) : Prop where
  row : w.ownsRow 0 e size v n us.flatten
  one : ∀ u ∈ us, u.length = size
  els : ∃ f1 f2, OwnEls El w (us.take done.length) done f1 ∧ OwnEls El w (us.drop done.length) todo f2 ∧ fp = v.ownBlock.toList ++ (f1 ++ f2)
  nodup : fp.Nodup
  only : Only fp W w
  len : done.length + todo.length = n

theorem Marked.start {α : Type} {e size : Nat} {El : World → List Value → α → List Nat → Prop} {v : Value} {fp : List Nat} {w : World} {xs : List α} (h : OwnS e size El w v xs fp) :
    ∃ us, Marked e size El v fp us w w [] xs xs.length := by
  obtain ⟨us, fs, h1, h2, h3, h4, h5⟩ := h
  exact ⟨us, h1, h2, ⟨[], fs, by simp [OwnEls], by simpa using h3, by simpa using h4⟩, h5, Only.refl _ _, by simp⟩

theorem Marked.done {α : Type} {e size : Nat} {El : World → List Value → α → List Nat → Prop} {v : Value} {fp : List Nat} {us : List (List Value)} {W w : World} {done : List α} {n : Nat} (h : Marked e size El v fp us W w done [] n) :
    OwnS e size El w v done fp ∧ Only fp W w := by
  obtain ⟨f1, f2, h1, h2, h3⟩ := h.els
  have hl := h.len
  have e1 := ownEls_length h1
  have e2 := ownEls_length h2
  simp at e1 e2 hl
  subst hl
  have hus : us.take done.length = us := List.take_of_length_le (by omega)
  rw [hus] at h1
  refine ⟨⟨us, f1, h.row, h.one, h1, ?_, h.nodup⟩, h.only⟩
  rw [h3]
  have : f2 = [] := by
    rw [List.drop_of_length_le (by omega)] at h2
    simpa [OwnEls] using h2
  simp [this]

/-- The next element: its cells and its blocks; what it takes to go on. -/
theorem Marked.next {α : Type} {e size : Nat} {El : World → List Value → α → List Nat → Prop} (hE : ∀ w w' u x f g, El w u x f → Only g w w' → (∀ b ∈ f, b ∉ g) → El w' u x f)
    {v : Value} {fp : List Nat} {us : List (List Value)} {W w : World} {done todo : List α} {x : α} {n : Nat} (h : Marked e size El v fp us W w done (x :: todo) n) :
    ∃ u f, us[done.length]? = some u ∧ u.length = size ∧ El w u x f ∧ (∀ b ∈ f, b ∈ fp) ∧
      ∀ w' x', El w' u x' f → Only f w w' → Marked e size El v fp us W w' (done ++ [x']) todo n := by
  obtain ⟨f1, f2, h1, h2, h3⟩ := h.els
  have e1 := ownEls_length h1
  cases hd : us.drop done.length with
  | nil => rw [hd] at h2; simp [OwnEls] at h2
  | cons u us2 =>
    rw [hd] at h2
    obtain ⟨f, f3, rfl, hx, h4⟩ := h2
    have hu : us[done.length]? = some u := by
      have := congrArg (fun l => l[0]?) hd
      simpa using this
    have hn := h.nodup
    rw [h3] at hn
    have hus2 : us2 = us.drop (done.length + 1) := by
      have := congrArg List.tail hd
      simpa using this.symm
    refine ⟨u, f, hu, h.one u (List.mem_of_getElem? hu), hx, fun b hb => by rw [h3]; simp [hb], fun w' x' hx' ho => ?_⟩
    rw [List.nodup_append, List.nodup_append, List.nodup_append] at hn
    have d1 : ∀ b ∈ f1, b ∉ f := fun b hb hf => hn.2.1.2.2 b hb b (by simp [hf]) rfl
    have d3 : ∀ b ∈ f3, b ∉ f := fun b hb hf => hn.2.1.2.1.2.2 b hf b hb rfl
    have d0 : ∀ b, v.ownBlock = some b → b ∉ f := fun b hb hf => hn.2.2 b (by simp [hb]) b (by simp [hf]) rfl
    refine ⟨ownsRow_only h.row ho d0, h.one, ⟨f1 ++ f, f3, ?_, ?_, by rw [h3]; simp⟩, h.nodup, ?_, by have := h.len; simp at *; omega⟩
    · rw [List.length_append, List.length_singleton, take_snoc hu]
      exact ownEls_snoc (ownEls_only (fun u x f h hd => hE _ _ _ _ _ _ h ho hd) h1 d1) hx'
    · rw [List.length_append, List.length_singleton, ← hus2]
      exact ownEls_only (fun u x f h hd => hE _ _ _ _ _ _ h ho hd) h4 d3
    · exact h.only.trans (ho.mono (fun b hb => by rw [h3]; simp [hb]))

theorem qt_below {P : Program} {f : FuncId} {args : Array Value} {w : World} {v : Value} (h : Calls P f args w (Qt v w)) :
    Calls P f args w fun e w' => e = .returned v ∧ Below w.heap.size w w' := h.mono fun _ _ hq => hq.below

section
variable {α : Type} {mk : Int → α → α} {cnt : α → Nat}
end

theorem flat_set {us : List (List Value)} {n k j : Nat} {u : List Value} (h : ∀ u ∈ us, u.length = n) (hu : us[k]? = some u) (hj : j < n) (c : Value) : us.flatten.set (k * n + j) c = (us.set k (u.set j c)).flatten := by
  induction us generalizing k with
  | nil => simp at hu
  | cons u' us ih =>
    have h0 := h u' (by simp)
    cases k with
    | zero =>
      simp at hu
      subst hu
      rw [List.flatten_cons, List.set_cons_zero, List.flatten_cons, List.set_append_left _ _ (by omega)]
      simp
    | succ k =>
      rw [List.flatten_cons, List.set_cons_succ, List.flatten_cons, List.set_append_right _ _ (by rw [Nat.succ_mul]; omega)]
      rw [show (k + 1) * n + j - u'.length = k * n + j by rw [Nat.succ_mul]; omega]
      rw [ih (fun u hu => h u (by simp [hu])) (by simpa using hu)]

/-- .. and how much of it the argument took. -/
def SzN (n : Nat) (Fit : Prop) (left : Int) (w : World) : Ending → World → Prop := fun e w' =>
  ∃ r : Int, e = .returned (.int .i64 r) ∧ (r = -1 ∨ 0 ≤ r ∧ r + (n : Int) ≤ left ∧ Fit) ∧ Below w.heap.size w w'
theorem SzN.sz {n : Nat} {Fit : Prop} {left : Int} {w : World} {e : Ending} {w' : World} (h : SzN n Fit left w e w') : Sz Fit left w e w' := by
  obtain ⟨r, rfl, hr, hb⟩ := h
  exact ⟨r, rfl, hr.imp id (fun ⟨a, b, c⟩ => ⟨a, by omega, c⟩), hb⟩

theorem cell_below {w w' : World} {b i : Nat} {v : Value} (hb : Below w.heap.size w w') (h : w.cell? ⟨b, i, none⟩ = some v) : w'.cell? ⟨b, i, none⟩ = some v :=
  (hb.cell (World.block_lt_of_cell? _ _ h)).trans h
theorem cell_only {w w' : World} {fp : List Nat} {b i : Nat} {v : Value} (hb : Only fp w w') (hn : b ∉ fp) (h : w.cell? ⟨b, i, none⟩ = some v) : w'.cell? ⟨b, i, none⟩ = some v :=
  (World.cell?_of_block (hb.block b (World.block_lt_of_cell? _ _ h) hn)).trans h

/-- A result that is data and a bool. -/
def Gives2 (Own : World → Value → List Nat → Prop) (b : Bool) (w : World) : Ending → World → Prop := fun e w' =>
  ∃ v fp, e = .returned (.tuple #[v, .bool b]) ∧ Own w' v fp ∧ (∀ g ∈ fp, w.heap.size ≤ g) ∧ Below w.heap.size w w'

/-- Behind an append of one element with blocks of its own. -/
theorem ownS_push {α : Type} {e size : Nat} {El : World → List Value → α → List Nat → Prop} (hE : ∀ w w' u x f g, El w u x f → Only g w w' → (∀ b ∈ f, b ∉ g) → El w' u x f)
    {W w w1 w2 : World} {v v' : Value} {xs : List α} {x : α} {us : List (List Value)} {u : List Value} {fs f : List Nat} {n : Nat}
    (hone : ∀ u ∈ us, u.length = size) (hels : OwnEls El w us xs fs) (hnd : (v.ownBlock.toList ++ fs).Nodup) (hx : El w u x f) (hul : u.length = size) (hdis : ∀ b ∈ f, b ∉ v.ownBlock.toList ++ fs) (hfn : f.Nodup)
    (hfl : ∀ b ∈ f, b < w.heap.size) (hsl : ∀ b ∈ fs, b < w.heap.size) (hn : xs.length = n) (hf : ∀ b ∈ (v.ownBlock.toList ++ fs) ++ f, W.heap.size ≤ b) (hW : Below W.heap.size W w)
    (h1 : Below w.heap.size w w1) (hown : w2.ownsRow 0 e size v' (n + 1) (us.flatten ++ u)) (hg : w1.grownBy w2 v.ownBlock) (hv : ∀ b, v'.ownBlock = some b → v.ownBlock = some b ∨ w1.heap.size ≤ b) :
    ∃ fp', OwnS e size El w2 v' (xs ++ [x]) fp' ∧ (∀ b ∈ fp', W.heap.size ≤ b) ∧ Below W.heap.size W w2 := by
  subst hn
  have hB : Below W.heap.size W w2 := (hW.trans (h1.mono hW.size)).grown hg (Nat.le_trans hW.size h1.size) (fun k hk => hf k (by simp [hk]))
  have hO : Only v.ownBlock.toList w w2 := (Only.of_below h1).trans ⟨hg.os, hg.tape, hg.output, hg.size, fun k hk hn => hg.block k hk (fun e => hn (by rw [← e]; simp))⟩
  rw [List.nodup_append] at hnd
  have hv' : ∀ b, v'.ownBlock = some b → (b ∈ v.ownBlock.toList ∨ w1.heap.size ≤ b) := fun b hb => (hv b hb).imp (fun h => by rw [h]; simp) id
  refine ⟨v'.ownBlock.toList ++ (fs ++ f), ⟨us ++ [u], fs ++ f, by simpa using hown, ?_, ?_, rfl, ?_⟩, ?_, hB⟩
  · intro u' hu'
    simp at hu'
    rcases hu' with hu' | rfl
    · exact hone u' hu'
    · exact hul
  · refine ownEls_snoc (ownEls_only (fun u x f h hd => hE _ _ _ _ _ _ h hO hd) hels (fun b hb hm => hnd.2.2 b hm b hb rfl)) (hE _ _ _ _ _ _ hx hO (fun b hb hm => hdis b hb (by simp at hm; simp [hm])))
  · rw [List.nodup_append, List.nodup_append]
    refine ⟨by cases v'.ownBlock <;> simp, ⟨hnd.2.1, hfn, fun a ha b hb e => hdis b hb (by simp [← e, ha])⟩, fun a ha b hb e => ?_⟩
    subst e
    rw [Option.mem_toList] at ha
    have h1s := h1.size
    rcases hv' a ha with h | h
    · simp at hb
      rcases hb with hb | hb
      · exact hnd.2.2 a h a hb rfl
      · exact hdis a hb (by simp at h; simp [h])
    · simp at hb
      rcases hb with hb | hb
      · have := hsl a hb; omega
      · have := hfl a hb; omega
  · intro b hb
    simp only [List.mem_append, Option.mem_toList] at hb
    rcases hb with hb | hb | hb
    · rcases hv b hb with h | h
      · exact hf b (by simp [h])
      · have := hW.size; have := h1.size; omega
    · exact hf b (by simp [hb])
    · exact hf b (by simp [hb])

end Go.Proofs.YtbcjhpgkodeoeaaGreatDoor
