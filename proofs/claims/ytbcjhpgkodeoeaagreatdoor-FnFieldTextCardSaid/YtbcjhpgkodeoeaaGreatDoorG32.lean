/- Drawn tableaus. Conditions: a cursor. -/
import Derived.Deep.RegionLaw
import Derived.Deep.Cut
import Derived.Deep.CutRange
import Derived.Test.YtbcjhpgkodeoeaaGreatDoorG05
import Derived.Test.YtbcjhpgkodeoeaaGreatDoorG24
import Derived.Test.YtbcjhpgkodeoeaaGreatDoorG30
import Derived.Test.YtbcjhpgkodeoeaaGreatDoorG23
import Derived.Test.YtbcjhpgkodeoeaaGreatDoorG31
set_option linter.unusedSimpArgs false
set_option linter.unusedVariables false

namespace Go.Proofs.YtbcjhpgkodeoeaaGreatDoor
open Go.RowKit

/-- Some of the first cells hold texts. -/
def StrAt (w : World) (b n : Nat) : Prop := ∀ i, i < n → ∃ s, w.cell? ⟨b, i, none⟩ = some (.string s)
theorem StrAt.only {w w' : World} {b n : Nat} {fp : List Nat} (h : StrAt w b n) (ho : Only fp w w') (hb : b ∉ fp) : StrAt w' b n := fun i hi => by
  obtain ⟨s, hs⟩ := h i hi
  exact ⟨s, cell_only ho hb hs⟩
theorem StrAt.le {w : World} {b n m : Nat} (h : StrAt w b n) (hm : m ≤ n) : StrAt w b m := fun i hi => h i (by omega)
set_option maxHeartbeats 1600000 in
theorem pick_any (g n b cap : Nat) (w : World) (hc : Cur w g) (h1 : 1 ≤ n) (hn : n ≤ 1000) (hs : StrAt w b n) (hbg : b ≠ g) :
    Calls Tryz.prog 137 #[.pointer (some ⟨g, 0, none⟩), .slice (some ⟨b, 0, none⟩) n cap] w fun e w' => ∃ s, e = .returned (.string s) ∧ Drawn g w w' := by
  have HS := Lib.hid hs
  have HN := Lib.hid (below_any g n n rfl h1 (by omega) w hc)
  clear hs
  go_enter Tryz.func137, Tryz.ntmps137
  go_wp2_with fail
  refine HN.out.mono ?_
  rintro e w1 ⟨x, rfl, hx, hd⟩
  obtain ⟨s, hcs⟩ := HS.out.only hd.only (by simpa using hbg) x hx
  have hxI : (x : Int) < n := by omega
  go_wp2
  go_ret
  exact ⟨s, rfl, hd⟩

def isStrB : Value → Bool
  | .string _ => true
  | _ => false
theorem alloc_str {w : World} {e n : Nat} {cs : Array Value} (hn : cs.size = n) (h : cs.all isStrB = true) : StrAt (w.alloc (.cells cs e)) w.heap.size n := fun i hi => by
  have h1 := Array.all_eq_true.1 h i (by omega)
  have h2 : (w.alloc (.cells cs e)).cell? ⟨w.heap.size, i, none⟩ = cs[i]? := by simp
  rw [h2, Array.getElem?_eq_getElem (by omega)]
  cases hv : cs[i] with
  | string s => exact ⟨s, rfl⟩
  | _ => rw [hv] at h1; cases h1
/-- The names. -/
def namesV : Array Value := #[.string ⟨#[101, 117, 108, 101, 114]⟩, .string ⟨#[98, 97, 99, 107, 119, 97, 114, 100]⟩, .string ⟨#[109, 105, 100, 100, 108, 101]⟩, .string ⟨#[109, 105, 100, 112, 111, 105, 110, 116]⟩, .string ⟨#[104, 101, 117, 110]⟩, .string ⟨#[107, 117, 116, 116, 97]⟩, .string ⟨#[99, 108, 97, 115, 115, 105, 99]⟩, .string ⟨#[101, 105, 103, 104, 116, 104, 115]⟩, .string ⟨#[112, 97, 105, 114]⟩, .string ⟨#[103, 97, 117, 115, 115, 49]⟩, .string ⟨#[103, 97, 117, 115, 115, 50]⟩, .string ⟨#[103, 97, 117, 115, 115, 51]⟩, .string ⟨#[114, 97, 100, 97, 117, 49]⟩, .string ⟨#[114, 97, 100, 97, 117, 50]⟩, .string ⟨#[114, 97, 100, 97, 117, 51]⟩, .string ⟨#[108, 111, 98, 97, 116, 116, 111, 50]⟩, .string ⟨#[108, 111, 98, 97, 116, 116, 111, 51]⟩, .string ⟨#[108, 111, 98, 97, 116, 116, 111, 52]⟩]
theorem names_str : namesV.all isStrB = true := by simp [namesV, isStrB]
/-- A tableau in a box of its own. -/
theorem box_tab {e g : Nat} {W0 W1 wt : World} {a b c : Value} {tt : TabZ} {ft : List Nat} (hot : OwnTab 3 wt (.agg #[a, b, c]) tt ft) (hD : Drawn g W0 wt) (hQ : Only [g] W1 wt) :
    OwnTab 3 (wt.alloc (.cells #[a, b, c] e)) (.agg #[a, b, c]) tt ft ∧ Drawn g W0 (wt.alloc (.cells #[a, b, c] e)) ∧ Only [g] W1 (wt.alloc (.cells #[a, b, c] e)) ∧ (wt.alloc (.cells #[a, b, c] e)).cell? ⟨wt.heap.size, 0, none⟩ = some a ∧ (wt.alloc (.cells #[a, b, c] e)).cell? ⟨wt.heap.size, 1, none⟩ = some b ∧ (wt.alloc (.cells #[a, b, c] e)).cell? ⟨wt.heap.size, 2, none⟩ = some c := by
  have hal : Below wt.heap.size wt (wt.alloc (.cells #[a, b, c] e)) := (Below.refl _ _).alloc (Nat.le_refl _) _
  exact ⟨ownTab_only hot (Only.of_below (fp := []) hal) (by simp), hD.below hal, hQ.trans (Only.of_below hal), by simp, by simp, by simp⟩

/-- Two tableaus in boxes. -/
structure Two (w : World) (b6 b8 : Nat) (a1 a2 a3 c1 c2 c3 : Value) (t1 t2 : TabZ) (f1 f2 : List Nat) : Prop where
  k1 : w.cell? ⟨b6, 0, none⟩ = some a1
  k2 : w.cell? ⟨b6, 1, none⟩ = some a2
  k3 : w.cell? ⟨b6, 2, none⟩ = some a3
  m1 : w.cell? ⟨b8, 0, none⟩ = some c1
  m2 : w.cell? ⟨b8, 1, none⟩ = some c2
  m3 : w.cell? ⟨b8, 2, none⟩ = some c3
  o1 : OwnTab 3 w (.agg #[a1, a2, a3]) t1 f1
  o2 : OwnTab 3 w (.agg #[c1, c2, c3]) t2 f2
theorem Two.only {w w' : World} {g b6 b8 : Nat} {a1 a2 a3 c1 c2 c3 : Value} {t1 t2 : TabZ} {f1 f2 : List Nat} (h : Two w b6 b8 a1 a2 a3 c1 c2 c3 t1 t2 f1 f2) (ho : Only [g] w w') (h6 : b6 ≠ g) (h8 : b8 ≠ g) (hf1 : ∀ b ∈ f1, b ≠ g) (hf2 : ∀ b ∈ f2, b ≠ g) : Two w' b6 b8 a1 a2 a3 c1 c2 c3 t1 t2 f1 f2 :=
  have n6 : b6 ∉ [g] := by simpa using h6
  have n8 : b8 ∉ [g] := by simpa using h8
  ⟨cell_only ho n6 h.k1, cell_only ho n6 h.k2, cell_only ho n6 h.k3, cell_only ho n8 h.m1, cell_only ho n8 h.m2, cell_only ho n8 h.m3, ownTab_only h.o1 ho (fun b hb => by simpa using hf1 b hb), ownTab_only h.o2 ho (fun b hb => by simpa using hf2 b hb)⟩
theorem Two.bel {w w' : World} {b6 b8 : Nat} {a1 a2 a3 c1 c2 c3 : Value} {t1 t2 : TabZ} {f1 f2 : List Nat} (h : Two w b6 b8 a1 a2 a3 c1 c2 c3 t1 t2 f1 f2) (hb : Below w.heap.size w w') : Two w' b6 b8 a1 a2 a3 c1 c2 c3 t1 t2 f1 f2 :=
  ⟨cell_below hb h.k1, cell_below hb h.k2, cell_below hb h.k3, cell_below hb h.m1, cell_below hb h.m2, cell_below hb h.m3, ownTab_only h.o1 (Only.of_below (fp := []) hb) (by simp), ownTab_only h.o2 (Only.of_below (fp := []) hb) (by simp)⟩
theorem srcTab_bel {w w' : World} {v : Value} {t : TabZ} (h : SrcTab w v t) (hb : Below w.heap.size w w') : SrcTab w' v t := by
  obtain ⟨vA, vB, rfl, h1, h2, h3⟩ := h
  exact ⟨vA, vB, rfl, h1, srcI_below h2 hb, srcI_below h3 hb⟩
theorem ownTab_shape {e : Nat} {w : World} {v : Value} {t : TabZ} {f : List Nat} (h : OwnTab e w v t f) : ∃ (st : Int) (adA : Option Addr) (lA cA : Nat) (adB : Option Addr) (lB cB : Nat), v = .agg #[.int .i64 st, .slice adA lA cA, .slice adB lB cB] := by
  obtain ⟨vA, vB, fA, fB, rfl, _, hA, hB, _, _⟩ := h
  obtain ⟨adA, lA, cA, rfl, _⟩ := ownI_open hA
  obtain ⟨adB, lB, cB, rfl, _⟩ := ownI_open hB
  exact ⟨_, _, _, _, _, _, _, rfl⟩
theorem al_le {w : World} {o : Obj} {n : Nat} (h : (w.alloc o).heap.size ≤ n) : w.heap.size ≤ n := by
  simp at h
  omega
theorem al_ne {w : World} {o : Obj} {ft : List Nat} (h : ∀ x ∈ ft, (w.alloc o).heap.size ≤ x) : ∀ x ∈ ft, x ≠ w.heap.size := fun x hx => by
  have := h x hx
  simp at this
  omega
theorem Two.cells {w : World} {b6 b8 : Nat} {a1 a2 a3 c1 c2 c3 : Value} {t1 t2 : TabZ} {f1 f2 : List Nat} (h : Two w b6 b8 a1 a2 a3 c1 c2 c3 t1 t2 f1 f2) :
    w.cell? ⟨b6, 0, none⟩ = some a1 ∧ w.cell? ⟨b6, 1, none⟩ = some a2 ∧ w.cell? ⟨b6, 2, none⟩ = some a3 ∧ w.cell? ⟨b8, 0, none⟩ = some c1 ∧ w.cell? ⟨b8, 1, none⟩ = some c2 ∧ w.cell? ⟨b8, 2, none⟩ = some c3 := ⟨h.k1, h.k2, h.k3, h.m1, h.m2, h.m3⟩
theorem Two.al {w : World} {b6 b8 : Nat} {a1 a2 a3 c1 c2 c3 : Value} {t1 t2 : TabZ} {f1 f2 : List Nat} (h : Two w b6 b8 a1 a2 a3 c1 c2 c3 t1 t2 f1 f2) (o : Obj) : Two (w.alloc o) b6 b8 a1 a2 a3 c1 c2 c3 t1 t2 f1 f2 := h.bel ((Below.refl _ _).alloc (Nat.le_refl _) _)
theorem cells_set {w : World} {b6 b8 B : Nat} {a1 a2 a3 c1 c2 c3 u0 u1 u2 : Value}
    (h : w.cell? ⟨b6, 0, none⟩ = some a1 ∧ w.cell? ⟨b6, 1, none⟩ = some a2 ∧ w.cell? ⟨b6, 2, none⟩ = some a3 ∧ w.cell? ⟨b8, 0, none⟩ = some c1 ∧ w.cell? ⟨b8, 1, none⟩ = some c2 ∧ w.cell? ⟨b8, 2, none⟩ = some c3) (h6 : b6 ≠ B) (h8 : b8 ≠ B) :
    (((w.setCell ⟨B, 0, none⟩ u0).setCell ⟨B, 1, none⟩ u1).setCell ⟨B, 2, none⟩ u2).cell? ⟨b6, 0, none⟩ = some a1 ∧ (((w.setCell ⟨B, 0, none⟩ u0).setCell ⟨B, 1, none⟩ u1).setCell ⟨B, 2, none⟩ u2).cell? ⟨b6, 1, none⟩ = some a2 ∧ (((w.setCell ⟨B, 0, none⟩ u0).setCell ⟨B, 1, none⟩ u1).setCell ⟨B, 2, none⟩ u2).cell? ⟨b6, 2, none⟩ = some a3 ∧
    (((w.setCell ⟨B, 0, none⟩ u0).setCell ⟨B, 1, none⟩ u1).setCell ⟨B, 2, none⟩ u2).cell? ⟨b8, 0, none⟩ = some c1 ∧ (((w.setCell ⟨B, 0, none⟩ u0).setCell ⟨B, 1, none⟩ u1).setCell ⟨B, 2, none⟩ u2).cell? ⟨b8, 1, none⟩ = some c2 ∧ (((w.setCell ⟨B, 0, none⟩ u0).setCell ⟨B, 1, none⟩ u1).setCell ⟨B, 2, none⟩ u2).cell? ⟨b8, 2, none⟩ = some c3 :=
  ⟨cell_set3 h.1 h6, cell_set3 h.2.1 h6, cell_set3 h.2.2.1 h6, cell_set3 h.2.2.2.1 h8, cell_set3 h.2.2.2.2.1 h8, cell_set3 h.2.2.2.2.2 h8⟩
/-- A box that can be written. -/
structure BX (w : World) (B : Nat) : Prop where
  c0 : ∃ x, w.cell? ⟨B, 0, none⟩ = some x
  c1 : ∃ x, w.cell? ⟨B, 1, none⟩ = some x
  c2 : ∃ x, w.cell? ⟨B, 2, none⟩ = some x
  f0 : w.frozen? ⟨B, 0, none⟩ = false
  f1 : w.frozen? ⟨B, 1, none⟩ = false
  f2 : w.frozen? ⟨B, 2, none⟩ = false
theorem BX.new (w : World) (a b c : Value) (e : Nat) : BX (w.alloc (.cells #[a, b, c] e)) w.heap.size := ⟨⟨a, by simp⟩, ⟨b, by simp⟩, ⟨c, by simp⟩, by simp, by simp, by simp⟩
theorem BX.only {w w' : World} {B : Nat} {fp : List Nat} (h : BX w B) (ho : Only fp w w') (hB : B ∉ fp) : BX w' B := by
  obtain ⟨⟨x0, h0⟩, ⟨x1, h1⟩, ⟨x2, h2⟩, f0, f1, f2⟩ := h
  have hl := World.block_lt_of_cell? _ _ h0
  have fr : ∀ c, w'.frozen? ⟨B, c, none⟩ = w.frozen? ⟨B, c, none⟩ := fun c => World.frozen?_of_block (ho.block _ hl hB)
  exact ⟨⟨x0, cell_only ho hB h0⟩, ⟨x1, cell_only ho hB h1⟩, ⟨x2, cell_only ho hB h2⟩, (fr 0).trans f0, (fr 1).trans f1, (fr 2).trans f2⟩
theorem BX.bel {w w' : World} {B : Nat} (h : BX w B) (hb : Below w.heap.size w w') : BX w' B := h.only (fp := []) (Only.of_below hb) (by simp)
/-- A tableau in a box. -/
structure Boxed (g : Nat) (W0 w : World) (B : Nat) (a b c : Value) (tt : TabZ) (ft : List Nat) : Prop where
  own : OwnTab 3 w (.agg #[a, b, c]) tt ft
  new : ∀ x ∈ ft, W0.heap.size ≤ x
  drawn : Drawn g W0 w
  c0 : w.cell? ⟨B, 0, none⟩ = some a
  c1 : w.cell? ⟨B, 1, none⟩ = some b
  c2 : w.cell? ⟨B, 2, none⟩ = some c
theorem bx_ne {w : World} {B : Nat} {ft : List Nat} (hB : BX w B) (h : ∀ x ∈ ft, w.heap.size ≤ x) : ∀ x ∈ ft, x ≠ B := fun x hx => by
  obtain ⟨⟨x0, h0⟩, _⟩ := hB
  have := World.block_lt_of_cell? _ _ h0
  have := h x hx
  simp at *
  omega
theorem Boxed.al {g e : Nat} {W0 wt : World} {a b c : Value} {tt : TabZ} {ft : List Nat} (hot : OwnTab 3 wt (.agg #[a, b, c]) tt ft) (hft : ∀ x ∈ ft, W0.heap.size ≤ x) (hD : Drawn g W0 wt) :
    Boxed g W0 (wt.alloc (.cells #[a, b, c] e)) wt.heap.size a b c tt ft := by
  have hal : Below wt.heap.size wt (wt.alloc (.cells #[a, b, c] e)) := (Below.refl _ _).alloc (Nat.le_refl _) _
  exact ⟨ownTab_only hot (Only.of_below (fp := []) hal) (by simp), hft, hD.below hal, by simp, by simp, by simp⟩
theorem Boxed.put {g B : Nat} {W0 wt : World} {a b c : Value} {tt : TabZ} {ft : List Nat} (hot : OwnTab 3 wt (.agg #[a, b, c]) tt ft) (hft : ∀ x ∈ ft, W0.heap.size ≤ x) (hD : Drawn g W0 wt) (hB : BX wt B) (hn : ∀ x ∈ ft, x ≠ B) (hW : W0.heap.size ≤ B) (hg : g < W0.heap.size) :
    Boxed g W0 (((wt.setCell ⟨B, 0, none⟩ a).setCell ⟨B, 1, none⟩ b).setCell ⟨B, 2, none⟩ c) B a b c tt ft := by
  have ho : Only [B] wt (((wt.setCell ⟨B, 0, none⟩ a).setCell ⟨B, 1, none⟩ b).setCell ⟨B, 2, none⟩ c) := (((Only.refl _ _).setCell (by simp) _).setCell (by simp) _).setCell (by simp) _
  obtain ⟨⟨x0, h0⟩, ⟨x1, h1⟩, ⟨x2, h2⟩, _, _, _⟩ := hB
  refine ⟨ownTab_only hot ho (fun x hx => by simpa using hn x hx), hft, hD.newer hg ho (by simpa using hW), ?_, ?_, ?_⟩
  · rw [World.cell?_setCell_other _ _ _ _ (by simp), World.cell?_setCell_other _ _ _ _ (by simp), World.cell?_setCell_same _ _ _ h0]
  · rw [World.cell?_setCell_other _ _ _ _ (by simp), World.cell?_setCell_same (a := ⟨B, 1, none⟩) _ _ ((World.cell?_setCell_other _ _ _ _ (by simp)).trans h1)]
  · exact World.cell?_setCell_same _ _ _ ((World.cell?_setCell_other _ _ _ _ (by simp)).trans ((World.cell?_setCell_other _ _ _ _ (by simp)).trans h2))
set_option maxRecDepth 100000 in
set_option maxHeartbeats 25600000 in
theorem tableau_any (g : Nat) (w : World) (hc : Cur w g) : Calls Tryz.prog 85 #[.pointer (some ⟨g, 0, none⟩)] w (DrawsTab g w) := by
  have hgl := hc.lt
  obtain ⟨W0, hW0⟩ : ∃ W, W = w.alloc (.cells #[.int .i64 0, .slice none 0 0, .slice none 0 0] 37) := ⟨_, rfl⟩
  have hb0 : Below w.heap.size w W0 := hW0 ▸ (Below.refl _ _).alloc (Nat.le_refl _) _
  have hsz : W0.heap.size = w.heap.size + 1 := by rw [hW0]; simp
  have HR := Lib.hid (fun (W : World) (hW : Only [g] W0 W) => rbox_o (w := w) (e := 37) (W := W) (a := .int .i64 0) (b := .slice none 0 0) (c := .slice none 0 0) (hW0 ▸ hW) (by simp; omega))
  have HB0 := Lib.hid ((Drawn.refl hc).below hb0)
  have HC0 := Lib.hid (hc.below hb0)
  have HW0 := Lib.hid hW0
  have HSZ := Lib.hid hsz
  have HGL := Lib.hid hgl
  have HG0 := Lib.hid (show g < W0.heap.size from by omega)
  clear hW0 hsz hb0 hc hgl
  go_enter Tryz.func85, Tryz.ntmps85
  go_wp2_with fail
  rw [← HW0.out]
  obtain ⟨W1, hW1⟩ : ∃ W, W = W0.alloc (.cells namesV 9) := ⟨_, rfl⟩
  have HW1 : Hid (W1 = W0.alloc (.cells #[.string ⟨#[101, 117, 108, 101, 114]⟩, .string ⟨#[98, 97, 99, 107, 119, 97, 114, 100]⟩, .string ⟨#[109, 105, 100, 100, 108, 101]⟩, .string ⟨#[109, 105, 100, 112, 111, 105, 110, 116]⟩, .string ⟨#[104, 101, 117, 110]⟩, .string ⟨#[107, 117, 116, 116, 97]⟩, .string ⟨#[99, 108, 97, 115, 115, 105, 99]⟩, .string ⟨#[101, 105, 103, 104, 116, 104, 115]⟩, .string ⟨#[112, 97, 105, 114]⟩, .string ⟨#[103, 97, 117, 115, 115, 49]⟩, .string ⟨#[103, 97, 117, 115, 115, 50]⟩, .string ⟨#[103, 97, 117, 115, 115, 51]⟩, .string ⟨#[114, 97, 100, 97, 117, 49]⟩, .string ⟨#[114, 97, 100, 97, 117, 50]⟩, .string ⟨#[114, 97, 100, 97, 117, 51]⟩, .string ⟨#[108, 111, 98, 97, 116, 116, 111, 50]⟩, .string ⟨#[108, 111, 98, 97, 116, 116, 111, 51]⟩, .string ⟨#[108, 111, 98, 97, 116, 116, 111, 52]⟩] 9)) := Lib.hid hW1
  have hb1 : Below W0.heap.size W0 W1 := hW1 ▸ (Below.refl _ _).alloc (Nat.le_refl _) _
  have hs1 : W0.heap.size < W1.heap.size := by rw [hW1]; simp
  have HNM := Lib.hid (fun (W : World) (hW : Only [g] W1 W) => (hW1 ▸ alloc_str (w := W0) (e := 9) (cs := namesV) (n := 18) rfl names_str : StrAt W1 W0.heap.size 18).only hW (by have := HG0.out; simp; omega))
  have HD1 := Lib.hid ((Drawn.refl HC0.out).below hb1)
  have HNB := Lib.hid (show w.heap.size + 1 = W0.heap.size from HSZ.out.symm)
  rw [← HW1.out, HNB.out]
  clear hW1 hb1
  refine (below_any g 7 7 rfl (by omega) (by omega) W1 HD1.out.cur).mono ?_
  rintro e w1 ⟨x, rfl, hx, hd1⟩
  have HQ2 := Lib.hid hd1.only
  have HD2 := Lib.hid (HD1.out.trans hd1)
  clear hd1
  have hx5 : x = 0 ∨ x = 1 ∨ x = 2 ∨ x = 3 ∨ 4 ≤ x := by omega
  rcases hx5 with rfl | rfl | rfl | rfl | hx4
  case inl =>
    go_wp2_with fail
    refine (below_any g 3 3 rfl (by omega) (by omega) w1 HD2.out.cur).mono ?_
    rintro e w2 ⟨y, rfl, hy, hd2⟩
    have HD3 := Lib.hid (HD2.out.trans hd2)
    clear hd2
    go_wp2_with fail
    refine (explicit_any g (1 + y) _ false (by omega) (by omega) w2 HD3.out.cur).mono ?_
    rintro e wt ⟨vt, tt, ft, rfl, hot, hft', hdt⟩
    have hft : ∀ b ∈ ft, W0.heap.size ≤ b := fun b hb => by have := hft' b hb; have := HD3.out.only.size; omega
    have HDT := Lib.hid (HD3.out.trans hdt)
    clear hft' hdt
    obtain ⟨vA8, vB8, fA8, fB8, rfl, hI8, hoA8, hoB8, hf8, hn8⟩ := hot
    obtain ⟨adA8, lA8, cA8, rfl, _⟩ := ownI_open hoA8
    obtain ⟨adB8, lB8, cB8, rfl, _⟩ := ownI_open hoB8
    have hot : OwnTab 3 wt (.agg #[.int .i64 tt.stages, .slice adA8 lA8 cA8, .slice adB8 lB8 cB8]) tt ft := ⟨_, _, fA8, fB8, rfl, hI8, hoA8, hoB8, hf8, hn8⟩
    clear hI8 hoA8 hoB8 hf8 hn8
    have HOT := Lib.hid hot
    have HFT := Lib.hid (show ∀ b ∈ ft, W0.heap.size ≤ b from hft)
    obtain ⟨⟨x0, hr0⟩, ⟨x1, hr1⟩, ⟨x2, hr2⟩, hf0, hf1, hf2⟩ := HR.out wt HDT.out.only
    have HDW := Lib.hid (show Drawn g w wt from ⟨HB0.out.only.trans HDT.out.only, HDT.out.cur⟩)
    clear hot hft
    go_wp2
    refine bodyPost_ret (v := .agg #[.int .i64 tt.stages, .slice adA8 lA8 cA8, .slice adB8 lB8 cB8]) (by simp [results, Tryz.results85, go_sem, hr0, hr1, hr2]) rfl ?_
    have ho : Only [w.heap.size] wt (((wt.setCell ⟨w.heap.size, 0, none⟩ (.int .i64 tt.stages)).setCell ⟨w.heap.size, 1, none⟩ (.slice adA8 lA8 cA8)).setCell ⟨w.heap.size, 2, none⟩ (.slice adB8 lB8 cB8)) := (((Only.refl _ _).setCell (by simp) _).setCell (by simp) _).setCell (by simp) _
    have hsz := HSZ.out
    exact ⟨_, tt, ft, rfl, ownTab_only HOT.out ho (fun b hb => by have := HFT.out b hb; simp; omega), fun b hb => by have := HFT.out b hb; omega, HDW.out.newer HGL.out ho (by simp)⟩
  case inr.inl =>
    go_wp2_with fail
    refine (below_any g 3 3 rfl (by omega) (by omega) w1 HD2.out.cur).mono ?_
    rintro e w2 ⟨y, rfl, hy, hd2⟩
    have HD3 := Lib.hid (HD2.out.trans hd2)
    clear hd2
    go_wp2_with fail
    refine (explicit_any g (1 + y) _ true (by omega) (by omega) w2 HD3.out.cur).mono ?_
    rintro e wt ⟨vt, tt, ft, rfl, hot, hft', hdt⟩
    have hft : ∀ b ∈ ft, W0.heap.size ≤ b := fun b hb => by have := hft' b hb; have := HD3.out.only.size; omega
    have HDT := Lib.hid (HD3.out.trans hdt)
    clear hft' hdt
    obtain ⟨vA8, vB8, fA8, fB8, rfl, hI8, hoA8, hoB8, hf8, hn8⟩ := hot
    obtain ⟨adA8, lA8, cA8, rfl, _⟩ := ownI_open hoA8
    obtain ⟨adB8, lB8, cB8, rfl, _⟩ := ownI_open hoB8
    have hot : OwnTab 3 wt (.agg #[.int .i64 tt.stages, .slice adA8 lA8 cA8, .slice adB8 lB8 cB8]) tt ft := ⟨_, _, fA8, fB8, rfl, hI8, hoA8, hoB8, hf8, hn8⟩
    clear hI8 hoA8 hoB8 hf8 hn8
    have HOT := Lib.hid hot
    have HFT := Lib.hid (show ∀ b ∈ ft, W0.heap.size ≤ b from hft)
    obtain ⟨⟨x0, hr0⟩, ⟨x1, hr1⟩, ⟨x2, hr2⟩, hf0, hf1, hf2⟩ := HR.out wt HDT.out.only
    have HDW := Lib.hid (show Drawn g w wt from ⟨HB0.out.only.trans HDT.out.only, HDT.out.cur⟩)
    clear hot hft
    go_wp2
    refine bodyPost_ret (v := .agg #[.int .i64 tt.stages, .slice adA8 lA8 cA8, .slice adB8 lB8 cB8]) (by simp [results, Tryz.results85, go_sem, hr0, hr1, hr2]) rfl ?_
    have ho : Only [w.heap.size] wt (((wt.setCell ⟨w.heap.size, 0, none⟩ (.int .i64 tt.stages)).setCell ⟨w.heap.size, 1, none⟩ (.slice adA8 lA8 cA8)).setCell ⟨w.heap.size, 2, none⟩ (.slice adB8 lB8 cB8)) := (((Only.refl _ _).setCell (by simp) _).setCell (by simp) _).setCell (by simp) _
    have hsz := HSZ.out
    exact ⟨_, tt, ft, rfl, ownTab_only HOT.out ho (fun b hb => by have := HFT.out b hb; simp; omega), fun b hb => by have := HFT.out b hb; omega, HDW.out.newer HGL.out ho (by simp)⟩
  case inr.inr.inl =>
    go_wp2_with fail
    refine (num_any g w1 HD2.out.cur).mono ?_
    rintro e w2 ⟨y, rfl, hy0, hy1, hd2⟩
    have HD3 := Lib.hid (HD2.out.trans hd2)
    have HQ3 := Lib.hid (HQ2.out.trans hd2.only)
    clear hd2
    go_wp2_with fail
    refine (num_any g w2 HD3.out.cur).mono ?_
    rintro e w3 ⟨z, rfl, hz0, hz1, hd3⟩
    have HD4 := Lib.hid (HD3.out.trans hd3)
    have HQ4 := Lib.hid (HQ3.out.trans hd3.only)
    clear hd3
    go_wp2_with fail
    refine (four_any y z w3 ⟨hy0, hy1⟩ ⟨hz0, hz1⟩).mono ?_
    rintro e wt ⟨vt, tt, ft, bt, rfl, hot, hft', hbt⟩
    have hft : ∀ b ∈ ft, W0.heap.size ≤ b := fun b hb => by have := hft' b hb; have := HD4.out.only.size; omega
    have HDT := Lib.hid (HD4.out.below hbt)
    have HQT := Lib.hid (HQ4.out.trans (Only.of_below hbt))
    clear hft' hbt
    obtain ⟨vA8, vB8, fA8, fB8, rfl, hI8, hoA8, hoB8, hf8, hn8⟩ := hot
    obtain ⟨adA8, lA8, cA8, rfl, _⟩ := ownI_open hoA8
    obtain ⟨adB8, lB8, cB8, rfl, _⟩ := ownI_open hoB8
    have hot : OwnTab 3 wt (.agg #[.int .i64 tt.stages, .slice adA8 lA8 cA8, .slice adB8 lB8 cB8]) tt ft := ⟨_, _, fA8, fB8, rfl, hI8, hoA8, hoB8, hf8, hn8⟩
    clear hI8 hoA8 hoB8 hf8 hn8
    obtain ⟨hot, hdn, hqn, hc0, hc1, hc2⟩ := box_tab (e := 37) hot HDT.out HQT.out
    obtain ⟨wn, hwn⟩ : ∃ W, W = wt.alloc (.cells #[.int .i64 tt.stages, .slice adA8 lA8 cA8, .slice adB8 lB8 cB8] 37) := ⟨_, rfl⟩
    rw [← hwn] at hot hdn hqn hc0 hc1 hc2
    have HWN := Lib.hid hwn
    have HDN := Lib.hid hdn
    have HQN := Lib.hid hqn
    have HBL := Lib.hid (show Below wt.heap.size wt wn from hwn ▸ (Below.refl _ _).alloc (Nat.le_refl _) _)
    have HBG := Lib.hid (show wt.heap.size ≠ g from by have := HG0.out; have := HDT.out.only.size; omega)
    have HBN := Lib.hid (show W0.heap.size ≤ wt.heap.size ∧ wt.heap.size < wn.heap.size from ⟨HDT.out.only.size, by rw [hwn]; simp⟩)
    clear hwn hdn hqn
    go_upto_region 9 with fail
    rw [← HWN.out]
    cases bt with
    | true =>
      have HOT := Lib.hid hot
      have HFT := Lib.hid (show ∀ b ∈ ft, W0.heap.size ≤ b from hft)
      obtain ⟨⟨x0, hr0⟩, ⟨x1, hr1⟩, ⟨x2, hr2⟩, hf0, hf1, hf2⟩ := HR.out wn HDN.out.only
      have HDW := Lib.hid (show Drawn g w wn from ⟨HB0.out.only.trans HDN.out.only, HDN.out.cur⟩)
      clear hot hft
      go_wp2
      refine bodyPost_ret (v := .agg #[.int .i64 tt.stages, .slice adA8 lA8 cA8, .slice adB8 lB8 cB8]) (by simp [results, Tryz.results85, go_sem, hr0, hr1, hr2]) rfl ?_
      have ho : Only [w.heap.size] wn (((wn.setCell ⟨w.heap.size, 0, none⟩ (.int .i64 tt.stages)).setCell ⟨w.heap.size, 1, none⟩ (.slice adA8 lA8 cA8)).setCell ⟨w.heap.size, 2, none⟩ (.slice adB8 lB8 cB8)) := (((Only.refl _ _).setCell (by simp) _).setCell (by simp) _).setCell (by simp) _
      have hsz := HSZ.out
      exact ⟨_, tt, ft, rfl, ownTab_only HOT.out ho (fun b hb => by have := HFT.out b hb; simp; omega), fun b hb => by have := HFT.out b hb; omega, HDW.out.newer HGL.out ho (by simp)⟩
    | false =>
      clear hot hft hc0 hc1 hc2
      go_wp2_with fail
      refine (pick_any g 18 W0.heap.size 18 wn HDN.out.cur (by omega) (by omega) ((HNM.out wn HQN.out).le (by omega)) (by have := HG0.out; omega)).mono ?_
      rintro e we ⟨sn, rfl, hde⟩
      have HDE := Lib.hid (HDN.out.trans hde)
      have HQE := Lib.hid (HQN.out.trans hde.only)
      have HDO := Lib.hid hde.only
      clear hde
      go_wp2_with fail
      refine (sKnown_any sn we).mono ?_
      rintro e wt ⟨vt, tt, ft, bt, rfl, hot, hft', hbt⟩
      have hft : ∀ b ∈ ft, W0.heap.size ≤ b := fun b hb => by have := hft' b hb; have := HDE.out.only.size; omega
      have HDT := Lib.hid (HDE.out.below hbt)
      have HQT := Lib.hid (HQE.out.trans (Only.of_below hbt))
      have HWT := Lib.hid (show Only [g] wn wt from HDO.out.trans (Only.of_below hbt))
      clear hft' hbt
      obtain ⟨vA8, vB8, fA8, fB8, rfl, hI8, hoA8, hoB8, hf8, hn8⟩ := hot
      obtain ⟨adA8, lA8, cA8, rfl, _⟩ := ownI_open hoA8
      obtain ⟨adB8, lB8, cB8, rfl, _⟩ := ownI_open hoB8
      have hot : OwnTab 3 wt (.agg #[.int .i64 tt.stages, .slice adA8 lA8 cA8, .slice adB8 lB8 cB8]) tt ft := ⟨_, _, fA8, fB8, rfl, hI8, hoA8, hoB8, hf8, hn8⟩
      clear hI8 hoA8 hoB8 hf8 hn8
      obtain ⟨hot, hdn, hqn, hc0, hc1, hc2⟩ := box_tab (e := 37) hot HDT.out HQT.out
      obtain ⟨wn, hwn⟩ : ∃ W, W = wt.alloc (.cells #[.int .i64 tt.stages, .slice adA8 lA8 cA8, .slice adB8 lB8 cB8] 37) := ⟨_, rfl⟩
      rw [← hwn] at hot hdn hqn hc0 hc1 hc2
      have HWN := Lib.hid hwn
      have HDN := Lib.hid hdn
      have HQN := Lib.hid hqn
      have HBL := Lib.hid (show Below wt.heap.size wt wn from hwn ▸ (Below.refl _ _).alloc (Nat.le_refl _) _)
      have HBG := Lib.hid (show wt.heap.size ≠ g from by have := HG0.out; have := HDT.out.only.size; omega)
      have HBN := Lib.hid (show W0.heap.size ≤ wt.heap.size ∧ wt.heap.size < wn.heap.size from ⟨HDT.out.only.size, by rw [hwn]; simp⟩)
      clear hwn hdn hqn
      go_upto_region 17 with fail
      rw [← HWN.out]
      have HOT := Lib.hid hot
      have HFT := Lib.hid (show ∀ b ∈ ft, W0.heap.size ≤ b from hft)
      obtain ⟨⟨x0, hr0⟩, ⟨x1, hr1⟩, ⟨x2, hr2⟩, hf0, hf1, hf2⟩ := HR.out wn HDN.out.only
      have HDW := Lib.hid (show Drawn g w wn from ⟨HB0.out.only.trans HDN.out.only, HDN.out.cur⟩)
      clear hot hft
      go_wp2
      refine bodyPost_ret (v := .agg #[.int .i64 tt.stages, .slice adA8 lA8 cA8, .slice adB8 lB8 cB8]) (by simp [results, Tryz.results85, go_sem, hr0, hr1, hr2]) rfl ?_
      have ho : Only [w.heap.size] wn (((wn.setCell ⟨w.heap.size, 0, none⟩ (.int .i64 tt.stages)).setCell ⟨w.heap.size, 1, none⟩ (.slice adA8 lA8 cA8)).setCell ⟨w.heap.size, 2, none⟩ (.slice adB8 lB8 cB8)) := (((Only.refl _ _).setCell (by simp) _).setCell (by simp) _).setCell (by simp) _
      have hsz := HSZ.out
      exact ⟨_, tt, ft, rfl, ownTab_only HOT.out ho (fun b hb => by have := HFT.out b hb; simp; omega), fun b hb => by have := HFT.out b hb; omega, HDW.out.newer HGL.out ho (by simp)⟩
  case inr.inr.inr.inl =>
    go_wp2_with fail
    refine (pick_any g 5 W0.heap.size 18 w1 HD2.out.cur (by omega) (by omega) ((HNM.out w1 HQ2.out).le (by omega)) (by have := HG0.out; omega)).mono ?_
    rintro e we ⟨sn, rfl, hde⟩
    have HDE := Lib.hid (HD2.out.trans hde)
    have HQE := Lib.hid (HQ2.out.trans hde.only)
    have HDO := Lib.hid hde.only
    clear hde
    go_wp2_with fail
    refine (sKnown_any sn we).mono ?_
    rintro e wt ⟨vt, tt, ft, bt, rfl, hot, hft', hbt⟩
    have hft : ∀ b ∈ ft, W0.heap.size ≤ b := fun b hb => by have := hft' b hb; have := HDE.out.only.size; omega
    have HDT := Lib.hid (HDE.out.below hbt)
    have HQT := Lib.hid (HQE.out.trans (Only.of_below hbt))
    have HWT := Lib.hid (show Only [g] w1 wt from HDO.out.trans (Only.of_below hbt))
    clear hft' hbt
    obtain ⟨vA8, vB8, fA8, fB8, rfl, hI8, hoA8, hoB8, hf8, hn8⟩ := hot
    obtain ⟨adA8, lA8, cA8, rfl, _⟩ := ownI_open hoA8
    obtain ⟨adB8, lB8, cB8, rfl, _⟩ := ownI_open hoB8
    have hot : OwnTab 3 wt (.agg #[.int .i64 tt.stages, .slice adA8 lA8 cA8, .slice adB8 lB8 cB8]) tt ft := ⟨_, _, fA8, fB8, rfl, hI8, hoA8, hoB8, hf8, hn8⟩
    clear hI8 hoA8 hoB8 hf8 hn8
    obtain ⟨hot, hdn, hqn, hc0, hc1, hc2⟩ := box_tab (e := 37) hot HDT.out HQT.out
    obtain ⟨wn, hwn⟩ : ∃ W, W = wt.alloc (.cells #[.int .i64 tt.stages, .slice adA8 lA8 cA8, .slice adB8 lB8 cB8] 37) := ⟨_, rfl⟩
    rw [← hwn] at hot hdn hqn hc0 hc1 hc2
    have HWN := Lib.hid hwn
    have HDN := Lib.hid hdn
    have HQN := Lib.hid hqn
    have HBL := Lib.hid (show Below wt.heap.size wt wn from hwn ▸ (Below.refl _ _).alloc (Nat.le_refl _) _)
    have HBG := Lib.hid (show wt.heap.size ≠ g from by have := HG0.out; have := HDT.out.only.size; omega)
    have HBN := Lib.hid (show W0.heap.size ≤ wt.heap.size ∧ wt.heap.size < wn.heap.size from ⟨HDT.out.only.size, by rw [hwn]; simp⟩)
    clear hwn hdn hqn
    go_upto_region 13 with fail
    rw [← HWN.out]
    obtain ⟨b6, hb6⟩ : ∃ b, b = wt.heap.size := ⟨_, rfl⟩
    rw [← hb6] at hc0 hc1 hc2 ⊢
    have H6 := Lib.hid (show b6 ≠ g ∧ b6 < wn.heap.size ∧ W0.heap.size ≤ b6 from hb6 ▸ ⟨HBG.out, HBN.out.2, HBN.out.1⟩)
    obtain ⟨w6, hw6⟩ : ∃ W, W = wn := ⟨_, rfl⟩
    rw [← hw6] at hot hc0 hc1 hc2 H6 HDN HQN ⊢
    obtain ⟨a61, ha61⟩ : ∃ a, a = Value.int .i64 tt.stages := ⟨_, rfl⟩
    obtain ⟨a62, ha62⟩ : ∃ a, a = Value.slice adA8 lA8 cA8 := ⟨_, rfl⟩
    obtain ⟨a63, ha63⟩ : ∃ a, a = Value.slice adB8 lB8 cB8 := ⟨_, rfl⟩
    obtain ⟨t6, ht6⟩ : ∃ t, t = tt := ⟨_, rfl⟩
    obtain ⟨f6, hf6⟩ : ∃ t, t = ft := ⟨_, rfl⟩
    rw [← ha61, ← ha62, ← ha63, ← ht6, ← hf6] at hot
    rw [← ha61] at hc0
    rw [← ha62] at hc1
    rw [← ha63] at hc2
    rw [← hf6] at hft
    clear ha61 ha62 ha63 ht6 hf6
    have HOT6 := Lib.hid hot
    have HFT6 := Lib.hid hft
    have HC6 := Lib.hid (And.intro hc0 (And.intro hc1 hc2))
    clear hot hft hc0 hc1 hc2 hb6 hw6 HWN HBG HBN HBL
    go_wp2_with fail
    refine (pick_any g 6 W0.heap.size 18 w6 HDN.out.cur (by omega) (by omega) ((HNM.out w6 HQN.out).le (by omega)) (by have := HG0.out; omega)).mono ?_
    rintro e we ⟨sn, rfl, hde⟩
    have HDE := Lib.hid (HDN.out.trans hde)
    have HQE := Lib.hid (HQN.out.trans hde.only)
    have HDO := Lib.hid hde.only
    clear hde
    go_wp2_with fail
    refine (sKnown_any sn we).mono ?_
    rintro e wt ⟨vt, tt, ft, bt, rfl, hot, hft', hbt⟩
    have hft : ∀ b ∈ ft, W0.heap.size ≤ b := fun b hb => by have := hft' b hb; have := HDE.out.only.size; omega
    have HDT := Lib.hid (HDE.out.below hbt)
    have HQT := Lib.hid (HQE.out.trans (Only.of_below hbt))
    have HWT := Lib.hid (show Only [g] w6 wt from HDO.out.trans (Only.of_below hbt))
    clear hft' hbt
    obtain ⟨vA8, vB8, fA8, fB8, rfl, hI8, hoA8, hoB8, hf8, hn8⟩ := hot
    obtain ⟨adA8, lA8, cA8, rfl, _⟩ := ownI_open hoA8
    obtain ⟨adB8, lB8, cB8, rfl, _⟩ := ownI_open hoB8
    have hot : OwnTab 3 wt (.agg #[.int .i64 tt.stages, .slice adA8 lA8 cA8, .slice adB8 lB8 cB8]) tt ft := ⟨_, _, fA8, fB8, rfl, hI8, hoA8, hoB8, hf8, hn8⟩
    clear hI8 hoA8 hoB8 hf8 hn8
    obtain ⟨hot, hdn, hqn, hc0, hc1, hc2⟩ := box_tab (e := 37) hot HDT.out HQT.out
    obtain ⟨wn, hwn⟩ : ∃ W, W = wt.alloc (.cells #[.int .i64 tt.stages, .slice adA8 lA8 cA8, .slice adB8 lB8 cB8] 37) := ⟨_, rfl⟩
    rw [← hwn] at hot hdn hqn hc0 hc1 hc2
    have HWN := Lib.hid hwn
    have HDN := Lib.hid hdn
    have HQN := Lib.hid hqn
    have HBL := Lib.hid (show Below wt.heap.size wt wn from hwn ▸ (Below.refl _ _).alloc (Nat.le_refl _) _)
    have HBG := Lib.hid (show wt.heap.size ≠ g from by have := HG0.out; have := HDT.out.only.size; omega)
    have HBN := Lib.hid (show W0.heap.size ≤ wt.heap.size ∧ wt.heap.size < wn.heap.size from ⟨HDT.out.only.size, by rw [hwn]; simp⟩)
    clear hwn hdn hqn
    go_upto_region 14 with fail
    rw [← HWN.out]
    obtain ⟨b8, hb8⟩ : ∃ b, b = wt.heap.size := ⟨_, rfl⟩
    rw [← hb8] at hc0 hc1 hc2 ⊢
    have HON := Lib.hid (show Only [g] w6 wn from HWT.out.trans (Only.of_below HBL.out))
    obtain ⟨a81, ha81⟩ : ∃ a, a = Value.int .i64 tt.stages := ⟨_, rfl⟩
    obtain ⟨a82, ha82⟩ : ∃ a, a = Value.slice adA8 lA8 cA8 := ⟨_, rfl⟩
    obtain ⟨a83, ha83⟩ : ∃ a, a = Value.slice adB8 lB8 cB8 := ⟨_, rfl⟩
    obtain ⟨t8, ht8⟩ : ∃ t, t = tt := ⟨_, rfl⟩
    obtain ⟨f8, hf8⟩ : ∃ t, t = ft := ⟨_, rfl⟩
    rw [← ha81, ← ha82, ← ha83, ← ht8, ← hf8] at hot
    rw [← ha81] at hc0
    rw [← ha82] at hc1
    rw [← ha83] at hc2
    rw [← hf8] at hft
    clear ha81 ha82 ha83 ht8 hf8
    have hT0 : Two wn b6 b8 a61 a62 a63 a81 a82 a83 t6 t8 f6 f8 := ⟨cell_only HON.out (by simpa using H6.out.1) HC6.out.1, cell_only HON.out (by simpa using H6.out.1) HC6.out.2.1, cell_only HON.out (by simpa using H6.out.1) HC6.out.2.2, hc0, hc1, hc2, ownTab_only HOT6.out HON.out (fun b hb => by have := HFT6.out b hb; have := HG0.out; simp; omega), hot⟩
    have hg1 : ∀ b ∈ f8, b ≠ g := fun b hb => by have := hft b hb; have := HG0.out; omega
    have hg2 : ∀ b ∈ f6, b ≠ g := fun b hb => by have := HFT6.out b hb; have := HG0.out; omega
    have h6g : b6 ≠ g := H6.out.1
    have h8g : b8 ≠ g := hb8 ▸ HBG.out
    have h6l : b6 < wn.heap.size := World.block_lt_of_cell? _ _ hT0.k1
    have h8l : b8 < wn.heap.size := World.block_lt_of_cell? _ _ hT0.m1
    have h0l := HDN.out.only.size
    have hgl := HG0.out
    have HT0 := Lib.hid hT0
    have HG1 := Lib.hid hg1
    have HG2 := Lib.hid hg2
    have hwg : wn.heap.size ∉ [g] := by simp; omega
    clear hot hft hc0 hc1 hc2 hb8 HWN HBN HBG HBL HWT HDT HQT HDE HQE HDO HC6 HOT6 HFT6 hT0 hg1 hg2 HON
    have HDR := Lib.hid (HDN.out.below (Below.refl _ _).drew)
    have HDZ := Lib.hid ((HDN.out.below ((Below.refl wn.heap.size wn).alloc (Nat.le_refl _) (.cells #[.int .i64 0, .slice none 0 0, .slice none 0 0] 37))).below (Below.refl _ _).drew)
    have HTD := Lib.hid (HT0.out.bel (Below.refl _ _).drew)
    have HTZ := Lib.hid ((HT0.out.al (.cells #[.int .i64 0, .slice none 0 0, .slice none 0 0] 37)).bel (Below.refl _ _).drew)
    have HXZ := Lib.hid ((BX.new wn (.int .i64 0) (.slice none 0 0) (.slice none 0 0) 37).bel (Below.refl _ _).drew)
    go_cut [10] from 14 to 78 (fun s10 wx => ∃ (B : Nat) (st : Int) (adA : Option Addr) (lA cA : Nat) (adB : Option Addr) (lB cB : Nat) (tt : TabZ) (ft : List Nat), s10 = .pointer (some ⟨B, 0, none⟩) ∧ Boxed g W0 wx B (.int .i64 st) (.slice adA lA cA) (.slice adB lB cB) tt ft)
    case first =>
      go_region_held3 (fun w' => w'.cell? ⟨b6, 0, none⟩ = some a61 ∧ w'.cell? ⟨b6, 1, none⟩ = some a62 ∧ w'.cell? ⟨b6, 2, none⟩ = some a63 ∧ w'.cell? ⟨b8, 0, none⟩ = some a81 ∧ w'.cell? ⟨b8, 1, none⟩ = some a82 ∧ w'.cell? ⟨b8, 2, none⟩ = some a83) (first | exact HTD.out.cells | exact HTZ.out.cells | exact HT0.out.cells | exact (HT0.out.al _).cells | exact HTA.out.cells | exact (HTA.out.al _).cells | exact HTB.out.cells | exact (HTB.out.al _).cells | exact HTC.out.cells | exact (HTC.out.al _).cells | exact cells_set HTC.out.cells (by omega) (by omega) | exact cells_set (HTC.out.al _).cells (by omega) (by omega)) (first | (go_at_call 74; (first | ((with_reducible refine (num_any g _ HDR.out.cur).mono ?_); rintro e wa ⟨zn, rfl, hz0, hz1, hd1⟩; have HTA := Lib.hid (HTD.out.only hd1.only h6g h8g HG2.out HG1.out); have HDA := Lib.hid (HDR.out.trans hd1)) | ((with_reducible refine (num_any g _ HDZ.out.cur).mono ?_); rintro e wa ⟨zn, rfl, hz0, hz1, hd1⟩; have HTA := Lib.hid (HTZ.out.only hd1.only h6g h8g HG2.out HG1.out); have HDA := Lib.hid (HDZ.out.trans hd1); have HXA := Lib.hid (HXZ.out.only hd1.only hwg))); have hsa : wn.heap.size ≤ wa.heap.size := (by first | exact hd1.only.size | exact al_le hd1.only.size); have hsa' := HDA.out.only.size; clear hd1) | (go_at_call 139; (first | ((with_reducible refine (tscale_any _ t6 zn wa (ownTab_rd HTA.out.o1)).mono ?_); rintro e wb ⟨vs, ts, fs, rfl, hos, hfs, hbb⟩; have HTB := Lib.hid (HTA.out.bel hbb); have HDB := Lib.hid (HDA.out.below hbb); try have HXB := Lib.hid (HXA.out.bel hbb)) | ((with_reducible refine (tscale_any _ t6 zn _ (ownTab_rd (HTA.out.al _).o1)).mono ?_); rintro e wb ⟨vs, ts, fs, rfl, hos, hfs, hbb⟩; have HTB := Lib.hid ((HTA.out.al _).bel hbb); have HDB := Lib.hid ((HDA.out.below ((Below.refl _ _).alloc (Nat.le_refl _) _)).below hbb); have HXB := Lib.hid ((BX.new wa _ _ _ _).bel hbb))); have HOS := Lib.hid (ownTab_src hos); have hsb : wa.heap.size ≤ wb.heap.size := (by first | exact hbb.size | exact al_le hbb.size); clear hos hfs hbb) | (go_at_call 138; (first | ((with_reducible refine (tcomp_any _ _ ts t8 wb HOS.out (ownTab_src HTB.out.o2)).mono ?_); rintro e wt ⟨vt, tt, ft, bt, rfl, hot, hft, hbc⟩; have HTC := Lib.hid (HTB.out.bel hbc); have HDC := Lib.hid (HDB.out.below hbc); try (have HXC := Lib.hid (HXB.out.bel hbc); have HNX := Lib.hid (bx_ne HXB.out hft))) | ((with_reducible refine (tcomp_any _ _ ts t8 _ (srcTab_bel HOS.out ((Below.refl _ _).alloc (Nat.le_refl _) _)) (ownTab_src (HTB.out.al _).o2)).mono ?_); rintro e wt ⟨vt, tt, ft, bt, rfl, hot, hft, hbc⟩; have HTC := Lib.hid ((HTB.out.al _).bel hbc); have HDC := Lib.hid ((HDB.out.below ((Below.refl _ _).alloc (Nat.le_refl _) _)).below hbc); have HXC := Lib.hid ((BX.new wb _ _ _ _).bel hbc); have HNX := Lib.hid (al_ne hft))); obtain ⟨st, adA, lA, cA, adB, lB, cB, rfl⟩ := ownTab_shape hot; have HOC := Lib.hid hot; have hsc : wb.heap.size ≤ wt.heap.size := (by first | exact hbc.size | exact al_le hbc.size); have HFW := Lib.hid (show ∀ b ∈ ft, W0.heap.size ≤ b from fun b hb => (by have h1 := hft b hb; first | exact Nat.le_trans hsa' (Nat.le_trans hsb h1) | exact Nat.le_trans hsa' (Nat.le_trans hsb (al_le h1)))); try obtain ⟨⟨xx0, hxx0⟩, ⟨xx1, hxx1⟩, ⟨xx2, hxx2⟩, hxf0, hxf1, hxf2⟩ := HXC.out; clear hot hft hbc))
      all_goals (
        go_wp2_with fail
        go_meet
        first
          | exact ⟨_, st, adA, lA, cA, adB, lB, cB, _, _, rfl, Boxed.put HOC.out HFW.out HDC.out HXC.out HNX.out (by omega) hgl⟩
          | exact ⟨_, st, adA, lA, cA, adB, lB, cB, _, _, rfl, Boxed.al HOC.out HFW.out HDC.out⟩)
    case rest =>
      obtain ⟨B, st, adA8, lA8, cA8, adB8, lB8, cB8, tt, ft, rfl, hX⟩ := hcut
      have hot := hX.own
      have hft := hX.new
      have hc0 := hX.c0
      have hc1 := hX.c1
      have hc2 := hX.c2
      have HDC := Lib.hid hX.drawn
      obtain ⟨rfl⟩ : st = tt.stages := by
        obtain ⟨_, _, _, _, he, _⟩ := hot
        simp at he
        exact he.1
      clear hX
      have HOT := Lib.hid hot
      have HFT := Lib.hid (show ∀ b ∈ ft, W0.heap.size ≤ b from hft)
      obtain ⟨⟨x0, hr0⟩, ⟨x1, hr1⟩, ⟨x2, hr2⟩, hf0, hf1, hf2⟩ := HR.out wc HDC.out.only
      have HDW := Lib.hid (show Drawn g w wc from ⟨HB0.out.only.trans HDC.out.only, HDC.out.cur⟩)
      clear hot hft
      go_wp2
      refine bodyPost_ret (v := .agg #[.int .i64 tt.stages, .slice adA8 lA8 cA8, .slice adB8 lB8 cB8]) (by simp [results, Tryz.results85, go_sem, hr0, hr1, hr2]) rfl ?_
      have ho : Only [w.heap.size] wc (((wc.setCell ⟨w.heap.size, 0, none⟩ (.int .i64 tt.stages)).setCell ⟨w.heap.size, 1, none⟩ (.slice adA8 lA8 cA8)).setCell ⟨w.heap.size, 2, none⟩ (.slice adB8 lB8 cB8)) := (((Only.refl _ _).setCell (by simp) _).setCell (by simp) _).setCell (by simp) _
      have hsz := HSZ.out
      exact ⟨_, tt, ft, rfl, ownTab_only HOT.out ho (fun b hb => by have := HFT.out b hb; simp; omega), fun b hb => by have := HFT.out b hb; omega, HDW.out.newer HGL.out ho (by simp)⟩
  case inr.inr.inr.inr =>
    have h40 : ¬ (x : Int) = 0 := by omega
    have h41 : ¬ (x : Int) = 1 := by omega
    have h42 : ¬ (x : Int) = 2 := by omega
    have h43 : ¬ (x : Int) = 3 := by omega
    go_wp2_with fail
    refine (pick_any g 18 W0.heap.size 18 w1 HD2.out.cur (by omega) (by omega) ((HNM.out w1 HQ2.out).le (by omega)) (by have := HG0.out; omega)).mono ?_
    rintro e we ⟨sn, rfl, hde⟩
    have HDE := Lib.hid (HD2.out.trans hde)
    have HQE := Lib.hid (HQ2.out.trans hde.only)
    have HDO := Lib.hid hde.only
    clear hde
    go_wp2_with fail
    refine (sKnown_any sn we).mono ?_
    rintro e wt ⟨vt, tt, ft, bt, rfl, hot, hft', hbt⟩
    have hft : ∀ b ∈ ft, W0.heap.size ≤ b := fun b hb => by have := hft' b hb; have := HDE.out.only.size; omega
    have HDT := Lib.hid (HDE.out.below hbt)
    have HQT := Lib.hid (HQE.out.trans (Only.of_below hbt))
    have HWT := Lib.hid (show Only [g] w1 wt from HDO.out.trans (Only.of_below hbt))
    clear hft' hbt
    obtain ⟨vA8, vB8, fA8, fB8, rfl, hI8, hoA8, hoB8, hf8, hn8⟩ := hot
    obtain ⟨adA8, lA8, cA8, rfl, _⟩ := ownI_open hoA8
    obtain ⟨adB8, lB8, cB8, rfl, _⟩ := ownI_open hoB8
    have hot : OwnTab 3 wt (.agg #[.int .i64 tt.stages, .slice adA8 lA8 cA8, .slice adB8 lB8 cB8]) tt ft := ⟨_, _, fA8, fB8, rfl, hI8, hoA8, hoB8, hf8, hn8⟩
    clear hI8 hoA8 hoB8 hf8 hn8
    obtain ⟨hot, hdn, hqn, hc0, hc1, hc2⟩ := box_tab (e := 37) hot HDT.out HQT.out
    obtain ⟨wn, hwn⟩ : ∃ W, W = wt.alloc (.cells #[.int .i64 tt.stages, .slice adA8 lA8 cA8, .slice adB8 lB8 cB8] 37) := ⟨_, rfl⟩
    rw [← hwn] at hot hdn hqn hc0 hc1 hc2
    have HWN := Lib.hid hwn
    have HDN := Lib.hid hdn
    have HQN := Lib.hid hqn
    have HBL := Lib.hid (show Below wt.heap.size wt wn from hwn ▸ (Below.refl _ _).alloc (Nat.le_refl _) _)
    have HBG := Lib.hid (show wt.heap.size ≠ g from by have := HG0.out; have := HDT.out.only.size; omega)
    have HBN := Lib.hid (show W0.heap.size ≤ wt.heap.size ∧ wt.heap.size < wn.heap.size from ⟨HDT.out.only.size, by rw [hwn]; simp⟩)
    clear hwn hdn hqn
    go_upto_region 17 with fail
    rw [← HWN.out]
    have HOT := Lib.hid hot
    have HFT := Lib.hid (show ∀ b ∈ ft, W0.heap.size ≤ b from hft)
    obtain ⟨⟨x0, hr0⟩, ⟨x1, hr1⟩, ⟨x2, hr2⟩, hf0, hf1, hf2⟩ := HR.out wn HDN.out.only
    have HDW := Lib.hid (show Drawn g w wn from ⟨HB0.out.only.trans HDN.out.only, HDN.out.cur⟩)
    clear hot hft
    go_wp2
    refine bodyPost_ret (v := .agg #[.int .i64 tt.stages, .slice adA8 lA8 cA8, .slice adB8 lB8 cB8]) (by simp [results, Tryz.results85, go_sem, hr0, hr1, hr2]) rfl ?_
    have ho : Only [w.heap.size] wn (((wn.setCell ⟨w.heap.size, 0, none⟩ (.int .i64 tt.stages)).setCell ⟨w.heap.size, 1, none⟩ (.slice adA8 lA8 cA8)).setCell ⟨w.heap.size, 2, none⟩ (.slice adB8 lB8 cB8)) := (((Only.refl _ _).setCell (by simp) _).setCell (by simp) _).setCell (by simp) _
    have hsz := HSZ.out
    exact ⟨_, tt, ft, rfl, ownTab_only HOT.out ho (fun b hb => by have := HFT.out b hb; simp; omega), fun b hb => by have := HFT.out b hb; omega, HDW.out.newer HGL.out ho (by simp)⟩
end Go.Proofs.YtbcjhpgkodeoeaaGreatDoor
