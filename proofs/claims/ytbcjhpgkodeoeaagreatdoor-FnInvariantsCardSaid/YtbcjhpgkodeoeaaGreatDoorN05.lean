/- The texts TBox, TOk, TreS, TreL, TreA, PBox, DrwP in one: each says at its head what it proves. Conditions: as said there. -/
import Derived.Test.YtbcjhpgkodeoeaaGreatDoorN04
import Derived.Test.YtbcjhpgkodeoeaaGreatDoorN02
import Derived.Test.YtbcjhpgkodeoeaaGreatDoorN01
set_option linter.unusedSimpArgs false
set_option linter.unusedVariables false
/- A tableau that is being made: its box, and its rows so far. Conditions: none. -/
namespace Go.Proofs.YtbcjhpgkodeoeaaGreatDoor
open Go.RowKit

structure TBox (e N : Nat) (w : World) (Bt : Nat) (st : Int) (vA vB : Value) (A B : List Int) (fA fB : List Nat) : Prop where
  ownA : OwnI e w vA A fA
  ownB : OwnI e w vB B fB
  newA : ∀ b ∈ fA, N ≤ b ∧ b ≠ Bt
  newB : ∀ b ∈ fB, N ≤ b ∧ b ≠ Bt
  dis : ∀ b ∈ fA, b ∉ fB
  hB : N ≤ Bt
  c0 : w.cell? ⟨Bt, 0, none⟩ = some (.int .i64 st)
  c1 : w.cell? ⟨Bt, 1, none⟩ = some vA
  c2 : w.cell? ⟨Bt, 2, none⟩ = some vB
  f1 : w.frozen? ⟨Bt, 1, none⟩ = false
  f2 : w.frozen? ⟨Bt, 2, none⟩ = false
  f0 : w.frozen? ⟨Bt, 0, none⟩ = false
theorem TBox.only {e N : Nat} {w w' : World} {Bt : Nat} {st : Int} {vA vB : Value} {A B : List Int} {fA fB fp : List Nat} (h : TBox e N w Bt st vA vB A B fA fB) (ho : Only fp w w') (hf : ∀ b ∈ fp, b < N) : TBox e N w' Bt st vA vB A B fA fB := by
  have hb : Bt ∉ fp := fun hm => by have := hf _ hm; have := h.hB; omega
  have hl : Bt < w.heap.size := World.block_lt_of_cell? _ _ h.c0
  have fr : ∀ c, w'.frozen? ⟨Bt, c, none⟩ = w.frozen? ⟨Bt, c, none⟩ := fun c => World.frozen?_of_block (ho.block _ hl hb)
  exact ⟨ownI_only h.ownA ho (fun b hb hm => by have := (h.newA b hb).1; have := hf b hm; omega), ownI_only h.ownB ho (fun b hb hm => by have := (h.newB b hb).1; have := hf b hm; omega), h.newA, h.newB, h.dis, h.hB, cell_only ho hb h.c0, cell_only ho hb h.c1, cell_only ho hb h.c2, (fr 1).trans h.f1, (fr 2).trans h.f2, (fr 0).trans h.f0⟩
theorem TBox.bel {e N : Nat} {w w' : World} {Bt : Nat} {st : Int} {vA vB : Value} {A B : List Int} {fA fB : List Nat} (h : TBox e N w Bt st vA vB A B fA fB) (hb : Below w.heap.size w w') : TBox e N w' Bt st vA vB A B fA fB := h.only (fp := []) (Only.of_below hb) (by simp)
theorem tbox_lt {e N : Nat} {w : World} {Bt : Nat} {st : Int} {vA vB : Value} {A B : List Int} {fA fB : List Nat} (h : TBox e N w Bt st vA vB A B fA fB) : Bt < w.heap.size := World.block_lt_of_cell? _ _ h.c0
/-- The first row has grown, and is stored. -/
theorem TBox.putA {e N : Nat} {w w2 : World} {Bt : Nat} {st : Int} {vA vB v' : Value} {A B A' : List Int} {fA fB f' : List Nat} (h : TBox e N w Bt st vA vB A B fA fB) (ho : Only fA w w2) (hv : OwnI e w2 v' A' f') (hf : ∀ b ∈ f', b ∈ fA ∨ w.heap.size ≤ b) (hN : N ≤ w.heap.size) :
    (w2.cell? ⟨Bt, 1, none⟩ = some vA ∧ w2.frozen? ⟨Bt, 1, none⟩ = false) ∧ TBox e N (w2.setCell ⟨Bt, 1, none⟩ v') Bt st v' vB A' B f' fB ∧ Only (Bt :: fA) w (w2.setCell ⟨Bt, 1, none⟩ v') := by
  have hb : Bt ∉ fA := fun hm => (h.newA _ hm).2 rfl
  have hl := tbox_lt h
  have fr : ∀ c, w2.frozen? ⟨Bt, c, none⟩ = w.frozen? ⟨Bt, c, none⟩ := fun c => World.frozen?_of_block (ho.block _ hl hb)
  have hS : Only [Bt] w2 (w2.setCell ⟨Bt, 1, none⟩ v') := (Only.refl _ _).setCell (by simp) _
  have c1 := cell_only ho hb h.c1
  have hltB := ownI_lt h.ownB
  have hne : ∀ b ∈ f', b ≠ Bt := fun b hb e => by
    rcases hf b hb with h1 | h1
    · exact (h.newA b h1).2 e
    · omega
  refine ⟨⟨c1, (fr 1).trans h.f1⟩, ⟨ownI_only hv hS (fun b hb hm => hne b hb (List.mem_singleton.1 hm)), ownI_only (ownI_only h.ownB ho (fun b hb hm => h.dis b hm hb)) hS (fun b hb hm => (h.newB b hb).2 (List.mem_singleton.1 hm)), fun b hb => ⟨?_, hne b hb⟩, h.newB, fun b hb hm => ?_, h.hB, ?_, World.cell?_setCell_same _ _ _ c1, ?_, ?_, ?_, ?_⟩, ?_⟩
  · rcases hf b hb with h1 | h1
    · exact (h.newA b h1).1
    · omega
  · rcases hf b hb with h1 | h1
    · exact h.dis b h1 hm
    · have := hltB b hm; omega
  · exact (World.cell?_setCell_other _ _ _ _ (by simp)).trans (cell_only ho hb h.c0)
  · exact (World.cell?_setCell_other _ _ _ _ (by simp)).trans (cell_only ho hb h.c2)
  · rw [World.frozen?_setCell]; exact (fr 1).trans h.f1
  · rw [World.frozen?_setCell]; exact (fr 2).trans h.f2
  · rw [World.frozen?_setCell]; exact (fr 0).trans h.f0
  · exact (ho.mono (by intro b hb; simp [hb])).trans (hS.mono (by intro b hb; simp at hb; simp [hb]))
theorem TBox.new {e N : Nat} {w : World} {t : Nat} {st : Int} (hN : N ≤ w.heap.size) : TBox e N (w.alloc (.cells #[.int .i64 st, .slice none 0 0, .slice none 0 0] t)) w.heap.size st (.slice none 0 0) (.slice none 0 0) [] [] [] [] :=
  ⟨⟨World.ownsRow_nil _ _ _ _, rfl, by simp⟩, ⟨World.ownsRow_nil _ _ _ _, rfl, by simp⟩, by simp, by simp, by simp, hN, by simp, by simp, by simp, by simp, by simp, by simp⟩
/-- A literal of one number, to be appended. -/
theorem below_lit1 (w : World) (e : Nat) (x : Int) : Below w.heap.size w (w.alloc (.cells #[.int .i64 x] e)) := (Below.refl _ _).alloc (Nat.le_refl _) _
theorem src_lit {e : Nat} (w : World) (y : Int) (hy : I64 y) : SrcI (w.alloc (.cells #[.int .i64 y] e)) (.slice (some ⟨w.heap.size, 0, none⟩) 1 1) [y] :=
  srcI_own (e := e) (f := [w.heap.size]) ⟨⟨by simp, .inr ⟨w.heap.size, 1, #[.int .i64 y], rfl, Nat.zero_le _, heap_alloc_new w _, Nat.le_refl _, by unfold maxLen; omega, by simp, by simp⟩⟩, rfl, by simpa using hy⟩
/-- A row that grows in several steps: what is known of it since wk. -/
structure Chn (e : Nat) (wk : World) (fA : List Nat) (wc : World) (vc : Value) (Ac : List Int) (fc : List Nat) : Prop where
  own : OwnI e wc vc Ac fc
  only : Only fA wk wc
  sub : ∀ b ∈ fc, b ∈ fA ∨ wk.heap.size ≤ b
theorem Chn.start {e : Nat} {wk : World} {v : Value} {A : List Int} {fA : List Nat} (h : OwnI e wk v A fA) : Chn e wk fA wk v A fA := ⟨h, Only.refl _ _, fun b hb => .inl hb⟩
theorem Chn.bel {e : Nat} {wk wc wd : World} {fA fc : List Nat} {vc : Value} {Ac : List Int} (h : Chn e wk fA wc vc Ac fc) (hb : Below wc.heap.size wc wd) : Chn e wk fA wd vc Ac fc :=
  ⟨ownI_only h.own (Only.of_below (fp := []) hb) (by simp), h.only.trans (Only.of_below hb), h.sub⟩
theorem Only.grow {f f' : List Nat} {a b c : World} (h : Only f a b) (k : Only f' b c) (hf : ∀ x ∈ f', x ∈ f ∨ a.heap.size ≤ x) : Only f a c :=
  ⟨k.os.trans h.os, k.tape.trans h.tape, k.output.trans h.output, Nat.le_trans h.size k.size, fun x hx hn => (k.block x (Nat.lt_of_lt_of_le hx h.size) (fun hm => by
    rcases hf x hm with h1 | h1
    · exact hn h1
    · omega)).trans (h.block x hx hn)⟩
theorem Chn.below {e : Nat} {W wk wc : World} {fA fc : List Nat} {vc : Value} {Ac : List Int} (h : Chn e wk fA wc vc Ac fc) (hb : Below W.heap.size W wk) (hf : ∀ b ∈ fA, W.heap.size ≤ b) : Below W.heap.size W wc := below_newer hb h.only hf
end Go.Proofs.YtbcjhpgkodeoeaaGreatDoor

/- The tests on tableaus, of the program and of the reference: what they return. Conditions: none. -/
namespace Go.Proofs.YtbcjhpgkodeoeaaGreatDoor
open Go.RowKit Go.Sort

def stB (s : Int) : Bool := decide (0 ≤ s ∧ s ≤ 8)
def tabOkB (t : TabZ) : Bool := stB t.stages && decide ((t.A.length : Int) = t.stages * t.stages) && decide ((t.B.length : Int) = t.stages) && t.A.all isNumB && t.B.all isNumB
theorem tab_st {t : TabZ} (h : stB t.stages = false) : tabOkB t = false := by simp [tabOkB, h]
theorem tab_A {t : TabZ} (h : (t.A.length : Int) ≠ t.stages * t.stages) : tabOkB t = false := by simp [tabOkB, h]
theorem tab_B {t : TabZ} (h : (t.B.length : Int) ≠ t.stages) : tabOkB t = false := by simp [tabOkB, h]
theorem tab_nA {t : TabZ} (h : t.A.all isNumB = false) : tabOkB t = false := by rw [tabOkB, h]; simp
theorem tab_nB {t : TabZ} (h : t.B.all isNumB = false) : tabOkB t = false := by rw [tabOkB, h]; simp
theorem tab_yes {t : TabZ} (h0 : stB t.stages = true) (h1 : (t.A.length : Int) = t.stages * t.stages) (h2 : (t.B.length : Int) = t.stages) (h3 : t.A.all isNumB = true) (h4 : t.B.all isNumB = true) : tabOkB t = true := by
  rw [tabOkB, h0, h3, h4, decide_eq_true h1, decide_eq_true h2]; rfl
theorem sq_bd {s : Int} (h0 : 0 ≤ s) (h1 : s ≤ 8) : 0 ≤ s * s ∧ s * s ≤ 64 := by
  have := Int.mul_nonneg h0 h0
  have := Int.mul_le_mul h1 h1 h0 (by omega : (0:Int) ≤ 8)
  omega
theorem allNumbers_eq {b : Bool} (v : Value) (xs : List Int) (w : World) (h : RdI w v xs) (hb : xs.all isNumB = b) :
    Calls Tryz.prog 116 #[v] w fun e w' => e = .returned (.bool b) ∧ w = w' := hb ▸ allNumbers_any v xs w h
theorem l1In_eq' {n lo hi : Int} {b : Bool} (h : inB n lo hi = b) (w : World) : Calls Tryz.prog 131 #[.int .i64 n, .int .i64 lo, .int .i64 hi] w fun e w' => e = .returned (.bool b) ∧ w = w' := h ▸ l1In_any n lo hi w

set_option maxHeartbeats 1600000 in
theorem tabOk_any (v : Value) (t : TabZ) (w : World) (h : RdTab w v t) :
    Calls Tryz.prog 57 #[v] w fun e w' => e = .returned (.bool (tabOkB t)) ∧ Below w.heap.size w w' := by
  obtain ⟨vA, vB, rfl, hI, hA, hB⟩ := h
  have hb0 : Below w.heap.size w (w.alloc (.cells #[.int .i64 t.stages, vA, vB] 37)) := (Below.refl _ _).alloc (Nat.le_refl _) _
  have gA := rdI_mono hb0 hA
  have gB := rdI_mono hb0 hB
  obtain ⟨aA, nA, cA, rfl, lA, _, _, _⟩ := rdS_open hA
  obtain ⟨aB, nB, cB, rfl, lB, _, _, _⟩ := rdS_open hB
  have LA := Lib.hid lA
  have LB := Lib.hid lB
  clear hA hB lA lB
  by_cases h0 : 0 ≤ t.stages
  case neg =>
    have HT := Lib.hid (tab_st (t := t) (by simp [stB]; omega))
    go_enter Tryz.func57, Tryz.ntmps57
    go_wp2
    go_ret
    exact ⟨ret_bool (by rw [HT.out]), hb0⟩
  by_cases h8 : t.stages ≤ 8
  case neg =>
    have HT := Lib.hid (tab_st (t := t) (by simp [stB]; omega))
    go_enter Tryz.func57, Tryz.ntmps57
    go_wp2
    go_ret
    exact ⟨ret_bool (by rw [HT.out]), hb0⟩
  have HS := Lib.hid (show stB t.stages = true by simp [stB]; omega)
  obtain ⟨q0, q1⟩ := sq_bd h0 h8
  by_cases hAl : (nA : Int) = t.stages * t.stages
  case neg =>
    have HT := Lib.hid (tab_A (t := t) (by rw [LA.out]; exact hAl))
    have hAb : ((nA : Int) == t.stages * t.stages) = false := by simpa using hAl
    clear hAl
    go_enter Tryz.func57, Tryz.ntmps57
    go_wp2
    go_ret
    exact ⟨ret_bool (by rw [HT.out]), hb0⟩
  have HA := Lib.hid hAl
  have hAb : ((nA : Int) == t.stages * t.stages) = true := by simpa using hAl
  clear hAl
  by_cases hBl : (nB : Int) = t.stages
  case neg =>
    have HT := Lib.hid (tab_B (t := t) (by rw [LB.out]; exact hBl))
    have hBb : ((nB : Int) == t.stages) = false := by simpa using hBl
    clear hBl
    go_enter Tryz.func57, Tryz.ntmps57
    go_wp2
    go_ret
    exact ⟨ret_bool (by rw [HT.out]), hb0⟩
  have HB := Lib.hid hBl
  have hBb : ((nB : Int) == t.stages) = true := by simpa using hBl
  clear hBl
  cases hnA : t.A.all isNumB with
  | false =>
    have HT := Lib.hid (tab_nA hnA)
    go_enter Tryz.func57, Tryz.ntmps57
    go_wp2_with (go_at_call 116; ((with_reducible refine (allNumbers_eq _ t.A _ gA hnA).mono ?_); rintro e w' ⟨rfl, rfl⟩))
    go_ret
    exact ⟨ret_bool (by rw [HT.out]), hb0⟩
  | true =>
  cases hnB : t.B.all isNumB with
  | false =>
    have HT := Lib.hid (tab_nB hnB)
    go_enter Tryz.func57, Tryz.ntmps57
    go_wp2_with fail
    refine (allNumbers_eq _ t.A _ gA hnA).mono ?_
    rintro e w' ⟨rfl, rfl⟩
    go_wp2_with fail
    refine (allNumbers_eq _ t.B _ gB hnB).mono ?_
    rintro e w' ⟨rfl, rfl⟩
    go_wp2
    go_ret
    exact ⟨ret_bool (by rw [HT.out]), hb0⟩
  | true =>
    have HT := Lib.hid (tab_yes HS.out (by rw [LA.out]; exact HA.out) (by rw [LB.out]; exact HB.out) hnA hnB)
    go_enter Tryz.func57, Tryz.ntmps57
    go_wp2_with fail
    refine (allNumbers_eq _ t.A _ gA hnA).mono ?_
    rintro e w' ⟨rfl, rfl⟩
    go_wp2_with fail
    refine (allNumbers_eq _ t.B _ gB hnB).mono ?_
    rintro e w' ⟨rfl, rfl⟩
    go_wp2
    go_ret
    exact ⟨ret_bool (by rw [HT.out]), hb0⟩
theorem tabOk_eq {b : Bool} (v : Value) (t : TabZ) (w : World) (h : RdTab w v t) (hb : tabOkB t = b) :
    Calls Tryz.prog 57 #[v] w fun e w' => e = .returned (.bool b) ∧ Below w.heap.size w w' := hb ▸ tabOk_any v t w h

/-- What a fine tableau is, in numbers. -/
theorem tabOk_num {t : TabZ} (h : tabOkB t = true) : t.stages = (t.B.length : Int) ∧ t.A.length = t.B.length * t.B.length ∧ t.B.length ≤ 8 := by
  simp only [tabOkB, stB, Bool.and_eq_true, decide_eq_true_eq] at h
  obtain ⟨⟨⟨⟨⟨h0, h8⟩, hA⟩, hB⟩, _⟩, _⟩ := h
  refine ⟨hB.symm, ?_, by omega⟩
  rw [← hB] at hA
  have : ((t.B.length * t.B.length : Nat) : Int) = (t.B.length : Int) * t.B.length := by simp
  omega
end Go.Proofs.YtbcjhpgkodeoeaaGreatDoor

/- The reference's lists of trees: their orders and levels. Conditions: numbers of trees. -/
namespace Go.Proofs.YtbcjhpgkodeoeaaGreatDoor
open Go.RowKit

def startsL : List Int := [0, 1, 2, 4, 8, 17, 37]
def placeL : List Int := [0, 0, 2, 5, 13, 33, 87]
def ordN (k : Nat) : Nat := if k < 1 then 1 else if k < 2 then 2 else if k < 4 then 3 else if k < 8 then 4 else if k < 17 then 5 else 6
def startsZ (n : Nat) : Int := startsL[n]?.getD 0
def placeZ (n : Nat) : Int := placeL[n]?.getD 0
theorem ord_chk : ((List.range 37).all fun k => (List.range 7).all fun n => !(decide (1 ≤ n) && decide (n ≤ ordN k)) || ((!decide (startsZ n ≤ (k : Int)) || decide (n + 1 ≤ ordN k)) && (!decide ((k : Int) < startsZ n) || decide (n = ordN k)))) = true := by decide
theorem ord_step (k : Nat) (hk : k < 37) (n : Nat) (hn : n < 7) (h1 : 1 ≤ n) (h2 : n ≤ ordN k) : (startsZ n ≤ k → n + 1 ≤ ordN k) ∧ ((k : Int) < startsZ n → n = ordN k) := by
  have h := ord_chk
  simp only [List.all_eq_true, List.mem_range] at h
  have h3 := h k hk n hn
  simp only [h1, h2, decide_true, Bool.and_self, Bool.not_true, Bool.false_or, Bool.and_eq_true, Bool.or_eq_true, Bool.not_eq_true', decide_eq_false_iff_not, decide_eq_true_eq] at h3
  exact ⟨fun hs => h3.1.resolve_left (fun hn => hn hs), fun hs => h3.2.resolve_left (fun hn => hn hs)⟩
theorem ord_bd (k : Nat) : 1 ≤ ordN k ∧ ordN k ≤ 6 := by unfold ordN; split <;> (try split) <;> (try split) <;> (try split) <;> (try split) <;> omega
theorem place_bd : ∀ n, n < 7 → 0 ≤ placeZ n ∧ placeZ n ≤ 87 := by decide
theorem at_bd : ∀ k : Nat, k < 37 → 0 ≤ (k : Int) - startsZ (ordN k - 1) ∧ (k : Int) - startsZ (ordN k - 1) ≤ 36 ∧ 0 ≤ placeZ (ordN k) + ((k : Int) - startsZ (ordN k - 1)) * ((ordN k : Int) + 1) ∧ placeZ (ordN k) + ((k : Int) - startsZ (ordN k - 1)) * ((ordN k : Int) + 1) + ordN k ≤ 227 ∧ ((k : Int) - startsZ (ordN k - 1)) * ((ordN k : Int) + 1) ≤ 227 ∧ 0 ≤ ((k : Int) - startsZ (ordN k - 1)) * ((ordN k : Int) + 1) := by decide
theorem l2Tree_any (k : Nat) (hk : k < 37) (w : World) : Calls Tryz.prog 191 #[.int .i64 (k : Int)] w fun e w' => e = .returned (.bool true) ∧ w = w' := by
  have hb : inB (k : Int) 0 36 = true := by simp [inB]; omega
  have HB := Lib.hid hb
  clear hb
  go_enter Tryz.func191, Tryz.ntmps191
  go_wp2_with (go_at_call 131; ((with_reducible refine (l1In_eq' HB.out _).mono ?_); rintro e w' ⟨rfl, rfl⟩))
  go_ret
  exact ⟨rfl, rfl⟩
theorem starts_any (w : World) : Calls Tryz.prog 212 #[] w fun e w' => e = .returned (.slice (some ⟨w.heap.size, 0, none⟩) 7 7) ∧ w' = w.alloc (.cells #[.int .i64 0, .int .i64 1, .int .i64 2, .int .i64 4, .int .i64 8, .int .i64 17, .int .i64 37] 3) := by
  go_enter Tryz.func212, Tryz.ntmps212
  go_wp2
  go_ret
  exact ⟨rfl, rfl⟩
theorem count_any (n : Nat) (nz : Int) (hnz : nz = n) (hn : n < 7) (w : World) : Calls Tryz.prog 194 #[.int .i64 nz] w fun e w' => e = .returned (.int .i64 (startsZ n)) ∧ Below w.heap.size w w' := by
  have hb : inB nz 0 6 = true := by simp [inB]; omega
  have HB := Lib.hid hb
  have HC := Lib.hid (show ∀ W : World, (W.alloc (.cells #[.int .i64 0, .int .i64 1, .int .i64 2, .int .i64 4, .int .i64 8, .int .i64 17, .int .i64 37] 3)).cell? ⟨W.heap.size, nz.toNat, none⟩ = some (.int .i64 (startsZ n)) from fun W => by
    have e : nz.toNat = n := by omega
    rw [e]
    match n, hn with
    | 0, _ => simp [startsZ, startsL]
    | 1, _ => simp [startsZ, startsL]
    | 2, _ => simp [startsZ, startsL]
    | 3, _ => simp [startsZ, startsL]
    | 4, _ => simp [startsZ, startsL]
    | 5, _ => simp [startsZ, startsL]
    | 6, _ => simp [startsZ, startsL])
  have hn0 : 0 ≤ nz := by omega
  have hn7 : nz < 7 := by omega
  clear hb hnz
  go_enter Tryz.func194, Tryz.ntmps194
  go_wp2_with (first | (go_at_call 131; ((with_reducible refine (l1In_eq' HB.out _).mono ?_); rintro e w' ⟨rfl, rfl⟩)) | fail)
  refine (starts_any w).mono ?_
  rintro e w1 ⟨rfl, rfl⟩
  have hcc := HC.out w
  go_wp2
  go_ret
  exact ⟨rfl, (Below.refl _ _).alloc (Nat.le_refl _) _⟩
theorem place_any (n : Nat) (nz : Int) (hnz : nz = n) (hn : n < 7) (w : World) : Calls Tryz.prog 193 #[.int .i64 nz] w fun e w' => e = .returned (.int .i64 (placeZ n)) ∧ Below w.heap.size w w' := by
  have hcc : (w.alloc (.cells #[.int .i64 0, .int .i64 0, .int .i64 2, .int .i64 5, .int .i64 13, .int .i64 33, .int .i64 87] 3)).cell? ⟨w.heap.size, nz.toNat, none⟩ = some (.int .i64 (placeZ n)) := by
    have e : nz.toNat = n := by omega
    rw [e]
    match n, hn with
    | 0, _ => simp [placeZ, placeL]
    | 1, _ => simp [placeZ, placeL]
    | 2, _ => simp [placeZ, placeL]
    | 3, _ => simp [placeZ, placeL]
    | 4, _ => simp [placeZ, placeL]
    | 5, _ => simp [placeZ, placeL]
    | 6, _ => simp [placeZ, placeL]
  have hn0 : 0 ≤ nz := by omega
  have hn7 : nz < 7 := by omega
  clear hnz
  go_enter Tryz.func193, Tryz.ntmps193
  go_wp2
  go_ret
  exact ⟨rfl, (Below.refl _ _).alloc (Nat.le_refl _) _⟩
theorem listed_any (w : World) : Calls Tryz.prog 195 #[] w fun e w' => (∃ s : ByteArray, e = .returned (.string s) ∧ s.size = 227) ∧ w = w' := by
  go_enter Tryz.func195, Tryz.ntmps195
  go_wp2
  go_ret
  exact ⟨⟨_, rfl, by rfl⟩, rfl⟩
set_option maxHeartbeats 800000 in
theorem order_any (k : Nat) (hk : k < 37) (w : World) : Calls Tryz.prog 192 #[.int .i64 (k : Int)] w fun e w' => e = .returned (.int .i64 (ordN k : Int)) ∧ Below w.heap.size w w' := by
  have HT := Lib.hid (l2Tree_any k hk)
  have HO := Lib.hid (ord_bd k)
  go_enter Tryz.func192, Tryz.ntmps192
  go_wp2_with fail
  refine (HT.out w).mono ?_
  rintro e w1 ⟨rfl, rfl⟩
  go_wp2
  go_loopw [3] (fun sn wq => ∃ n : Nat, 1 ≤ n ∧ n ≤ ordN k ∧ sn = .int .i64 n ∧ Below w.heap.size w wq) (fun sn _ => 7 - (intOf sn).toNat)
  case atStart => exact ⟨1, by omega, HO.out.1, rfl, Below.refl _ _⟩
  case round =>
    obtain ⟨wk, rfl⟩ : ∃ W, W = wr := ⟨_, rfl⟩
    obtain ⟨n, h1, hn, rfl, hb⟩ := hrel
    have hn6 := HO.out.2
    obtain ⟨s1, s2⟩ := ord_step k hk n (by omega) h1 hn
    go_wp2_with fail
    refine (count_any n n rfl (by omega) wk).mono ?_
    rintro e w2 ⟨rfl, hb2⟩
    have HB2 := Lib.hid (hb.trans (hb2.mono hb.size))
    clear hb hb2
    by_cases hs : startsZ n ≤ (k : Int)
    · have s3 := s1 hs
      clear s1 s2
      go_wp2
      go_roundw
      case rel => exact ⟨n + 1, by omega, s3, by go_num, HB2.out⟩
      case measure => simp [intOf]; omega
    · have s3 := s2 (by omega)
      clear s1 s2
      have HE := Lib.hid s3
      clear s3
      go_wp2
      go_ret
      exact ⟨ret_int (by rw [← HE.out]), HB2.out⟩
end Go.Proofs.YtbcjhpgkodeoeaaGreatDoor

/- The reference's levels of a tree: some row. Conditions: numbers of trees. -/
namespace Go.Proofs.YtbcjhpgkodeoeaaGreatDoor
open Go.RowKit

/-- Some row of one to six numbers. -/
def GivesLev (w : World) : Ending → World → Prop := fun e w' => ∃ v xs f, e = .returned v ∧ OwnI 3 w' v xs f ∧ 1 ≤ xs.length ∧ xs.length ≤ 6 ∧ (∀ b ∈ f, w.heap.size ≤ b) ∧ Below w.heap.size w w'
set_option maxRecDepth 100000 in
set_option maxHeartbeats 3200000 in
theorem levels_any (k : Nat) (hk : k < 37) (w : World) : Calls Tryz.prog 163 #[.int .i64 (k : Int)] w (GivesLev w) := by
  obtain ⟨ji, hji, hji0, hji1, hji2⟩ := info_parts Tryz.info_int
  obtain ⟨n, hn⟩ : ∃ n, n = ordN k := ⟨_, rfl⟩
  have hnb := ord_bd k
  have hab := at_bd k hk
  rw [← hn] at hnb hab
  have HT := Lib.hid (l2Tree_any k hk)
  have HO := Lib.hid (fun W => (hn ▸ order_any k hk W : Calls Tryz.prog 192 #[.int .i64 (k : Int)] W fun e w' => e = .returned (.int .i64 (n : Int)) ∧ Below W.heap.size W w'))
  obtain ⟨P, hP⟩ : ∃ P, P = placeZ n := ⟨_, rfl⟩
  obtain ⟨S, hS⟩ : ∃ S, S = startsZ (n - 1) := ⟨_, rfl⟩
  rw [← hP, ← hS] at hab
  have HP := Lib.hid (fun W => (hP ▸ place_any n n rfl (by omega) W : Calls Tryz.prog 193 #[.int .i64 (n : Int)] W fun e w' => e = .returned (.int .i64 P) ∧ Below W.heap.size W w'))
  have HS := Lib.hid (fun W => (hS ▸ count_any (n - 1) ((n : Int) - 1) (by omega) (by omega) W : Calls Tryz.prog 194 #[.int .i64 ((n : Int) - 1)] W fun e w' => e = .returned (.int .i64 S) ∧ Below W.heap.size W w'))
  obtain ⟨Q, hQ⟩ : ∃ Q, Q = ((k : Int) - S) * ((n : Int) + 1) := ⟨_, rfl⟩
  rw [← hQ] at hab
  obtain ⟨h1, h2, h3, h4, h5, h6⟩ := hab
  have hpb := place_bd n (by omega)
  rw [← hP] at hpb
  have hwq : IntKind.i64.wrap (((k : Int) - S) * ((n : Int) + 1)) = Q := by rw [← hQ]; exact IntWalk.i64_in _ (by omega)
  have hn1 := hnb.1
  have hn6 := hnb.2
  obtain ⟨hp0, hp87⟩ := hpb
  clear hn hP hS hQ hnb
  go_enter Tryz.func163, Tryz.ntmps163
  go_wp2_with fail
  refine (HT.out w).mono ?_
  rintro e w1 ⟨rfl, rfl⟩
  go_wp2_with fail
  refine (HO.out w).mono ?_
  rintro e w1 ⟨rfl, hb1⟩
  go_wp2_with fail
  refine (HP.out w1).mono ?_
  rintro e w2 ⟨rfl, hb2⟩
  go_wp2_with fail
  refine (HS.out w2).mono ?_
  rintro e w3 ⟨rfl, hb3⟩
  have hb02 := hb1.trans (hb2.mono hb1.size)
  have hb03 := hb02.trans (hb3.mono hb02.size)
  have hal := below_lit w3 3
  have HST := Lib.hid (show OwnI 3 (w3.alloc (.cells #[] 3)) (.slice (some ⟨w3.heap.size, 0, none⟩) 0 0) [] [w3.heap.size] ∧ w.heap.size ≤ w3.heap.size ∧ Below w.heap.size w (w3.alloc (.cells #[] 3)) from ⟨own_lit w3, hb03.size, hb03.trans (hal.mono hb03.size)⟩)
  clear hb1 hb2 hb3 hb02 hb03 hal HT HO HP HS
  have hwt : IntKind.i64.wrap (P + Q) = P + Q := IntWalk.i64_in _ (by omega)
  go_wp2
  go_loopw [5, 6] (fun so si wq => ∃ (j : Nat) (ys : List Int) (f : List Nat), j ≤ n ∧ si = .int .i64 (P + Q + j) ∧ OwnI 3 wq so ys f ∧ ys.length = j ∧ (∀ b ∈ f, w.heap.size ≤ b) ∧ Below w.heap.size w wq) (fun _ si _ => (P + Q + n - intOf si).toNat)
  case atStart => exact ⟨0, [], [w3.heap.size], Nat.zero_le _, by simp, HST.out.1, rfl, by have := HST.out.2.1; simp; omega, HST.out.2.2⟩
  case round =>
    obtain ⟨wk, rfl⟩ : ∃ W, W = wr := ⟨_, rfl⟩
    obtain ⟨j, ys, f, hj, rfl, ho, hyl, hfn, hb⟩ := hrel
    clear HST
    obtain ⟨ada, la, ca, rfl, _, _, _, _, _, _⟩ := ownI_open ho
    by_cases hjl : j < n
    case neg =>
      have hjI : ¬ (P + Q + (j : Int) < P + Q + (n : Int)) := by omega
      have HO := Lib.hid ho
      clear ho
      go_wp2
      go_ret
      exact ⟨_, ys, f, rfl, HO.out, by omega, by omega, hfn, hb⟩
    have hjI : P + Q + (j : Int) < P + Q + (n : Int) := by omega
    have HO := Lib.hid ho
    have HB := Lib.hid hb
    clear ho hb
    go_wp2_with fail
    refine (listed_any wk).mono ?_
    rintro e w4 ⟨⟨sl, rfl, hsl⟩, rfl⟩
    have hix0 : 0 ≤ P + Q + (j : Int) := by omega
    have hixI : (P + Q + (j : Int)).toNat < sl.size := by omega
    have hix2 : P + Q + (j : Int) < 227 := by omega
    obtain ⟨X, hX⟩ : ∃ X : Int, (((sl[(P + Q + (j : Int)).toNat]'hixI).toNat : Int) - 48) % 256 = X := ⟨_, rfl⟩
    have hXI : I64 X := ⟨by omega, by omega⟩
    have hal := below_lit1 wk 3 X
    have HOA := Lib.hid (ownI_only HO.out (Only.of_below (fp := []) hal) (by simp))
    have HBA := Lib.hid (HB.out.trans (hal.mono HB.out.size))
    have HSRC := Lib.hid (src_lit (e := 3) wk X hXI)
    have HAL := Lib.hid (show ys.length + 1 ≤ 1000000 from by omega)
    clear hal hXI
    go_wp2_with (first | (at_builtin; refine wpList_append_I _ (by rfl) _ _ 35 3 (by rfl) ji Tryz.underlying35 hji hji0 hji1 hji2 (v := .slice ada la ca) (vx := .slice (some ⟨wk.heap.size, 0, none⟩) 1 1) (by rfl) (by rfl) HOA.out HSRC.out HAL.out ?_; intro v' w' f' hv1 hv2 hv3; obtain ⟨adv, lv, cv, rfl, _⟩ := ownI_open hv1; have HV1 := Lib.hid hv1; have HV2 := Lib.hid hv2; have HV3 := Lib.hid hv3; clear hv1 hv2 hv3))
    all_goals (
      go_roundw
      case rel =>
        refine ⟨j + 1, _, f', by omega, by go_num, HV1.out, by simp; omega, fun b hb => ?_, HBA.out.trans (HV3.out.below HBA.out.size (fun b hb => hfn b hb))⟩
        rcases HV2.out b hb with h | h
        · exact hfn b h
        · have := HBA.out.size; omega
      case measure => simp [intOf]; omega)
end Go.Proofs.YtbcjhpgkodeoeaaGreatDoor

/- What is above each node of a tree: some row of the same length. Conditions: short rows. -/
namespace Go.Proofs.YtbcjhpgkodeoeaaGreatDoor
open Go.RowKit

/-- Some row of n numbers. -/
def GivesN (n : Nat) (w : World) : Ending → World → Prop := fun e w' => ∃ v xs f, e = .returned v ∧ OwnI 3 w' v xs f ∧ xs.length = n ∧ (∀ b ∈ f, w.heap.size ≤ b) ∧ Below w.heap.size w w'
set_option maxRecDepth 100000 in
set_option maxHeartbeats 6400000 in
theorem above_any (v : Value) (xs : List Int) (w : World) (h : RdI w v xs) (hl : xs.length ≤ 1000) : Calls Tryz.prog 164 #[v] w (GivesN xs.length w) := by
  obtain ⟨ji, hji, hji0, hji1, hji2⟩ := info_parts Tryz.info_int
  obtain ⟨ad, len, cap, rfl, hll, _, _, h'⟩ := rdS_open h
  rw [hll] at hl ⊢
  have hal0 := below_lit w 3
  have HST := Lib.hid (show OwnI 3 (w.alloc (.cells #[] 3)) (.slice (some ⟨w.heap.size, 0, none⟩) 0 0) [] [w.heap.size] ∧ Below w.heap.size w (w.alloc (.cells #[] 3)) from ⟨own_lit w, hal0⟩)
  clear h hll hal0
  go_enter Tryz.func164, Tryz.ntmps164
  go_wp2
  go_loopw [3, 4] (fun so si wq => ∃ (i : Nat) (ys : List Int) (f : List Nat), i ≤ len ∧ si = .int .i64 i ∧ OwnI 3 wq so ys f ∧ ys.length = i ∧ (∀ b ∈ f, w.heap.size ≤ b) ∧ Below w.heap.size w wq) (fun _ si _ => len - (intOf si).toNat)
  case atStart => exact ⟨0, [], [w.heap.size], Nat.zero_le _, rfl, HST.out.1, rfl, by simp, HST.out.2⟩
  case round =>
    obtain ⟨wk, rfl⟩ : ∃ W, W = wr := ⟨_, rfl⟩
    obtain ⟨i, ys, f, hi, rfl, ho, hyl, hfn, hb⟩ := hrel
    clear HST
    obtain ⟨ada, la, ca, rfl, _, _, _, _, _, _⟩ := ownI_open ho
    by_cases hil : i < len
    case neg =>
      obtain rfl : i = len := by omega
      have HO := Lib.hid ho
      clear ho
      go_wp2
      go_ret
      exact ⟨_, ys, f, rfl, HO.out, hyl, hfn, hb⟩
    have hiI : (i : Int) < len := by omega
    have hwi : IntKind.i64.wrap ((i : Int) - 1) = (i : Int) - 1 := IntWalk.i64_in _ (by omega)
    have HO := Lib.hid ho
    have HB := Lib.hid hb
    clear ho hb
    go_wp2
    go_loopw [5] (fun sk wq => ∃ (kz : Int) (m : Nat), -1 ≤ kz ∧ kz < i ∧ sk = .int .i64 kz ∧ wq = wk.drewN m) (fun sk _ => (intOf sk + 1).toNat)
    case atStart => exact ⟨(i : Int) - 1, 0, by omega, by omega, by simp, rfl⟩
    case round =>
      obtain ⟨wj, rfl⟩ : ∃ W, W = wr := ⟨_, rfl⟩
      obtain ⟨kz, m, hk1, hki, rfl, hwj⟩ := hrel
      have hbj : Below wk.heap.size wk wj := hwj ▸ blw_drewN (Below.refl _ _) m
      have HWJ := Lib.hid hwj
      clear hwj
      by_cases hk0 : 0 ≤ kz
      case neg =>
        obtain rfl : kz = -1 := by omega
        go_wp2
        go_quiet (fail)
        obtain ⟨wz, hwz⟩ : ∃ W, W = wj.drewN nq := ⟨_, rfl⟩
        have hbz : Below wk.heap.size wk wz := hbj.trans ((hwz ▸ blw_drewN (Below.refl _ _) _ : Below wj.heap.size wj wz).mono hbj.size)
        rw [← hwz]
        clear hwz hbj
        have hal := below_lit1 wz 3 (-1 : Int)
        have HOA := Lib.hid (ownI_only HO.out (Only.of_below (fp := []) (hbz.trans (hal.mono hbz.size))) (by simp))
        have HBA := Lib.hid (HB.out.trans ((hbz.trans (hal.mono hbz.size)).mono HB.out.size))
        have HSRC := Lib.hid (src_lit (e := 3) wz (-1 : Int) ⟨by omega, by omega⟩)
        have HAL := Lib.hid (show ys.length + 1 ≤ 1000000 from by omega)
        have hsj := (hbz.trans (hal.mono hbz.size)).size
        clear hal hbz
        go_wp2_with (first | (at_builtin; refine wpList_append_I _ (by rfl) _ _ 35 3 (by rfl) ji Tryz.underlying35 hji hji0 hji1 hji2 (v := .slice ada la ca) (vx := .slice (some ⟨wz.heap.size, 0, none⟩) 1 1) (by rfl) (by rfl) HOA.out HSRC.out HAL.out ?_; intro v' w' f' hv1 hv2 hv3; obtain ⟨adv, lv, cv, rfl, _⟩ := ownI_open hv1; have HV1 := Lib.hid hv1; have HV2 := Lib.hid hv2; have HV3 := Lib.hid hv3; clear hv1 hv2 hv3))
        all_goals (
          go_roundw
          case rel =>
            refine ⟨i + 1, _, f', by omega, by go_num, HV1.out, by simp; omega, fun b hb => ?_, HBA.out.trans (HV3.out.below HBA.out.size (fun b hb => hfn b hb))⟩
            rcases HV2.out b hb with h | h
            · exact hfn b h
            · have := HBA.out.size; omega
          case measure => simp [intOf]; omega)
      have hbw := HB.out.trans (hbj.mono HB.out.size)
      obtain ⟨k, rfl⟩ : ∃ k : Nat, kz = k := ⟨kz.toNat, by omega⟩
      obtain ⟨b5, o5, x, rfl, _, hcx, hIx, _⟩ := rdI_get (rdI_mono hbw h') (k := k) (by omega)
      obtain ⟨b6, o6, z, he6, _, hcz, hIz, _⟩ := rdI_get (rdI_mono hbw h') (k := i) hil
      simp only [Option.some.injEq, Addr.mk.injEq, and_true] at he6
      obtain ⟨rfl, rfl⟩ := he6
      obtain ⟨q, hq⟩ : ∃ q, IntKind.i64.wrap (z - 1) = q := ⟨_, rfl⟩
      have hkl : (k : Int) < len := by omega
      clear hbw hIx hIz
      by_cases hxq : x = q
      · subst hxq
        go_wp2
        go_quiet (fail)
        obtain ⟨wz, hwz⟩ : ∃ W, W = wj.drewN nq := ⟨_, rfl⟩
        have hbz : Below wk.heap.size wk wz := hbj.trans ((hwz ▸ blw_drewN (Below.refl _ _) _ : Below wj.heap.size wj wz).mono hbj.size)
        rw [← hwz]
        clear hwz hbj hcx hcz hq
        have hal := below_lit1 wz 3 (k : Int)
        have HOA := Lib.hid (ownI_only HO.out (Only.of_below (fp := []) (hbz.trans (hal.mono hbz.size))) (by simp))
        have HBA := Lib.hid (HB.out.trans ((hbz.trans (hal.mono hbz.size)).mono HB.out.size))
        have HSRC := Lib.hid (src_lit (e := 3) wz (k : Int) ⟨by omega, by omega⟩)
        have HAL := Lib.hid (show ys.length + 1 ≤ 1000000 from by omega)
        have hsj := (hbz.trans (hal.mono hbz.size)).size
        clear hal hbz
        go_wp2_with (first | (at_builtin; refine wpList_append_I _ (by rfl) _ _ 35 3 (by rfl) ji Tryz.underlying35 hji hji0 hji1 hji2 (v := .slice ada la ca) (vx := .slice (some ⟨wz.heap.size, 0, none⟩) 1 1) (by rfl) (by rfl) HOA.out HSRC.out HAL.out ?_; intro v' w' f' hv1 hv2 hv3; obtain ⟨adv, lv, cv, rfl, _⟩ := ownI_open hv1; have HV1 := Lib.hid hv1; have HV2 := Lib.hid hv2; have HV3 := Lib.hid hv3; clear hv1 hv2 hv3))
        all_goals (
          go_roundw
          case rel =>
            refine ⟨i + 1, _, f', by omega, by go_num, HV1.out, by simp; omega, fun b hb => ?_, HBA.out.trans (HV3.out.below HBA.out.size (fun b hb => hfn b hb))⟩
            rcases HV2.out b hb with h | h
            · exact hfn b h
            · have := HBA.out.size; omega
          case measure => simp [intOf]; omega)
      · have hxb : (x != q) = true := by simpa using hxq
        go_wp2
        go_quiet (fail)
        go_wp2
        go_roundw
        case rel => exact ⟨(k : Int) - 1, _, by omega, by omega, rfl, by rw [HWJ.out, World.drewN_drewN]⟩
        case measure => (simp [intOf]; try omega)
end Go.Proofs.YtbcjhpgkodeoeaaGreatDoor

/- A monomial in a box of its own that is being filled. Conditions: none. -/
namespace Go.Proofs.YtbcjhpgkodeoeaaGreatDoor
open Go.RowKit

/-- A monomial in a box of its own that is being filled. -/
structure PBox (e : Nat) (W wr : World) (B gq n cap : Nat) (c : Int) (ps : List Int) : Prop where
  c0 : wr.cell? ⟨B, 0, none⟩ = some (.int .i64 c)
  c1 : wr.cell? ⟨B, 1, none⟩ = some (.slice (some ⟨gq, 0, none⟩) n cap)
  own : OwnI e wr (.slice (some ⟨gq, 0, none⟩) n cap) ps [gq]
  len : ps.length = n
  ne : gq ≠ B
  hB : W.heap.size ≤ B
  hq : W.heap.size ≤ gq
  below : Below W.heap.size W wr
theorem PBox.set {e B gq n cap : Nat} {W wr : World} {c y : Int} {ps : List Int} (h : PBox e W wr B gq n cap c ps) {v : Nat} (hv : v < n) (hy : I64 y) :
    (∃ u, wr.cell? ⟨gq, v, none⟩ = some u) ∧ wr.frozen? ⟨gq, v, none⟩ = false ∧ PBox e W (wr.setCell ⟨gq, v, none⟩ (.int .i64 y)) B gq n cap c (ps.set v y) := by
  have hO : Only [gq] wr (wr.setCell ⟨gq, v, none⟩ (.int .i64 y)) := (Only.refl _ _).setCell (by simp) _
  have hl := h.len
  have hown := h.own.1
  rw [hl] at hown
  have hs := (hown.stored v (.int .i64 y)).1
  have hne := h.ne
  refine ⟨?_, hown.frozenAt v, cell_only hO (by simp; omega) h.c0, cell_only hO (by simp; omega) h.c1, ⟨?_, rfl, fun z hz => ?_⟩, by rw [List.length_set, hl], h.ne, h.hB, h.hq, h.below.setCell h.hq _⟩
  · rw [hown.cellAt v (by omega)]
    exact ⟨_, List.getElem?_eq_getElem (by rw [List.length_map]; omega)⟩
  · rw [List.length_set, hl, List.map_set]; exact hs
  · rcases List.mem_or_eq_of_mem_set hz with hz | rfl
    · exact h.own.2.2 z hz
    · exact hy
theorem PBox.step {e B gq n cap : Nat} {W wr w2 : World} {c : Int} {ps : List Int} (h : PBox e W wr B gq n cap c ps) (hb : Below wr.heap.size wr w2) : PBox e W w2 B gq n cap c ps :=
  ⟨cell_below hb h.c0, cell_below hb h.c1, ownI_only h.own (Only.of_below (fp := []) hb) (by simp), h.len, h.ne, h.hB, h.hq, h.below.trans (hb.mono h.below.size)⟩
end Go.Proofs.YtbcjhpgkodeoeaaGreatDoor

/- The cursor of the draws: what its block holds, and what a draw may change. No program's step stands here. -/
namespace Go.Proofs.YtbcjhpgkodeoeaaGreatDoor
open Go.RowKit

theorem mask255 (n : Int) : bits .and .i64 n 255 = n % 256 := by
  have h127 : (BitVec.ofInt 64 255).toNat = 2 ^ 8 - 1 := by decide
  have key : (BitVec.ofInt 64 n &&& BitVec.ofInt 64 255).toNat = (n % ((2 ^ 64 : Nat) : Int)).toNat % 2 ^ 8 := by
    rw [BitVec.toNat_and, BitVec.toNat_ofInt, h127, Nat.and_two_pow_sub_one_eq_mod]
  show IntKind.i64.wrap ((BitVec.ofInt 64 n &&& BitVec.ofInt 64 255).toNat : Nat) = n % 256
  rw [key, IntKind.wrap_i64]
  omega
theorem mask30 (n : Int) : bits .and .i64 n 1073741823 = n % 1073741824 := by
  have h127 : (BitVec.ofInt 64 1073741823).toNat = 2 ^ 30 - 1 := by decide
  have key : (BitVec.ofInt 64 n &&& BitVec.ofInt 64 1073741823).toNat = (n % ((2 ^ 64 : Nat) : Int)).toNat % 2 ^ 30 := by
    rw [BitVec.toNat_and, BitVec.toNat_ofInt, h127, Nat.and_two_pow_sub_one_eq_mod]
  show IntKind.i64.wrap ((BitVec.ofInt 64 n &&& BitVec.ofInt 64 1073741823).toNat : Nat) = n % 1073741824
  rw [key, IntKind.wrap_i64]
  omega

/-- a byte -/
def ElB (_ : World) (us : List Value) (x : Int) : Prop := us = [.int .u8 x] ∧ 0 ≤ x ∧ x < 256
abbrev RdB := RdS 1 ElB

/-- The cursor in block g: the bytes, the place, the number; B: the worlds' size before it was made. -/
structure Cur (w : World) (g : Nat) : Prop where
  lt : g < w.heap.size
  some : ∃ (w0 : World) (v : Value) (xs : List Int) (i : Nat) (h : Int), w0.heap.size ≤ g ∧ Below w0.heap.size w0 w ∧ RdB w0 v xs ∧ I64 h ∧ i ≤ xs.length ∧
    w.cell? ⟨g, 0, none⟩ = some v ∧ w.cell? ⟨g, 1, none⟩ = some (.int .i64 i) ∧ w.cell? ⟨g, 2, none⟩ = some (.int .i64 h) ∧
    w.frozen? ⟨g, 0, none⟩ = false ∧ w.frozen? ⟨g, 1, none⟩ = false ∧ w.frozen? ⟨g, 2, none⟩ = false
theorem Cur.only {w w' : World} {g : Nat} {fp : List Nat} (h : Cur w g) (ho : Only fp w w') (hd : g ∉ fp) (hf : ∀ b ∈ fp, g ≤ b) : Cur w' g := by
  obtain ⟨hl, w0, v, xs, i, k, h1, h2, h3, h4, h5, h6, h7, h8, f0, f1, f2⟩ := h
  have hfr : ∀ c, w'.frozen? ⟨g, c, none⟩ = w.frozen? ⟨g, c, none⟩ := fun c => World.frozen?_of_block (ho.block _ hl hd)
  exact ⟨Nat.lt_of_lt_of_le hl ho.size, w0, v, xs, i, k, h1, h2.trans (ho.below h2.size (fun b hb => Nat.le_trans h1 (hf b hb))), h3, h4, h5, cell_only ho hd h6, cell_only ho hd h7, cell_only ho hd h8, (hfr 0).trans f0, (hfr 1).trans f1, (hfr 2).trans f2⟩
theorem Cur.below {w w' : World} {g : Nat} (h : Cur w g) (hb : Below w.heap.size w w') : Cur w' g := h.only (fp := []) (Only.of_below hb) (by simp) (by simp)
/-- What a draw changes: the cursor alone. -/
structure Drawn (g : Nat) (w w' : World) : Prop where
  only : Only [g] w w'
  cur : Cur w' g
theorem Drawn.trans {g : Nat} {a b c : World} (h : Drawn g a b) (k : Drawn g b c) : Drawn g a c := ⟨h.only.trans k.only, k.cur⟩
theorem Drawn.refl {g : Nat} {w : World} (h : Cur w g) : Drawn g w w := ⟨Only.refl _ _, h⟩
theorem Drawn.below {g : Nat} {a b c : World} (h : Drawn g a b) (k : Below b.heap.size b c) : Drawn g a c := ⟨h.only.trans (Only.of_below k), h.cur.below k⟩
/-- A number from 0 to n - 1 is drawn. -/
def Draws (g n : Nat) (w : World) : Ending → World → Prop := fun e w' => ∃ x : Nat, e = .returned (.int .i64 x) ∧ x < n ∧ Drawn g w w'
end Go.Proofs.YtbcjhpgkodeoeaaGreatDoor
