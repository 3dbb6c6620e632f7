/- The texts DAt, OwnR, TOk, RowT, StA in one: each says at its head what it proves. Conditions: as said there. -/
import Derived.Test.YtbcjhpgkodeoeaaGreatDoorK16
import Derived.Test.YtbcjhpgkodeoeaaGreatDoorK13
import Derived.Test.YtbcjhpgkodeoeaaGreatDoorK02
import Derived.Test.YtbcjhpgkodeoeaaGreatDoorK04
set_option linter.unusedSimpArgs false
set_option linter.unusedVariables false
/- DerivativeAt of the program and of the reference. Conditions: lengths of slices up to 2^20. -/
namespace Go.Proofs.YtbcjhpgkodeoeaaGreatDoor
open Go.RowKit Go.Sort

-- slices of slices of slices of the call's own
def OElIII (e1 e : Nat) (w : World) (us : List Value) (x : List (List Int)) (fp : List Nat) : Prop := ∃ u, us = [u] ∧ OwnII e1 e w u x fp
def OwnIII (e2 e1 e : Nat) : World → Value → List (List (List Int)) → List Nat → Prop := OwnS e2 1 (OElIII e1 e)
theorem oelIII_only {e1 e : Nat} {w w' : World} {us : List Value} {x : List (List Int)} {fp fp' : List Nat} (h : OElIII e1 e w us x fp) (ho : Only fp' w w') (hd : ∀ g ∈ fp, g ∉ fp') : OElIII e1 e w' us x fp := by
  obtain ⟨u, rfl, h⟩ := h
  exact ⟨u, rfl, ownII_only h ho hd⟩
theorem oelIII_lt {e1 e : Nat} {w : World} {us : List Value} {x : List (List Int)} {fp : List Nat} (h : OElIII e1 e w us x fp) : ∀ g ∈ fp, g < w.heap.size := by
  obtain ⟨u, rfl, h⟩ := h
  exact ownII_lt h
theorem ownIII_rd {e2 e1 e : Nat} {w : World} {v : Value} {xs : List (List (List Int))} {fp : List Nat} (h : OwnIII e2 e1 e w v xs fp) : RdIII w v xs :=
  ownS_rd (fun _ _ _ ⟨u, hu, h⟩ => ⟨u, hu, ownII_rd h⟩) h
theorem ownII_nodup {e1 e : Nat} {w : World} {v : Value} {xs : List (List Int)} {fp : List Nat} (h : OwnII e1 e w v xs fp) : fp.Nodup := by
  obtain ⟨_, _, _, _, _, _, h⟩ := h
  exact h
theorem ownIII_push {e2 e1 e : Nat} {W wr wq w1 w2 : World} {v v' p : Value} {xs : List (List (List Int))} {ys : List (List Int)} {f : List Nat} {us : List (List Value)} {fs : List Nat} {n : Nat}
    (hone : ∀ u ∈ us, u.length = 1) (hels : OwnEls (OElIII e1 e) wr us xs fs) (hnd : (v.ownBlock.toList ++ fs).Nodup) (hown0 : wr.ownsRow 0 e2 1 v xs.length us.flatten) (hn : xs.length = n)
    (hp : OwnII e1 e wq p ys f) (hf : ∀ b ∈ f, wr.heap.size ≤ b) (hfp : ∀ b ∈ v.ownBlock.toList ++ fs, W.heap.size ≤ b) (hW : Below W.heap.size W wr) (hq : Below wr.heap.size wr wq)
    (h1 : Below wq.heap.size wq w1) (hown : w2.ownsRow 0 e2 1 v' (n + 1) (us.flatten ++ [p])) (hg : w1.grownBy w2 v.ownBlock) (hv : ∀ b, v'.ownBlock = some b → v.ownBlock = some b ∨ w1.heap.size ≤ b) :
    ∃ fp', OwnIII e2 e1 e w2 v' (xs ++ [ys]) fp' ∧ (∀ b ∈ fp', W.heap.size ≤ b) ∧ Below W.heap.size W w2 := by
  have hlt : ∀ b ∈ v.ownBlock.toList ++ fs, b < wr.heap.size := fun b hb => by
    simp only [List.mem_append, Option.mem_toList] at hb
    rcases hb with hb | hb
    · exact (hown0.lt b hb).2
    · exact ownEls_lt (fun _ _ _ h => oelIII_lt h) hels b hb
  refine ownS_push (El := OElIII e1 e) (W := W) (w := wq) (w1 := w1) (f := f) (fs := fs) (fun w w' u x f g h ho hd => oelIII_only h ho hd) hone (ownEls_only (fun u x f' h hd => oelIII_only h (Only.of_below (fp := []) hq) hd) hels (by simp)) hnd ⟨p, rfl, hp⟩ rfl
    (fun b hb hm => by have := hf b hb; have := hlt b hm; omega) (ownII_nodup hp) (ownII_lt hp) (fun b hb => by have := hlt b (by simp [hb]); have := hq.size; omega) hn (fun b hb => ?_) (hW.trans (hq.mono hW.size)) h1 hown hg hv
  rw [List.mem_append] at hb
  rcases hb with hb | hb
  · exact hfp b hb
  · have := hf b hb
    have := hW.size
    omega
theorem Tryz.info_jets : (Tryz.prog.info? 83).map (fun i => (i.zero, i.size, i.bytes)) = some (some (.slice none 0 0), 1, 24) := by kernel_rfl
theorem points_at (v : Value) (xs : List (List Int)) (n : Nat) (nz : Int) (w : World) (hz : nz = (n : Int)) (h : RdII w v xs) (hn : n ≤ 7) (hx7 : xs.length ≤ 7) (hrow : ∀ y ∈ xs, y.length = n) :
    Calls Tryz.prog 58 #[v, .int .i64 nz] w (Gives (fun w' v fp => OwnII 35 3 w' v (turnZ xs n) fp) w) := by
  subst hz
  exact points_any v xs n w h hn hx7 hrow
/-- A slice of one row that was just laid. -/
theorem rdII_one {w W : World} {t : TypeId} {u : Value} {y : List Int} (h : RdI w u y) (hW : W = w.alloc (.cells #[u] t)) : RdII W (.slice (some ⟨w.heap.size, 0, none⟩) 1 1) [y] := by
  have hb : Below w.heap.size w W := hW ▸ (Below.refl _ _).alloc (Nat.le_refl _) _
  refine ⟨_, _, rfl, Nat.le_refl _, by omega, fun _ => ⟨_, _, rfl, fun i x hx => ?_⟩⟩
  cases i with
  | zero =>
    simp at hx
    subst hx
    refine ⟨[u], rfl, fun j z hz => ?_, u, rfl, rdI_mono hb h⟩
    cases j with
    | zero => simp at hz; subst hz; rw [hW]; simp
    | succ j => simp at hz
  | succ i => simp at hx
end Go.Proofs.YtbcjhpgkodeoeaaGreatDoor

/- Slices of the call's own whose elements are only read, wherever these lie. Conditions: none. -/
namespace Go.Proofs.YtbcjhpgkodeoeaaGreatDoor
open Go.RowKit Go.Sort

/-- Read so whatever is written to one block. -/
def Apart {β : Type} (Rd : World → Value → β → Prop) (g : Nat) (w : World) (u : Value) (x : β) : Prop := ∀ w', Only [g] w w' → Rd w' u x
section
variable {β : Type} {Rd : World → Value → β → Prop} {g g' : Nat} {w w' w1 : World} {u : Value} {x : β}
theorem Apart.now (h : Apart Rd g w u x) : Rd w u x := h w (Only.refl _ _)
theorem Apart.step (h : Apart Rd g w u x) (ho : Only [g] w w') : Apart Rd g w' u x := fun w'' h' => h w'' (ho.trans h')
theorem Apart.bel (h : Apart Rd g w u x) (hb : Below w.heap.size w w') : Apart Rd g w' u x := h.step (Only.of_below hb)
theorem only_fresh {fp : List Nat} {w w' : World} (h : Only (g' :: fp) w w') (hg : w.heap.size ≤ g') : Only fp w w' :=
  ⟨h.os, h.tape, h.output, h.size, fun k hk hn => h.block k hk (by simp only [List.mem_cons, not_or]; exact ⟨by omega, hn⟩)⟩
theorem apart_old (hm : ∀ w w' u x, Below w.heap.size w w' → Rd w u x → Rd w' u x) (h : Rd w u x) (hb : Below w.heap.size w w1) (hg : w.heap.size ≤ g) : Apart Rd g w1 u x := fun w' ho =>
  hm _ _ _ _ (hb.trans (ho.below hb.size (by simpa using hg))) h
theorem apart_I {e : Nat} {xs : List Int} {f : List Nat} (h : OwnI e w u xs f) (hg : g ∉ f) : Apart RdI g w u xs := fun w' ho =>
  ownI_rd (ownI_only h ho (fun b hb hm => hg (List.mem_singleton.1 hm ▸ hb)))
theorem apart_II {e1 e : Nat} {xs : List (List Int)} {f : List Nat} (h : OwnII e1 e w u xs f) (hg : g ∉ f) : Apart RdII g w u xs := fun w' ho =>
  ownII_rd (ownII_only h ho (fun b hb hm => hg (List.mem_singleton.1 hm ▸ hb)))
end

/-- A slice of the call's own whose elements take one cell each and are only read; they lie apart from it. -/
def OwnR {β : Type} (Rd : World → Value → β → Prop) (e : Nat) (w : World) (v : Value) (xs : List β) : Prop :=
  ∃ us : List Value, w.ownsRow 0 e 1 v xs.length us ∧ us.length = xs.length ∧ ∀ (j : Nat) x u, xs[j]? = some x → us[j]? = some u → Rd w u x ∧ ∀ g, v.ownBlock = some g → Apart Rd g w u x
section
variable {β : Type} {Rd : World → Value → β → Prop} {w w' : World} {v : Value} {xs : List β} {e : Nat}
theorem ownR_lit : OwnR Rd e (w.alloc (.cells #[] e)) (.slice (some ⟨w.heap.size, 0, none⟩) 0 0) ([] : List β) :=
  ⟨[], by simpa using World.ownsRow_lit (base := 0) (e := e) (size := 1) w #[] 0 (Nat.zero_le _) (Nat.zero_le _) rfl, rfl, by simp⟩
theorem rd_only (hm : ∀ w w' u x, Below w.heap.size w w' → Rd w u x → Rd w' u x) {u : Value} {x : β} {o : Option Nat} (h : Rd w u x ∧ ∀ g, o = some g → Apart Rd g w u x) (ho : Only o.toList w w') : Rd w' u x := by
  cases o with
  | none => exact hm _ _ _ _ (ho.below (Nat.le_refl _) (by simp)) h.1
  | some g => exact h.2 g rfl w' ho
theorem ownR_rd (h : OwnR Rd e w v xs) : RdS 1 (fun w us x => ∃ u, us = [u] ∧ Rd w u x) w v xs := by
  obtain ⟨us, hown, hul, hall⟩ := h
  have hown' := hown
  obtain ⟨hlen, ⟨rfl, h2⟩ | ⟨g, cap, cur, rfl, _, _, h4, h5, _⟩⟩ := hown
  · exact ⟨none, 0, by rw [h2], by omega, by omega, fun hp => by omega⟩
  · refine ⟨_, cap, rfl, h4, h5, fun _ => ⟨g, 0, rfl, fun i x hx => ?_⟩⟩
    have hi := (List.getElem?_eq_some_iff.1 hx).1
    have hu : us[i]? = some us[i] := List.getElem?_eq_getElem (by omega)
    refine ⟨[us[i]], rfl, fun j y hj => ?_, us[i], rfl, (hall i x _ hx hu).1⟩
    match j, hj with
    | 0, hj =>
      simp only [List.getElem?_cons_zero, Option.some.injEq] at hj
      subst hj
      rw [show (0 + i * 1 + 0) = i by omega, hown'.cellAt i (by omega), hu]
/-- Behind an append of one element that has been read. -/
theorem ownR_push (hm : ∀ w w' u x, Below w.heap.size w w' → Rd w u x → Rd w' u x) {W w1 w1b w2 : World} {us : List Value} {v' u : Value} {x : β} {n : Nat}
    (hul : us.length = xs.length) (hn : xs.length = n) (hall : ∀ (j : Nat) x u, xs[j]? = some x → us[j]? = some u → Rd w u x ∧ ∀ g, v.ownBlock = some g → Apart Rd g w u x)
    (hx : Rd w1 u x) (hxa : ∀ g, v.ownBlock = some g → Apart Rd g w1 u x) (hv0 : ∀ g, v.ownBlock = some g → W.heap.size ≤ g) (hW : Below W.heap.size W w) (hb : Below w.heap.size w w1) (hb1 : Below w1.heap.size w1 w1b)
    (hown : w2.ownsRow 0 e 1 v' (n + 1) (us ++ [u])) (hg : w1b.grownBy w2 v.ownBlock) (hv : ∀ g, v'.ownBlock = some g → v.ownBlock = some g ∨ w1b.heap.size ≤ g) :
    OwnR Rd e w2 v' (xs ++ [x]) ∧ (∀ g, v'.ownBlock = some g → W.heap.size ≤ g) ∧ Below W.heap.size W w2 := by
  subst hn
  have hO1 : Only v.ownBlock.toList w1b w2 := ⟨hg.os, hg.tape, hg.output, hg.size, fun k hk hn => hg.block k hk (fun e => hn (by rw [← e]; simp))⟩
  have hOx : Only v.ownBlock.toList w1 w2 := (Only.of_below hb1).trans hO1
  have hO : Only v.ownBlock.toList w w2 := (Only.of_below hb).trans hOx
  have hs1 := hb1.size
  have hs := hb.size
  have key : ∀ {wa : World} {u : Value} {x : β}, (Rd wa u x ∧ ∀ g, v.ownBlock = some g → Apart Rd g wa u x) → Only v.ownBlock.toList wa w2 → wa.heap.size ≤ w1b.heap.size → Rd w2 u x ∧ ∀ g, v'.ownBlock = some g → Apart Rd g w2 u x := by
    intro wa u x h ho hsz
    refine ⟨rd_only hm h ho, fun g hg' w'' h' => ?_⟩
    rcases hv g hg' with hv | hv
    · rw [hv] at h ho
      exact (h.2 g rfl).step ho w'' h'
    · refine rd_only hm h (only_fresh (g' := g) ((ho.mono (by intro b hb; simp [hb])).trans (h'.mono (by intro b hb; simp at hb; simp [hb]))) (by omega))
  refine ⟨⟨us ++ [u], by simpa using hown, by simp [hul], fun j y z hy hz => ?_⟩, fun g hg' => ?_, (hW.trans ((hb.trans (hb1.mono hb.size)).mono hW.size)).grown hg (by have := hW.size; omega) hv0⟩
  · rcases Nat.lt_or_ge j xs.length with hj | hj
    · rw [List.getElem?_append_left hj] at hy
      rw [List.getElem?_append_left (by omega)] at hz
      exact key (hall j y z hy hz) hO (by omega)
    · rw [List.getElem?_append_right hj] at hy
      rw [List.getElem?_append_right (by omega), hul] at hz
      have h0 : j - xs.length = 0 := by
        have := (List.getElem?_eq_some_iff.1 hy).1
        simp at this
        omega
      rw [h0] at hy hz
      simp at hy hz
      subst hy hz
      exact key ⟨hx, hxa⟩ hOx hs1
  · rcases hv g hg' with hv | hv
    · exact hv0 g hv
    · have := hW.size; omega
end
theorem rdI_mono' : ∀ (w w' : World) (u : Value) (x : List Int), Below w.heap.size w w' → RdI w u x → RdI w' u x := fun _ _ _ _ hb h => rdI_mono hb h
theorem ownR_rdII {e : Nat} {w : World} {v : Value} {xs : List (List Int)} (h : OwnR RdI e w v xs) : RdII w v xs := ownR_rd h
/-- What a call returns that may be old or new; it lies apart from all that was made between. -/
def GivesR {β : Type} (Rd : World → Value → β → Prop) (B : Nat) (w : World) (x : β) : Ending → World → Prop := fun e w' =>
  ∃ v, e = .returned v ∧ Rd w' v x ∧ (∀ g, B ≤ g → g < w.heap.size → Apart Rd g w' v x) ∧ Below w.heap.size w w'
end Go.Proofs.YtbcjhpgkodeoeaaGreatDoor

/- The tests on tableaus, of the program and of the reference: what they return. Conditions: none. -/
namespace Go.Proofs.YtbcjhpgkodeoeaaGreatDoor
open Go.RowKit Go.Sort

def stB (s : Int) : Bool := decide (0 ≤ s ∧ s ≤ 8)
def tabOkB (t : TabZ) : Bool := stB t.stages && decide ((t.A.length : Int) = t.stages * t.stages) && decide ((t.B.length : Int) = t.stages) && t.A.all isNumB && t.B.all isNumB
theorem tab_st {t : TabZ} (h : stB t.stages = false) : tabOkB t = false := by simp [tabOkB, h]
theorem tab_A {t : TabZ} (h : (t.A.length : Int) ≠ t.stages * t.stages) : tabOkB t = false := by simp [tabOkB, h]
theorem tab_B {t : TabZ} (h : (t.B.length : Int) ≠ t.stages) : tabOkB t = false := by simp [tabOkB, h]
theorem tab_nA {t : TabZ} (h : t.A.all isNumB = false) : tabOkB t = false := by rw [tabOkB, h]; simp
theorem tab_nB {t : TabZ} (h : t.B.all isNumB = false) : tabOkB t = false := by rw [tabOkB, h]; simp
theorem tab_yes {t : TabZ} (h0 : stB t.stages = true) (h1 : (t.A.length : Int) = t.stages * t.stages) (h2 : (t.B.length : Int) = t.stages) (h3 : t.A.all isNumB = true) (h4 : t.B.all isNumB = true) : tabOkB t = true := by
  rw [tabOkB, h0, h3, h4, decide_eq_true h1, decide_eq_true h2]; rfl
theorem sq_bd {s : Int} (h0 : 0 ≤ s) (h1 : s ≤ 8) : 0 ≤ s * s ∧ s * s ≤ 64 := by
  have := Int.mul_nonneg h0 h0
  have := Int.mul_le_mul h1 h1 h0 (by omega : (0:Int) ≤ 8)
  omega
theorem allNumbers_eq {b : Bool} (v : Value) (xs : List Int) (w : World) (h : RdI w v xs) (hb : xs.all isNumB = b) :
    Calls Tryz.prog 116 #[v] w fun e w' => e = .returned (.bool b) ∧ w = w' := hb ▸ allNumbers_any v xs w h
set_option maxHeartbeats 1600000 in
theorem tabOk_any (v : Value) (t : TabZ) (w : World) (h : RdTab w v t) :
    Calls Tryz.prog 57 #[v] w fun e w' => e = .returned (.bool (tabOkB t)) ∧ Below w.heap.size w w' := by
  obtain ⟨vA, vB, rfl, hI, hA, hB⟩ := h
  have hb0 : Below w.heap.size w (w.alloc (.cells #[.int .i64 t.stages, vA, vB] 37)) := (Below.refl _ _).alloc (Nat.le_refl _) _
  have gA := rdI_mono hb0 hA
  have gB := rdI_mono hb0 hB
  obtain ⟨aA, nA, cA, rfl, lA, _, _, _⟩ := rdS_open hA
  obtain ⟨aB, nB, cB, rfl, lB, _, _, _⟩ := rdS_open hB
  have LA := Lib.hid lA
  have LB := Lib.hid lB
  clear hA hB lA lB
  by_cases h0 : 0 ≤ t.stages
  case neg =>
    have HT := Lib.hid (tab_st (t := t) (by simp [stB]; omega))
    go_enter Tryz.func57, Tryz.ntmps57
    go_wp2
    go_ret
    exact ⟨ret_bool (by rw [HT.out]), hb0⟩
  by_cases h8 : t.stages ≤ 8
  case neg =>
    have HT := Lib.hid (tab_st (t := t) (by simp [stB]; omega))
    go_enter Tryz.func57, Tryz.ntmps57
    go_wp2
    go_ret
    exact ⟨ret_bool (by rw [HT.out]), hb0⟩
  have HS := Lib.hid (show stB t.stages = true by simp [stB]; omega)
  obtain ⟨q0, q1⟩ := sq_bd h0 h8
  by_cases hAl : (nA : Int) = t.stages * t.stages
  case neg =>
    have HT := Lib.hid (tab_A (t := t) (by rw [LA.out]; exact hAl))
    have hAb : ((nA : Int) == t.stages * t.stages) = false := by simpa using hAl
    clear hAl
    go_enter Tryz.func57, Tryz.ntmps57
    go_wp2
    go_ret
    exact ⟨ret_bool (by rw [HT.out]), hb0⟩
  have HA := Lib.hid hAl
  have hAb : ((nA : Int) == t.stages * t.stages) = true := by simpa using hAl
  clear hAl
  by_cases hBl : (nB : Int) = t.stages
  case neg =>
    have HT := Lib.hid (tab_B (t := t) (by rw [LB.out]; exact hBl))
    have hBb : ((nB : Int) == t.stages) = false := by simpa using hBl
    clear hBl
    go_enter Tryz.func57, Tryz.ntmps57
    go_wp2
    go_ret
    exact ⟨ret_bool (by rw [HT.out]), hb0⟩
  have HB := Lib.hid hBl
  have hBb : ((nB : Int) == t.stages) = true := by simpa using hBl
  clear hBl
  cases hnA : t.A.all isNumB with
  | false =>
    have HT := Lib.hid (tab_nA hnA)
    go_enter Tryz.func57, Tryz.ntmps57
    go_wp2_with (go_at_call 116; ((with_reducible refine (allNumbers_eq _ t.A _ gA hnA).mono ?_); rintro e w' ⟨rfl, rfl⟩))
    go_ret
    exact ⟨ret_bool (by rw [HT.out]), hb0⟩
  | true =>
  cases hnB : t.B.all isNumB with
  | false =>
    have HT := Lib.hid (tab_nB hnB)
    go_enter Tryz.func57, Tryz.ntmps57
    go_wp2_with fail
    refine (allNumbers_eq _ t.A _ gA hnA).mono ?_
    rintro e w' ⟨rfl, rfl⟩
    go_wp2_with fail
    refine (allNumbers_eq _ t.B _ gB hnB).mono ?_
    rintro e w' ⟨rfl, rfl⟩
    go_wp2
    go_ret
    exact ⟨ret_bool (by rw [HT.out]), hb0⟩
  | true =>
    have HT := Lib.hid (tab_yes HS.out (by rw [LA.out]; exact HA.out) (by rw [LB.out]; exact HB.out) hnA hnB)
    go_enter Tryz.func57, Tryz.ntmps57
    go_wp2_with fail
    refine (allNumbers_eq _ t.A _ gA hnA).mono ?_
    rintro e w' ⟨rfl, rfl⟩
    go_wp2_with fail
    refine (allNumbers_eq _ t.B _ gB hnB).mono ?_
    rintro e w' ⟨rfl, rfl⟩
    go_wp2
    go_ret
    exact ⟨ret_bool (by rw [HT.out]), hb0⟩
theorem tabOk_eq {b : Bool} (v : Value) (t : TabZ) (w : World) (h : RdTab w v t) (hb : tabOkB t = b) :
    Calls Tryz.prog 57 #[v] w fun e w' => e = .returned (.bool b) ∧ Below w.heap.size w w' := hb ▸ tabOk_any v t w h

/-- What a fine tableau is, in numbers. -/
theorem tabOk_num {t : TabZ} (h : tabOkB t = true) : t.stages = (t.B.length : Int) ∧ t.A.length = t.B.length * t.B.length ∧ t.B.length ≤ 8 := by
  simp only [tabOkB, stB, Bool.and_eq_true, decide_eq_true_eq] at h
  obtain ⟨⟨⟨⟨⟨h0, h8⟩, hA⟩, hB⟩, _⟩, _⟩ := h
  refine ⟨hB.symm, ?_, by omega⟩
  rw [← hB] at hA
  have : ((t.B.length * t.B.length : Nat) : Int) = (t.B.length : Int) * t.B.length := by simp
  omega
end Go.Proofs.YtbcjhpgkodeoeaaGreatDoor

/- A row of a tableau. Conditions: a valid tableau. -/
namespace Go.Proofs.YtbcjhpgkodeoeaaGreatDoor
open Go.RowKit

/-- What a call returns that lies in what was there. -/
def GivesV {β : Type} (Rd : World → Value → β → Prop) (w : World) (x : β) : Ending → World → Prop := fun e w' =>
  ∃ v, e = .returned v ∧ Rd w' v x ∧ Below w.heap.size w w'
/-- a row of A -/
def rowZ (A : List Int) (n i : Nat) : List Int := (A.drop (i * n)).take n
theorem rowZ_at {A : List Int} {n i j : Nat} (hj : j < n) : atZ (rowZ A n i) j = atZ A (i * n + j) := by
  unfold rowZ atZ
  rw [List.getElem?_take_of_lt hj, List.getElem?_drop]
theorem rowZ_len {A : List Int} {n i : Nat} (hA : A.length = n * n) (hi : i < n) : (rowZ A n i).length = n := by
  have : (i + 1) * n ≤ n * n := Nat.mul_le_mul_right n hi
  rw [Nat.succ_mul] at this
  rw [rowZ, List.length_take, List.length_drop]
  omega
theorem rdI_part {w : World} {b off len cap : Nat} {xs : List Int} (h : RdI w (.slice (some ⟨b, off, none⟩) len cap) xs) {lo n : Nat} (hl : lo + n ≤ len) : RdI w (.slice (some ⟨b, off + lo, none⟩) n (cap - lo)) ((xs.drop lo).take n) := by
  obtain ⟨ad', cap', he, h1, h2, h3⟩ := h
  injection he with e1 e2 e3
  subst e2 e3
  have hlen : ((xs.drop lo).take n).length = n := by rw [List.length_take, List.length_drop]; omega
  refine ⟨_, _, by rw [hlen], by rw [hlen]; omega, by omega, fun hp => ⟨b, off + lo, rfl, fun i x hx => ?_⟩⟩
  obtain ⟨b', o', hb, hc⟩ := h3 (by rw [hlen] at hp; omega)
  rw [← e1] at hb
  simp only [Option.some.injEq, Addr.mk.injEq] at hb
  obtain ⟨rfl, rfl, _⟩ := hb
  have hi := (List.getElem?_eq_some_iff.1 hx).1
  rw [hlen] at hi
  rw [List.getElem?_take_of_lt hi, List.getElem?_drop] at hx
  obtain ⟨us, hs, hu, hE⟩ := hc (lo + i) x hx
  exact ⟨us, hs, fun j u hj => by have := hu j u hj; rwa [show off + lo + i * 1 + j = off + (lo + i) * 1 + j by omega], hE⟩
theorem row_bd {n i : Nat} (hi : i < n) (hn : n ≤ 8) : 0 ≤ (i : Int) * n ∧ (i : Int) * n ≤ 64 ∧ ((i : Int) * n).toNat = i * n ∧ ((i : Int) + 1) * n = (i : Int) * n + n ∧ i * n + n ≤ n * n ∧ ((n * n : Nat) : Int) ≤ 64 ∧ ((i * n : Nat) : Int) = (i : Int) * n := by
  have h1 : i * n ≤ 8 * 8 := Nat.mul_le_mul (by omega) hn
  have h2 : ((i * n : Nat) : Int) = (i : Int) * n := by simp
  have h3 : (i + 1) * n ≤ n * n := Nat.mul_le_mul_right n hi
  have h4 : n * n ≤ 8 * 8 := Nat.mul_le_mul hn hn
  rw [Nat.succ_mul] at h3
  refine ⟨by omega, by omega, by omega, ?_, h3, by omega, h2⟩
  rw [Int.add_mul, Int.one_mul]
set_option maxRecDepth 100000 in
set_option maxHeartbeats 1600000 in
theorem row_any (v : Value) (t : TabZ) (w : World) (h : RdTab w v t) (hok : tabOkB t = true) {i : Nat} (hi : i < t.B.length) :
    Calls Tryz.prog 118 #[v, .int .i64 i] w (GivesV RdI w (rowZ t.A t.B.length i)) := by
  obtain ⟨vA, vB, rfl, hI, hA, hB⟩ := h
  obtain ⟨hs, hAn, hn8⟩ := tabOk_num hok
  obtain ⟨n, hn⟩ : ∃ n, n = t.B.length := ⟨_, rfl⟩
  rw [← hn] at hs hAn hn8 hi ⊢
  have hb0 : Below w.heap.size w (w.alloc (.cells #[.int .i64 t.stages, vA, vB] 37)) := (Below.refl _ _).alloc (Nat.le_refl _) _
  rw [hs] at hb0 ⊢
  obtain ⟨p0, p1, p2, p3, p4, p5, p7⟩ := row_bd hi hn8
  obtain ⟨aA, nA, cA, rfl, lA, hlc, hcm, gA⟩ := rdS_open (rdI_mono hb0 hA)
  have hnA : nA = n * n := by omega
  obtain ⟨bA, oA, x, rfl, _⟩ := rdI_get gA (k := i * n) (by omega)
  have hP := rdI_part gA (lo := i * n) (n := n) (by omega)
  have HP := Lib.hid hP
  have q1 : (i : Int) * n + n ≤ cA := by omega
  have q2 : (i : Int) * n ≤ (i : Int) * n + n := by omega
  have q3 : ((i : Int) * n + n).toNat = i * n + n := by omega
  have q4 : 0 ≤ (i : Int) * n + n := by omega
  have q5 : ¬ cA - i * n = 0 := by omega
  have q6 : (i : Int) * n + n ≤ 72 := by omega
  have HB := Lib.hid hb0
  clear hs hAn hn lA hP hB gA hA hb0 hnA p7 p4 p5
  go_enter Tryz.func118, Tryz.ntmps118
  go_wp2
  go_ret
  exact ⟨_, rfl, HP.out, HB.out⟩


end Go.Proofs.YtbcjhpgkodeoeaaGreatDoor

/- The parts of a step along a path: a jet times h, a row of a tableau, the reference's move by stages. Conditions: numbers. -/
namespace Go.Proofs.YtbcjhpgkodeoeaaGreatDoor
open Go.RowKit Go.Sort

theorem ownI_put {e : Nat} {w : World} {ad : Option Addr} {len cap k : Nat} {xs : List Int} {fp : List Nat} {c : Int} (h : OwnI e w (.slice ad len cap) xs fp) (hk : k < xs.length) (hc : I64 c) :
    ∃ g, ad = some ⟨g, 0, none⟩ ∧ fp = [g] ∧ (∃ u, w.cell? ⟨g, k, none⟩ = some u) ∧ w.frozen? ⟨g, k, none⟩ = false ∧ OwnI e (w.setCell ⟨g, k, none⟩ (.int .i64 c)) (.slice ad len cap) (xs.set k c) fp := by
  have hI := h.2.2
  obtain ⟨_, _, _, he, hl, _, _, hown, hg, _⟩ := ownI_open h
  injection he with e1 e2 e3
  subst e1 e2 e3
  obtain ⟨g, rfl, rfl⟩ := hg (by omega)
  have hs := (hown.stored k (.int .i64 c)).1
  refine ⟨g, rfl, rfl, ?_, hown.frozenAt k, ⟨by rw [List.length_set, hl, List.map_set]; exact hs, rfl, fun z hz => ?_⟩⟩
  · rw [hown.cellAt k (by omega), List.getElem?_map, List.getElem?_eq_getElem hk]
    exact ⟨_, rfl⟩
  · rcases List.mem_or_eq_of_mem_set hz with hz | rfl
    · exact hI z hz
    · exact hc

/-- a jet times h, i places gone through -/
def laterP (xs : List Int) (i : Nat) : List Int := (0 :: (xs.take i ++ List.replicate xs.length 0)).take xs.length
theorem laterP_len (xs : List Int) (i : Nat) : (laterP xs i).length = xs.length := by simp [laterP]; omega
theorem laterP_zero (xs : List Int) : laterP xs 0 = List.replicate xs.length 0 := by
  unfold laterP
  rw [List.take_zero, List.nil_append, ← List.replicate_succ, List.take_replicate]
  congr 1
  omega
theorem laterP_at (xs : List Int) (i k : Nat) (hk : k < xs.length) : (laterP xs i)[k]? = some (if k = 0 then 0 else if k - 1 < i then atZ xs (k - 1) else 0) := by
  unfold laterP
  rw [List.getElem?_take_of_lt hk]
  cases k with
  | zero => rfl
  | succ k =>
    rw [List.getElem?_cons_succ, if_neg (by omega)]
    by_cases h : k < i
    · rw [List.getElem?_append_left (by rw [List.length_take]; omega), List.getElem?_take_of_lt h, if_pos (by omega)]
      simp [atZ, List.getElem?_eq_getElem (show k < xs.length by omega)]
    · rw [if_neg (by omega)]
      rw [List.getElem?_append_right (by rw [List.length_take]; omega), List.getElem?_replicate, if_pos (by rw [List.length_take]; omega)]
theorem laterP_next {xs : List Int} {i : Nat} {x : Int} (hi : i + 1 < xs.length) (hx : xs[i]? = some x) : (laterP xs i).set (i + 1) x = laterP xs (i + 1) := by
  refine List.ext_getElem? fun k => ?_
  by_cases hk : k < xs.length
  · rw [laterP_at xs (i + 1) k hk]
    by_cases h : k = i + 1
    · subst h
      rw [List.getElem?_set_self (by rw [laterP_len]; exact hk), if_neg (by omega), if_pos (by omega)]
      simp [atZ_get hx]
    · rw [List.getElem?_set_ne (by omega), laterP_at xs i k hk]
      congr 1
      by_cases h0 : k = 0
      · rw [if_pos h0, if_pos h0]
      · rw [if_neg h0, if_neg h0]
        by_cases h1 : k - 1 < i
        · rw [if_pos h1, if_pos (by omega)]
        · rw [if_neg h1, if_neg (by omega)]
  · rw [List.getElem?_eq_none (by rw [List.length_set, laterP_len]; omega), List.getElem?_eq_none (by rw [laterP_len]; omega)]
theorem laterP_last {xs : List Int} {i : Nat} (hi : ¬ i + 1 < xs.length) : laterP xs i = laterP xs (i + 1) := by
  refine List.ext_getElem? fun k => ?_
  by_cases hk : k < xs.length
  · rw [laterP_at xs (i + 1) k hk, laterP_at xs i k hk]
    congr 1
    by_cases h0 : k = 0
    · rw [if_pos h0, if_pos h0]
    · rw [if_neg h0, if_neg h0, if_pos (by omega), if_pos (by omega)]
  · rw [List.getElem?_eq_none (by rw [laterP_len]; omega), List.getElem?_eq_none (by rw [laterP_len]; omega)]
theorem laterP_done (xs : List Int) : laterP xs xs.length = laterJ xs := by
  unfold laterP laterJ
  rw [List.take_of_length_le (Nat.le_refl _)]
  rw [← List.cons_append, List.take_append_of_le_length (by simp)]

set_option maxRecDepth 100000 in
set_option maxHeartbeats 1600000 in
theorem later1_any (v : Value) (xs : List Int) (w : World) (h : RdI w v xs) (h1 : 1 ≤ xs.length) (h7 : xs.length ≤ 7) :
    Calls Tryz.prog 125 #[v, .int .i64 1] w (Gives (fun w' v fp => OwnI 3 w' v (laterJ xs) fp) w) := by
  obtain ⟨ad, len, cap, rfl, hl, hlc, hcm, h'⟩ := rdS_open h
  have HL := Lib.hid hl
  have HI := Lib.hid (i64_all h')
  rw [hl] at h1 h7
  clear h hl
  obtain ⟨i0, hi, hz0, hz1, hz2⟩ := info_parts Tryz.info_int
  have hib : i0.bytes * len ≤ 281474976710656 := by rw [hz2]; omega
  go_enter Tryz.func125, Tryz.ntmps125
  go_wp2_with (first
    | (at_make; refine wpList_make_full _ rfl _ _ 89 rfl 0 3 i0 (.int .i64 0) 1 Tryz.underlying89 hi hz0 hz1 .i64 .i64 _ _ len rfl rfl rfl rfl hib (by unfold maxLen; omega) (Nat.zero_le _) ?_; intro w1 hown1 hgrow1))
  have hm0 : (madeCells (Value.int .i64 0).cells (len * 1)).toList = (List.replicate len (0 : Int)).map (Value.int .i64) := by
    rw [Nat.mul_one, List.map_replicate]; exact toList_madeCells_one _ _
  rw [hm0] at hown1
  have hbl : Below w.heap.size w w1 := (Below.refl _ _).grown hgrow1 (Nat.le_refl _) (fun k hk => by cases hk)
  have HO1 := Lib.hid (show OwnI 3 w1 (.slice (some ⟨w.heap.size, 0, none⟩) len len) (laterP xs 0) [w.heap.size] from ⟨by rw [laterP_zero, HL.out, List.length_replicate]; exact hown1, rfl, fun x hx => by rw [laterP_zero, List.mem_replicate] at hx; rw [hx.2]; exact ⟨by decide, by decide⟩⟩)
  have HBL := Lib.hid hbl
  clear hm0 hgrow1 hown1 hbl hib
  go_loopw [12] (fun i wr => ∃ k : Nat, k ≤ len ∧ i = .int .i64 k ∧ OwnI 3 wr (.slice (some ⟨w.heap.size, 0, none⟩) len len) (laterP xs k) [w.heap.size] ∧ Below w.heap.size w wr) (fun i _ => len - (intOf i).toNat)
  case atStart => exact ⟨0, Nat.zero_le _, rfl, HO1.out, HBL.out⟩
  case round =>
    obtain ⟨wk, rfl⟩ : ∃ W, W = wr := ⟨_, rfl⟩
    obtain ⟨k, hk, rfl, ho, hb⟩ := hrel
    clear HO1 HBL
    by_cases hlt : k < len
    case neg =>
      obtain rfl : k = len := by omega
      have HE := Lib.hid (laterP_done xs)
      rw [HL.out] at HE
      have HO := Lib.hid ho
      clear ho
      go_wp2
      go_ret
      exact ⟨_, [w.heap.size], rfl, by rw [← HE.out]; exact HO.out, by simp, hb⟩
    by_cases hl2 : k + 1 < len
    case neg =>
      have hE := laterP_last (xs := xs) (i := k) (by rw [HL.out]; exact hl2)
      rw [hE] at ho
      have HO := Lib.hid ho
      clear hE ho
      go_wp2
      go_roundw
      case rel => exact ⟨k + 1, by omega, by go_num, HO.out, hb⟩
      case measure => simp [intOf]; omega
    obtain ⟨b, o, x, rfl, hx, hcx, hIx, _⟩ := rdI_get (rdI_mono hb h') hlt
    obtain ⟨g, hg, _, ⟨u, hcu⟩, hfz, ho2⟩ := ownI_put ho (k := k + 1) (by rw [laterP_len, HL.out]; exact hl2) hIx
    simp only [Option.some.injEq, Addr.mk.injEq] at hg
    obtain ⟨rfl, _, _⟩ := hg
    rw [laterP_next (by rw [HL.out]; exact hl2) hx] at ho2
    have HO := Lib.hid ho2
    have HB := Lib.hid (hb.setCell (p := ⟨w.heap.size, k + 1, none⟩) (Nat.le_refl _) (.int .i64 x))
    clear ho ho2 hb hx
    go_wp2
    go_roundw
    case rel => exact ⟨k + 1, by omega, by go_num, HO.out, HB.out⟩
    case measure => simp [intOf]; omega
end Go.Proofs.YtbcjhpgkodeoeaaGreatDoor
