/- Sorting monomials in place: the state of the row, comparing and swapping two elements. Conditions: none. -/
import Derived.Test.YtdaaamdighojdaaSortP
import Derived.Test.YtdaaamdighojdaaTab
import Derived.Deep.RegionLaw
set_option linter.unusedSimpArgs false
set_option linter.unusedVariables false
namespace Go.Proofs.Ytdaaamdighojdaa
open Go.RowKit Go.Sort

theorem cmpL_neg : ∀ (a b : List Int), cmpL a b < 0 ↔ ltL a b = true
  | [], [] => by simp [cmpL, ltL]
  | [], _ :: _ => by simp [cmpL, ltL]
  | _ :: _, [] => by simp [cmpL, ltL]
  | x :: xs, y :: ys => by
    simp only [cmpL, ltL]
    by_cases h1 : x < y
    · have h2 : ¬ x = y := by omega
      simp [h1, h2]
    · by_cases h2 : y < x
      · have h3 : ¬ x = y := by omega
        simp [h1, h2, h3]
      · have h3 : x = y := by omega
        simp [h3, cmpL_neg xs ys]

/-- The row of a sort: nothing but its block has changed, and it holds X. -/
structure SSt (e g n cap : Nat) (w0 w : World) (X : List ElS) : Prop where
  only : Only [g] w0 w
  row : w.ownsRow 0 e 2 (.slice (some ⟨g, 0, none⟩) n cap) n (rowS X)
theorem SSt.len {e g n cap : Nat} {w0 w : World} {X : List ElS} (h : SSt e g n cap w0 w X) : X.length = n := by
  have := h.row.1
  rw [rowS_length] at this
  omega
theorem SSt.below {e g n cap : Nat} {w0 w w' : World} {X : List ElS} (h : SSt e g n cap w0 w X) (hb : Below w.heap.size w w') : SSt e g n cap w0 w' X :=
  ⟨h.only.trans (Only.of_below hb), ownsRow_only h.row (Only.of_below (fp := []) hb) (by simp)⟩
theorem SSt.cells {e g n cap : Nat} {w0 w : World} {X : List ElS} (h : SSt e g n cap w0 w X) {k : Nat} {x : ElS} (hx : X[k]? = some x) :
    w.cell? ⟨g, k * 2, none⟩ = some (.int .i64 x.c) ∧ w.cell? ⟨g, k * 2 + 1, none⟩ = some x.v ∧ w.frozen? ⟨g, k * 2, none⟩ = false ∧ w.frozen? ⟨g, k * 2 + 1, none⟩ = false := by
  have hk := (List.getElem?_eq_some_iff.1 hx).1
  have hl := h.len
  obtain ⟨h1, h2⟩ := rowS_at hx
  exact ⟨by rw [h.row.cellAt _ (by omega), h1], by rw [h.row.cellAt _ (by omega), h2], h.row.frozenAt _, h.row.frozenAt _⟩
theorem SSt.put {e g n cap : Nat} {w0 w : World} {X : List ElS} (h : SSt e g n cap w0 w X) {k : Nat} {x : ElS} (hx : X[k]? = some x) (y : ElS) :
    SSt e g n cap w0 ((w.setCell ⟨g, k * 2, none⟩ (.int .i64 y.c)).setCell ⟨g, k * 2 + 1, none⟩ y.v) (X.set k y) := by
  have h1 := (h.row.stored (k * 2) (.int .i64 y.c)).1
  have h2 := (h1.stored (k * 2 + 1) y.v).1
  rw [rowS_set hx] at h2
  exact ⟨(h.only.setCell (by simp) _).setCell (by simp) _, h2⟩
/-- Two elements are swapped, in either order of the stores. -/
theorem SSt.swap {e g n cap : Nat} {w0 w : World} {U V Z : List ElS} {x y : ElS} (h : SSt e g n cap w0 w (U ++ x :: (V ++ y :: Z))) {i j : Nat} (hi : U.length = i) (hj : i + 1 + V.length = j) :
    SSt e g n cap w0 ((((w.setCell ⟨g, i * 2, none⟩ (.int .i64 y.c)).setCell ⟨g, i * 2 + 1, none⟩ y.v).setCell ⟨g, j * 2, none⟩ (.int .i64 x.c)).setCell ⟨g, j * 2 + 1, none⟩ x.v) (U ++ y :: (V ++ x :: Z)) ∧
    SSt e g n cap w0 ((((w.setCell ⟨g, j * 2, none⟩ (.int .i64 x.c)).setCell ⟨g, j * 2 + 1, none⟩ x.v).setCell ⟨g, i * 2, none⟩ (.int .i64 y.c)).setCell ⟨g, i * 2 + 1, none⟩ y.v) (U ++ y :: (V ++ x :: Z)) := by
  have hx : (U ++ x :: (V ++ y :: Z))[i]? = some x := at_mid hi
  have e1 : ∀ z : ElS, U ++ z :: (V ++ y :: Z) = (U ++ z :: V) ++ y :: Z := fun z => by simp
  have e2 : ∀ z : ElS, (U ++ z :: V).length = j := fun z => by simp; omega
  have hy : (U ++ x :: (V ++ y :: Z))[j]? = some y := by rw [e1]; exact at_mid (e2 x)
  constructor
  · have h1 := h.put hx y
    rw [set_mid' hi, e1] at h1
    have h2 := h1.put (at_mid (e2 y)) x
    rw [set_mid' (e2 y)] at h2
    simpa using h2
  · have h1 := h.put hy x
    rw [e1, set_mid' (e2 x)] at h1
    have e3 : (U ++ x :: V) ++ x :: Z = U ++ x :: (V ++ x :: Z) := by simp
    rw [e3] at h1
    have h2 := h1.put (at_mid hi) y
    rw [set_mid' hi] at h2
    exact h2

set_option maxHeartbeats 400000 in
theorem cmpS_any (x y : ElS) {c : Int} (w : World) (hx : RdI w x.v x.ps) (hy : RdI w y.v y.ps) (h : cmpL y.ps x.ps = c) :
    Calls Try.prog 129 #[.agg #[.int .i64 x.c, x.v], .agg #[.int .i64 y.c, y.v]] w fun e w' => e = .returned (.int .i64 c) ∧ Below w.heap.size w w' := by
  have hb : Below w.heap.size w ((w.alloc (.cells #[.int .i64 x.c, x.v] 91)).alloc (.cells #[.int .i64 y.c, y.v] 91)) := ((Below.refl _ _).alloc (Nat.le_refl _) _).alloc (by simp) _
  have hx' := rdI_mono hb hx
  have hy' := rdI_mono hb hy
  have HH := Lib.hid h
  clear h
  go_enter Try.func129, Try.ntmps129
  go_wp2_with fail
  refine (compare_eq _ _ _ _ _ hy' hx' HH.out).mono ?_
  rintro e w' ⟨rfl, rfl⟩
  go_wp2
  go_ret
  exact ⟨rfl, hb⟩

set_option maxRecDepth 100000 in
set_option maxHeartbeats 1600000 in
theorem swapRange_any (g n cap : Nat) (f : Value) (A P B Q C : List ElS) (a b m : Nat) (w0 w : World) (h : SSt 91 g n cap w0 w (A ++ (P ++ (B ++ (Q ++ C))))) (hm : P.length = m) (hm2 : Q.length = m) (ha : A.length = a) (hb : a + m + B.length = b) (hn : n ≤ 1048576) :
    Calls Try.prog 156 #[.slice (some ⟨g, 0, none⟩) n cap, .int .i64 a, .int .i64 b, .int .i64 m, f] w fun e w' => e = .returned (.tuple #[]) ∧ SSt 91 g n cap w0 w' (A ++ (Q ++ (B ++ (P ++ C)))) := by
  have hln := h.len
  simp only [List.length_append] at hln
  have HS := Lib.hid h
  have HM := Lib.hid hm
  have HM2 := Lib.hid hm2
  have HA := Lib.hid ha
  have HB := Lib.hid hb
  have hbn : b + m ≤ n := by omega
  have ham : a + m ≤ b := by omega
  clear h hln hm hm2 ha hb
  go_enter Try.func156, Try.ntmps156
  go_wp2
  go_loopw [10] (fun s wr => ∃ (i : Nat) (P1 P2 Q1 Q2 : List ElS), i ≤ m ∧ s = .int .i64 i ∧ P = P1 ++ P2 ∧ Q = Q1 ++ Q2 ∧ P1.length = i ∧ Q1.length = i ∧ SSt 91 g n cap w0 wr (A ++ (Q1 ++ (P2 ++ (B ++ (P1 ++ (Q2 ++ C))))))) (fun s _ => m - (intOf s).toNat)
  case atStart => exact ⟨0, [], P, [], Q, Nat.zero_le _, rfl, rfl, rfl, rfl, rfl, by simpa using HS.out⟩
  case round =>
    obtain ⟨i, P1, P2, Q1, Q2, hi, rfl, hP, hQ, hP1, hQ1, hs⟩ := hrel
    by_cases him : i < m
    · cases P2 with
      | nil => exfalso; have := HM.out; rw [hP] at this; simp at this; omega
      | cons x P2 =>
      cases Q2 with
      | nil => exfalso; have := HM2.out; rw [hQ] at this; simp at this; omega
      | cons y Q2 =>
      have e1 : A ++ (Q1 ++ (x :: P2 ++ (B ++ (P1 ++ (y :: Q2 ++ C))))) = (A ++ Q1) ++ x :: ((P2 ++ (B ++ P1)) ++ y :: (Q2 ++ C)) := by simp
      rw [e1] at hs
      have hAi : (A ++ Q1).length = a + i := by rw [List.length_append, HA.out, hQ1]
      have hBi : a + i + 1 + (P2 ++ (B ++ P1)).length = b + i := by
        have h1 := HM.out
        have h2 := HB.out
        rw [hP] at h1
        simp at h1 ⊢
        omega
      obtain ⟨hcx0, hcx1, hfx0, hfx1⟩ := hs.cells (k := a + i) (at_mid hAi)
      obtain ⟨hcy0, hcy1, hfy0, hfy1⟩ := hs.cells (k := b + i) (x := y) (by
        rw [show (A ++ Q1) ++ x :: ((P2 ++ (B ++ P1)) ++ y :: (Q2 ++ C)) = ((A ++ Q1) ++ x :: (P2 ++ (B ++ P1))) ++ y :: (Q2 ++ C) by simp]
        exact at_mid (by rw [List.length_append, List.length_cons]; omega))
      have HSW := Lib.hid (hs.swap hAi hBi)
      clear hs e1 hAi hBi
      have ha0 : (0 : Int) ≤ (a : Int) + i := by omega
      have hb0 : (0 : Int) ≤ (b : Int) + i := by omega
      have ha1 : (a : Int) + i < n := by omega
      have hb1 : (b : Int) + i < n := by omega
      have q1 : IntKind.i64.wrap ((a : Int) + i) = (a : Int) + i := IntWalk.i64_in _ (by omega)
      have q2 : IntKind.i64.wrap ((b : Int) + i) = (b : Int) + i := IntWalk.i64_in _ (by omega)
      have q3 : ((a : Int) + i).toNat = a + i := by omega
      have q4 : ((b : Int) + i).toNat = b + i := by omega
      have hne : a + i ≠ b + i := by omega
      have HP := Lib.hid hP
      have HQ := Lib.hid hQ
      clear hP hQ
      go_wp2
      go_region_law (fail)
      all_goals (
        go_wp2
        go_roundw
        case rel => exact ⟨i + 1, P1 ++ [x], P2, Q1 ++ [y], Q2, by omega, by go_num, by rw [HP.out]; simp, by rw [HQ.out]; simp, by simp [hP1], by simp [hQ1], by simpa using HSW.out.1.below (Below.refl _ _).drew⟩
        case measure => (simp [intOf]; try omega))
    · obtain rfl : i = m := by omega
      have hp2 : P2 = [] := by
        have h1 := HM.out
        rw [hP, List.length_append] at h1
        exact List.eq_nil_of_length_eq_zero (by omega)
      have hq2 : Q2 = [] := by
        have h1 := HM2.out
        rw [hQ, List.length_append] at h1
        exact List.eq_nil_of_length_eq_zero (by omega)
      subst hp2 hq2
      have HE := Lib.hid (show SSt 91 g n cap w0 wr (A ++ (Q ++ (B ++ (P ++ C)))) from by rw [hP, hQ]; simpa using hs)
      clear hP hQ hs
      go_wp2
      go_end0
      exact ⟨rfl, HE.out⟩
end Go.Proofs.Ytdaaamdighojdaa
