/- Sorting by insertion and by merging in place, in plain lists. Conditions: none. -/
import Derived.Test.YtdaaamdighojdaaColP
set_option linter.unusedSimpArgs false
set_option linter.unusedVariables false
namespace Go.Proofs.Ytdaaamdighojdaa
open Go.RowKit Go.Sort

/-- A monomial in a row: its number, the value that holds its powers, the powers, and their blocks. -/
structure ElS where
  c : Int
  ad : Option Addr
  l : Nat
  k : Nat
  ps : List Int
  f : List Nat
abbrev ElS.v (x : ElS) : Value := .slice x.ad x.l x.k
def encS (x : ElS) : List Value := [.int .i64 x.c, x.v]
def rowS (X : List ElS) : List Value := (X.map encS).flatten
def monS (x : ElS) : MonZ := ⟨x.c, x.ps⟩
theorem rowS_append (X Y : List ElS) : rowS (X ++ Y) = rowS X ++ rowS Y := by simp [rowS]
theorem rowS_cons (x : ElS) (Y : List ElS) : rowS (x :: Y) = [.int .i64 x.c, x.v] ++ rowS Y := by simp [rowS, encS]
theorem rowS_length : ∀ X : List ElS, (rowS X).length = X.length * 2
  | [] => rfl
  | x :: X => by rw [rowS_cons, List.length_append, rowS_length X]; simp; omega
theorem rowS_at : ∀ {X : List ElS} {k : Nat} {x : ElS}, X[k]? = some x → (rowS X)[k * 2]? = some (.int .i64 x.c) ∧ (rowS X)[k * 2 + 1]? = some x.v
  | [], _, _, h => by simp at h
  | y :: X, 0, x, h => by
    simp at h
    subst h
    simp [rowS_cons]
  | y :: X, k + 1, x, h => by
    have ih := rowS_at (X := X) (k := k) (x := x) (by simpa using h)
    rw [rowS_cons, show (k + 1) * 2 = k * 2 + 2 by omega]
    refine ⟨?_, ?_⟩
    · rw [List.getElem?_append_right (by simp)]
      simpa using ih.1
    · rw [List.getElem?_append_right (by simp)]
      simpa using ih.2
theorem rowS_set : ∀ {X : List ElS} {k : Nat} {x y : ElS}, X[k]? = some x → ((rowS X).set (k * 2) (.int .i64 y.c)).set (k * 2 + 1) y.v = rowS (X.set k y)
  | [], _, _, _, h => by simp at h
  | z :: X, 0, x, y, _ => by simp [rowS_cons]
  | z :: X, k + 1, x, y, h => by
    have ih := rowS_set (X := X) (k := k) (x := x) (y := y) (by simpa using h)
    rw [rowS_cons, show (k + 1) * 2 = k * 2 + 2 by omega, List.set_cons_succ, rowS_cons, List.set_append_right _ _ (by simp), List.set_append_right _ _ (by simp)]
    simp only [List.length_cons, List.length_nil]
    rw [show k * 2 + 2 - (0 + 1 + 1) = k * 2 by omega, show k * 2 + 2 + 1 - (0 + 1 + 1) = k * 2 + 1 by omega, ih]

/-- x may stand ahead of y. -/
def leS (a b : ElS) : Prop := ltL a.ps b.ps = false
/-- x must stand ahead of y. -/
def ltS (a b : ElS) : Bool := ltL b.ps a.ps
theorem leS_of_not {a b : ElS} (h : ltS b a = false) : leS a b := h
theorem leS_of_lt {a b : ElS} (h : ltS a b = true) : leS a b := by
  unfold leS
  cases h2 : ltL a.ps b.ps with
  | false => rfl
  | true =>
    have := ltL_trans h2 h
    rw [ltL_irr] at this
    cases this
theorem leS_trans {a b c : ElS} (h : leS a b) (k : leS b c) : leS a c := by
  unfold leS at *
  cases h1 : ltL a.ps c.ps with
  | false => rfl
  | true =>
    cases h2 : ltL c.ps b.ps with
    | true => rw [ltL_trans h1 h2] at h; cases h
    | false => rw [← ltL_tri k h2] at h1; rw [h1] at h; cases h
def SrtS (X : List ElS) : Prop := X.Pairwise leS
theorem srt_nil : SrtS [] := List.Pairwise.nil
theorem srt_one (x : ElS) : SrtS [x] := by simp [SrtS]
theorem srt_append {X Y : List ElS} : SrtS (X ++ Y) ↔ SrtS X ∧ SrtS Y ∧ ∀ x ∈ X, ∀ y ∈ Y, leS x y := List.pairwise_append
theorem srt_take {X : List ElS} (h : SrtS X) (k : Nat) : SrtS (X.take k) := List.Pairwise.sublist (List.take_sublist _ _) h
theorem srt_drop {X : List ElS} (h : SrtS X) (k : Nat) : SrtS (X.drop k) := List.Pairwise.sublist (List.drop_sublist _ _) h
theorem srt_at {X : List ElS} (h : SrtS X) {i j : Nat} {x y : ElS} (hi : X[i]? = some x) (hj : X[j]? = some y) (hij : i < j) : leS x y := by
  obtain ⟨h1, rfl⟩ := List.getElem?_eq_some_iff.1 hi
  obtain ⟨h2, rfl⟩ := List.getElem?_eq_some_iff.1 hj
  exact List.pairwise_iff_getElem.1 h i j h1 h2 hij

/-- An element put into its place. -/
theorem ins_done {S1 S2 : List ElS} {x : ElS} (h : SrtS (S1 ++ S2)) (h2 : ∀ y ∈ S2, ltS x y = true) (h1 : S1 = [] ∨ ∃ T y, S1 = T ++ [y] ∧ ltS x y = false) : SrtS (S1 ++ x :: S2) := by
  rw [srt_append] at h
  rw [srt_append]
  refine ⟨h.1, List.pairwise_cons.2 ⟨fun y hy => leS_of_lt (h2 y hy), h.2.1⟩, fun a ha b hb => ?_⟩
  have hax : leS a x := by
    rcases h1 with rfl | ⟨T, y, rfl, hy⟩
    · cases ha
    · rw [List.mem_append] at ha
      rcases ha with ha | ha
      · exact leS_trans ((srt_append.1 h.1).2.2 a ha y (by simp)) (leS_of_not hy)
      · simp at ha; subst ha; exact leS_of_not hy
  simp at hb
  rcases hb with rfl | hb
  · exact hax
  · exact leS_trans hax (leS_of_lt (h2 b hb))

/-- Two halves that were sorted, each merged out of parts of two sorted lists. -/
theorem merge_done {L1 L2 R1 R2 S1 S2 : List ElS} (hL : SrtS (L1 ++ L2)) (hR : SrtS (R1 ++ R2)) (h1 : L1 = [] ∨ R2 = [] ∨ ∃ x y, L1[L1.length - 1]? = some x ∧ R2[0]? = some y ∧ leS x y)
    (h2 : L2 = [] ∨ R1 = [] ∨ ∃ x y, R1[R1.length - 1]? = some x ∧ L2[0]? = some y ∧ leS x y) (p1 : S1.Perm (L1 ++ R1)) (p2 : S2.Perm (L2 ++ R2)) (s1 : SrtS S1) (s2 : SrtS S2) :
    SrtS (S1 ++ S2) ∧ (S1 ++ S2).Perm ((L1 ++ L2) ++ (R1 ++ R2)) := by
  rw [srt_append] at hL hR
  have key : ∀ (A B : List ElS) (x y : ElS), SrtS A → SrtS B → A[A.length - 1]? = some x → B[0]? = some y → leS x y → ∀ a ∈ A, ∀ b ∈ B, leS a b := by
    intro A B x y hA hB hx hy hxy a ha b hb
    obtain ⟨i, hi, rfl⟩ := List.getElem_of_mem ha
    obtain ⟨j, hj, rfl⟩ := List.getElem_of_mem hb
    have hax : leS A[i] y := by
      by_cases hil : i = A.length - 1
      · subst hil
        rw [List.getElem?_eq_getElem hi] at hx
        simp at hx
        rw [hx]; exact hxy
      · exact leS_trans (srt_at hA (List.getElem?_eq_getElem hi) hx (by omega)) hxy
    by_cases hj0 : j = 0
    · subst hj0
      rw [List.getElem?_eq_getElem hj] at hy
      simp at hy
      rw [hy]; exact hax
    · exact leS_trans hax (srt_at hB hy (List.getElem?_eq_getElem hj) (by omega))
  refine ⟨srt_append.2 ⟨s1, s2, fun a ha b hb => ?_⟩, ?_⟩
  · rw [p1.mem_iff, List.mem_append] at ha
    rw [p2.mem_iff, List.mem_append] at hb
    rcases ha with ha | ha <;> rcases hb with hb | hb
    · exact hL.2.2 a ha b hb
    · rcases h1 with rfl | rfl | ⟨x, y, hx, hy, hxy⟩
      · cases ha
      · cases hb
      · exact key L1 R2 x y hL.1 hR.2.1 hx hy hxy a ha b hb
    · rcases h2 with rfl | rfl | ⟨x, y, hx, hy, hxy⟩
      · cases hb
      · cases ha
      · exact key R1 L2 x y hR.1 hL.2.1 hx hy hxy a ha b hb
    · exact hR.2.2 a ha b hb
  · refine (p1.append p2).trans ?_
    rw [List.append_assoc, List.append_assoc]
    refine List.Perm.append_left _ ?_
    rw [← List.append_assoc, ← List.append_assoc]
    exact List.Perm.append_right _ List.perm_append_comm

theorem at_mid {A C : List ElS} {x : ElS} {k : Nat} (hk : A.length = k) : (A ++ x :: C)[k]? = some x := by subst hk; simp
theorem set_mid' {A C : List ElS} {x y : ElS} {k : Nat} (hk : A.length = k) : (A ++ x :: C).set k y = A ++ y :: C := by subst hk; simp
end Go.Proofs.Ytdaaamdighojdaa
