/- The texts ColP, SortP, ElsP, Same in one: each says at its head what it proves. Conditions: as said there. -/
import Derived.Test.YtbcjhpgkodeoeaaGreatDoorN03
set_option linter.unusedSimpArgs false
set_option linter.unusedVariables false
/- Polynomials put together: a list in descending order without zeros is fixed by the sums of its numbers. In plain lists. Conditions: numbers. -/
namespace Go.Proofs.YtbcjhpgkodeoeaaGreatDoor
open Go.RowKit Go.Sort

theorem ltL_irr : ∀ a : List Int, ltL a a = false
  | [] => rfl
  | x :: xs => by simp [ltL, ltL_irr xs]
theorem ltL_trans : ∀ {a b c : List Int}, ltL a b = true → ltL b c = true → ltL a c = true
  | _, [], _ => by intro h; simp [ltL] at h
  | _, _ :: _, [] => by intro _ h; simp [ltL] at h
  | [], _ :: _, _ :: _ => by intros; rfl
  | x :: xs, y :: ys, z :: zs => by
    intro h k
    simp only [ltL] at h k ⊢
    by_cases h1 : x = y
    · subst h1
      by_cases h2 : x = z
      · subst h2
        simp at h k ⊢
        exact ltL_trans h k
      · rw [if_neg h2] at k ⊢
        exact k
    · rw [if_neg h1] at h
      simp at h
      by_cases h2 : y = z
      · subst h2
        rw [if_neg (by omega)]
        simp [h]
      · rw [if_neg h2] at k
        simp at k
        rw [if_neg (by omega)]
        simp
        omega
theorem ltL_tri : ∀ {a b : List Int}, ltL a b = false → ltL b a = false → a = b
  | [], [] => by intros; rfl
  | [], _ :: _ => by intro h; simp [ltL] at h
  | _ :: _, [] => by intro _ h; simp [ltL] at h
  | x :: xs, y :: ys => by
    intro h k
    simp only [ltL] at h k
    by_cases h1 : x = y
    · subst h1
      simp at h k
      rw [ltL_tri h k]
    · rw [if_neg h1] at h
      rw [if_neg (fun e => h1 e.symm)] at k
      simp at h k
      omega
theorem ltL_ne {a b : List Int} (h : ltL a b = true) : a ≠ b := by
  rintro rfl
  rw [ltL_irr] at h
  cases h

/-- The sum of the numbers at some powers. -/
def coefAt (ps : List Int) : List MonZ → Int
  | [] => 0
  | m :: l => (if m.pows = ps then m.coef else 0) + coefAt ps l
theorem coefAt_zero {ps : List Int} : ∀ {l : List MonZ}, (∀ m ∈ l, m.pows ≠ ps) → coefAt ps l = 0
  | [], _ => rfl
  | m :: l, h => by
    rw [coefAt, if_neg (h m (by simp)), coefAt_zero (fun x hx => h x (by simp [hx]))]
    rfl
theorem coefAt_append (ps : List Int) : ∀ a b : List MonZ, coefAt ps (a ++ b) = coefAt ps a + coefAt ps b
  | [], b => by simp [coefAt]
  | m :: a, b => by simp [coefAt, coefAt_append ps a b]; omega
theorem coefAt_perm {ps : List Int} {a b : List MonZ} (h : a.Perm b) : coefAt ps a = coefAt ps b := by
  induction h with
  | nil => rfl
  | cons x _ ih => simp [coefAt, ih]
  | swap x y l => simp [coefAt]; omega
  | trans _ _ h1 h2 => rw [h1, h2]
theorem coefAt_kept (ps : List Int) : ∀ l : List MonZ, coefAt ps (l.filter fun m => decide (m.coef ≠ 0)) = coefAt ps l
  | [] => rfl
  | m :: l => by
    have ih := coefAt_kept ps l
    by_cases h : m.coef = 0
    · rw [List.filter_cons_of_neg (by simp [h]), ih, coefAt]
      split <;> omega
    · rw [List.filter_cons_of_pos (by simp [h]), coefAt, coefAt, ih]

def Desc (l : List MonZ) : Prop := l.Pairwise fun a b => ltL b.pows a.pows = true
def NumsM (l : List MonZ) : Prop := ∀ m ∈ l, 0 ≤ m.coef ∧ m.coef ≤ 1000000270
def Canon (l : List MonZ) : Prop := Desc l ∧ NumsM l ∧ ∀ m ∈ l, m.coef ≠ 0

theorem canon_tail {m : MonZ} {l : List MonZ} (h : Canon (m :: l)) : Canon l :=
  ⟨(List.pairwise_cons.1 h.1).2, fun x hx => h.2.1 x (by simp [hx]), fun x hx => h.2.2 x (by simp [hx])⟩
theorem canon_below {m : MonZ} {l : List MonZ} (h : Desc (m :: l)) {ps : List Int} (hp : m.pows = ps ∨ ltL m.pows ps = true) : coefAt ps l = 0 :=
  coefAt_zero fun x hx => ltL_ne (by
    have h1 := (List.pairwise_cons.1 h).1 x hx
    rcases hp with rfl | hp
    · exact h1
    · exact ltL_trans h1 hp)
theorem canon_unique : ∀ {a b : List MonZ}, Canon a → Canon b → (∀ ps, coefAt ps a % 1000000271 = coefAt ps b % 1000000271) → a = b
  | [], [], _, _, _ => rfl
  | [], n :: b, _, hb, h => by
    exfalso
    have h1 := h n.pows
    rw [coefAt, coefAt, if_pos rfl, canon_below hb.1 (.inl rfl)] at h1
    have h2 := hb.2.1 n (by simp)
    have h3 := hb.2.2 n (by simp)
    omega
  | m :: a, [], ha, _, h => by
    exfalso
    have h1 := h m.pows
    rw [show coefAt m.pows [] = 0 from rfl, coefAt, if_pos rfl, canon_below ha.1 (.inl rfl)] at h1
    have h2 := ha.2.1 m (by simp)
    have h3 := ha.2.2 m (by simp)
    omega
  | m :: a, n :: b, ha, hb, h => by
    have m2 := ha.2.1 m (by simp)
    have m3 := ha.2.2 m (by simp)
    have n2 := hb.2.1 n (by simp)
    have n3 := hb.2.2 n (by simp)
    by_cases h1 : ltL m.pows n.pows = true
    · exfalso
      have h4 := h n.pows
      rw [coefAt, coefAt, if_pos rfl, if_neg (ltL_ne h1), canon_below ha.1 (.inr h1), canon_below hb.1 (.inl rfl)] at h4
      omega
    · by_cases h2 : ltL n.pows m.pows = true
      · exfalso
        have h4 := h m.pows
        rw [coefAt, coefAt, if_pos rfl, if_neg (ltL_ne h2), canon_below ha.1 (.inl rfl), canon_below hb.1 (.inr h2)] at h4
        omega
      · have hp : m.pows = n.pows := ltL_tri (by simpa using h1) (by simpa using h2)
        have h4 := h m.pows
        rw [coefAt, coefAt, if_pos rfl, if_pos hp.symm, canon_below ha.1 (.inl rfl), canon_below hb.1 (.inl hp.symm)] at h4
        have hc : m.coef = n.coef := by omega
        have hmn : m = n := by
          cases m; cases n
          simp at hp hc
          rw [hp, hc]
        subst hmn
        refine congrArg _ (canon_unique (canon_tail ha) (canon_tail hb) fun ps => ?_)
        have h5 := h ps
        rw [coefAt, coefAt] at h5
        omega

-- the reference: a monomial put into a polynomial
/-- what the loop of the reference goes through: the rest, the number so far, whether it has been placed -/
def putA (pw : List Int) : List MonZ → Int → Bool → List MonZ
  | [], c, placed => if placed = true then [] else [⟨c, pw⟩]
  | x :: xs, c, placed =>
    if x.pows = pw then putA pw xs (plusZ c x.coef) placed
    else if placed = false ∧ ltL x.pows pw = true then ⟨c, pw⟩ :: x :: putA pw xs c true
    else x :: putA pw xs c placed
def keptL (l : List MonZ) : List MonZ := l.filter fun m => decide (m.coef ≠ 0)
def putL (p : List MonZ) (m : MonZ) : List MonZ := keptL (putA m.pows p m.coef false)
def insA (pw : List Int) (c : Int) : List MonZ → List MonZ
  | [] => [⟨c, pw⟩]
  | x :: xs => if x.pows = pw then ⟨plusZ c x.coef, pw⟩ :: xs else if ltL x.pows pw = true then ⟨c, pw⟩ :: x :: xs else x :: insA pw c xs
theorem putA_below {pw : List Int} : ∀ {xs : List MonZ} (c : Int), (∀ x ∈ xs, ltL x.pows pw = true) → putA pw xs c true = xs ∧ putA pw xs c false = ⟨c, pw⟩ :: xs
  | [], c, _ => by simp [putA]
  | x :: xs, c, h => by
    have h1 := h x (by simp)
    have ih := putA_below (xs := xs) c (fun y hy => h y (by simp [hy]))
    refine ⟨?_, ?_⟩
    · rw [putA, if_neg (ltL_ne h1), if_neg (by simp), ih.1]
    · rw [putA, if_neg (ltL_ne h1), if_pos ⟨rfl, h1⟩, ih.1]
theorem putA_ins {pw : List Int} : ∀ {xs : List MonZ} (c : Int), Desc xs → putA pw xs c false = insA pw c xs
  | [], c, _ => by simp [putA, insA]
  | x :: xs, c, h => by
    have hp := List.pairwise_cons.1 h
    by_cases h1 : x.pows = pw
    · subst h1
      rw [putA, insA, if_pos rfl, if_pos rfl, (putA_below _ hp.1).2]
    · by_cases h2 : ltL x.pows pw = true
      · rw [putA, insA, if_neg h1, if_neg h1, if_pos ⟨rfl, h2⟩, if_pos h2, (putA_below _ fun y hy => ltL_trans (hp.1 y hy) h2).1]
      · rw [putA, insA, if_neg h1, if_neg h1, if_neg (by simp [h2]), if_neg h2, putA_ins c hp.2]
theorem insA_mem {pw : List Int} {c : Int} : ∀ {xs : List MonZ} {y : MonZ}, y ∈ insA pw c xs → y ∈ xs ∨ y.pows = pw
  | [], y, h => by simp [insA] at h; right; rw [h]
  | x :: xs, y, h => by
    rw [insA] at h
    split at h
    · simp at h
      rcases h with rfl | h
      · right; rfl
      · left; simp [h]
    · split at h
      · simp at h
        rcases h with rfl | rfl | h
        · right; rfl
        · left; simp
        · left; simp [h]
      · simp at h
        rcases h with rfl | h
        · left; simp
        · rcases insA_mem h with h | h
          · left; simp [h]
          · right; exact h
theorem insA_desc {pw : List Int} {c : Int} : ∀ {xs : List MonZ}, Desc xs → Desc (insA pw c xs)
  | [], _ => by simp [insA, Desc]
  | x :: xs, h => by
    have hp := List.pairwise_cons.1 h
    rw [insA]
    split
    · rename_i h1
      subst h1
      exact List.pairwise_cons.2 ⟨hp.1, hp.2⟩
    · rename_i h1
      split
      · rename_i h2
        refine List.pairwise_cons.2 ⟨fun y hy => ?_, h⟩
        simp at hy
        rcases hy with rfl | hy
        · exact h2
        · exact ltL_trans (hp.1 y hy) h2
      · rename_i h2
        refine List.pairwise_cons.2 ⟨fun y hy => ?_, insA_desc hp.2⟩
        rcases insA_mem hy with hy | hy
        · exact hp.1 y hy
        · rw [hy]
          cases h3 : ltL pw x.pows with
          | true => rfl
          | false => exact absurd (ltL_tri (by simpa using h2) h3) h1
theorem insA_nums {pw : List Int} {c : Int} (hc : 0 ≤ c ∧ c ≤ 1000000270) : ∀ {xs : List MonZ}, NumsM xs → NumsM (insA pw c xs)
  | [], _ => by intro y hy; simp [insA] at hy; rw [hy]; exact hc
  | x :: xs, h => by
    have ih := insA_nums (pw := pw) hc (xs := xs) (fun y hy => h y (by simp [hy]))
    intro y hy
    rw [insA] at hy
    split at hy
    · simp at hy
      rcases hy with rfl | hy
      · exact plusZ_bd _ _
      · exact h y (by simp [hy])
    · split at hy
      · simp at hy
        rcases hy with rfl | rfl | hy
        · exact hc
        · exact h y (by simp)
        · exact h y (by simp [hy])
      · simp at hy
        rcases hy with rfl | hy
        · exact h y (by simp)
        · exact ih y hy
theorem insA_coef (ps pw : List Int) (c : Int) : ∀ xs : List MonZ, coefAt ps (insA pw c xs) % 1000000271 = (coefAt ps xs + if pw = ps then c else 0) % 1000000271
  | [] => by simp [insA, coefAt]
  | x :: xs => by
    have ih := insA_coef ps pw c xs
    rw [insA]
    split
    · rename_i h1
      subst h1
      simp only [coefAt, plusZ]
      split <;> omega
    · split
      · simp only [coefAt]
        omega
      · simp only [coefAt]
        omega
theorem putL_canon {p : List MonZ} (h : Canon p) {m : MonZ} (hm : 0 ≤ m.coef ∧ m.coef ≤ 1000000270) : Canon (putL p m) ∧ ∀ ps, coefAt ps (putL p m) % 1000000271 = (coefAt ps p + if m.pows = ps then m.coef else 0) % 1000000271 := by
  unfold putL keptL
  rw [putA_ins _ h.1]
  refine ⟨⟨(insA_desc h.1).filter _, fun x hx => insA_nums hm h.2.1 x (List.mem_filter.1 hx).1, fun x hx => by simpa using (List.mem_filter.1 hx).2⟩, fun ps => ?_⟩
  rw [coefAt_kept, insA_coef]
theorem nums_nil : NumsM [] := fun m hm => by cases hm
theorem canon_nil : Canon [] := ⟨List.Pairwise.nil, nums_nil, fun m hm => by cases hm⟩
/-- .. one after the other -/
def putAll (p q : List MonZ) : List MonZ := q.foldl putL p
theorem putAll_canon : ∀ {q p : List MonZ}, Canon p → NumsM q → Canon (putAll p q) ∧ ∀ ps, coefAt ps (putAll p q) % 1000000271 = (coefAt ps p + coefAt ps q) % 1000000271
  | [], p, h, _ => ⟨h, fun ps => by simp [putAll, coefAt]⟩
  | m :: q, p, h, hq => by
    have h1 := putL_canon h (hq m (by simp))
    have h2 := putAll_canon (q := q) h1.1 (fun x hx => hq x (by simp [hx]))
    refine ⟨h2.1, fun ps => ?_⟩
    have h3 := h2.2 ps
    have h4 := h1.2 ps
    rw [coefAt]
    simp only [putAll, List.foldl_cons] at h3 ⊢
    omega

-- the program: a sorted list merged
def DescW (l : List MonZ) : Prop := l.Pairwise fun a b => ltL a.pows b.pows = false
/-- one more monomial behind those merged -/
def mergeOne (out : List MonZ) (m : MonZ) : List MonZ :=
  match out.getLast? with
  | some l => if l.pows = m.pows then out.dropLast ++ [⟨plusZ l.coef m.coef, l.pows⟩] else out ++ [m]
  | none => [m]
def mergeL (l : List MonZ) : List MonZ := l.foldl mergeOne []
theorem mergeOne_snoc (o : List MonZ) (x m : MonZ) : mergeOne (o ++ [x]) m = if x.pows = m.pows then o ++ [⟨plusZ x.coef m.coef, x.pows⟩] else o ++ [x] ++ [m] := by
  simp [mergeOne]
theorem snoc_cases {α : Type} (l : List α) : l = [] ∨ ∃ o x, l = o ++ [x] := by
  rcases List.eq_nil_or_concat l with h | ⟨o, x, h⟩
  · left; exact h
  · right; exact ⟨o, x, by simpa using h⟩
structure MergeInv (out rest : List MonZ) : Prop where
  desc : Desc out
  nums : NumsM out
  last : ∀ o x, out = o ++ [x] → ∀ y ∈ rest, ltL x.pows y.pows = false
theorem mergeInv_next {out rest : List MonZ} {m : MonZ} (h : MergeInv out (m :: rest)) (hm : 0 ≤ m.coef ∧ m.coef ≤ 1000000270) (hr : ∀ y ∈ rest, ltL m.pows y.pows = false) :
    MergeInv (mergeOne out m) rest ∧ ∀ ps, coefAt ps (mergeOne out m) % 1000000271 = (coefAt ps out + if m.pows = ps then m.coef else 0) % 1000000271 := by
  rcases snoc_cases out with rfl | ⟨o, x, rfl⟩
  · refine ⟨⟨by simp [mergeOne, Desc], fun y hy => ?_, fun o x he y hy => ?_⟩, fun ps => by simp [mergeOne, coefAt]⟩
    · simp [mergeOne] at hy
      rw [hy]; exact hm
    · simp [mergeOne] at he
      have : x = m := by
        cases o with
        | nil => simpa using he.symm
        | cons a o => simp at he
      rw [this]; exact hr y hy
  · rw [mergeOne_snoc]
    have hx := h.last o x rfl m (by simp)
    have hnx := h.nums x (by simp)
    split
    · rename_i he
      refine ⟨⟨?_, fun y hy => ?_, fun o' x' he' y hy => ?_⟩, fun ps => ?_⟩
      · have hd := h.desc
        unfold Desc at hd ⊢
        rw [List.pairwise_append] at hd ⊢
        exact ⟨hd.1, by simp, fun a ha b hb => by simp at hb; rw [hb]; exact hd.2.2 a ha x (by simp)⟩
      · simp at hy
        rcases hy with hy | rfl
        · exact h.nums y (by simp [hy])
        · exact plusZ_bd _ _
      · have := List.append_inj_right' he' rfl
        simp at this
        rw [← this]
        simp only
        rw [he]
        exact hr y hy
      · simp only [coefAt_append, coefAt, plusZ]
        rw [he]
        split <;> omega
    · rename_i he
      refine ⟨⟨?_, fun y hy => ?_, fun o' x' he' y hy => ?_⟩, fun ps => ?_⟩
      · have hd := h.desc
        unfold Desc at hd ⊢
        rw [List.pairwise_append] at hd ⊢
        refine ⟨by rw [List.pairwise_append]; exact hd, by simp, fun a ha b hb => ?_⟩
        simp at hb
        subst hb
        have hmx : ltL b.pows x.pows = true := by
          cases h3 : ltL b.pows x.pows with
          | true => rfl
          | false => exact absurd (ltL_tri hx h3) he
        simp at ha
        rcases ha with ha | rfl
        · exact ltL_trans hmx (hd.2.2 a ha x (by simp))
        · exact hmx
      · simp at hy
        rcases hy with hy | rfl | rfl
        · exact h.nums y (by simp [hy])
        · exact hnx
        · exact hm
      · have := List.append_inj_right' he' rfl
        simp at this
        rw [← this]
        exact hr y hy
      · simp only [coefAt_append, coefAt]
        omega
theorem mergeL_inv : ∀ {rest out : List MonZ}, MergeInv out rest → NumsM rest → DescW rest → MergeInv (rest.foldl mergeOne out) [] ∧ ∀ ps, coefAt ps (rest.foldl mergeOne out) % 1000000271 = (coefAt ps out + coefAt ps rest) % 1000000271
  | [], out, h, _, _ => ⟨h, fun ps => by simp [coefAt]⟩
  | m :: rest, out, h, hn, hd => by
    have hp := List.pairwise_cons.1 hd
    have h1 := mergeInv_next h (hn m (by simp)) hp.1
    have h2 := mergeL_inv h1.1 (fun x hx => hn x (by simp [hx])) hp.2
    refine ⟨h2.1, fun ps => ?_⟩
    have h3 := h2.2 ps
    have h4 := h1.2 ps
    rw [coefAt]
    simp only [List.foldl_cons] at h3 ⊢
    omega
def collL (l : List MonZ) : List MonZ := keptL (mergeL l)
/-- What the program merges out of a list sorted in any way is what the reference puts together. -/
theorem collL_put {p q : List MonZ} (hp : p.Perm q) (hd : DescW q) (hn : NumsM p) : collL q = putAll [] p := by
  have hq : NumsM q := fun x hx => hn x (hp.mem_iff.2 hx)
  have h1 := mergeL_inv (out := []) ⟨List.Pairwise.nil, nums_nil, fun o x he => absurd he (by simp)⟩ hq hd
  have h2 := putAll_canon canon_nil hn
  refine canon_unique ⟨h1.1.desc.filter _, fun x hx => h1.1.nums x (List.mem_filter.1 hx).1, fun x hx => by simpa using (List.mem_filter.1 hx).2⟩ h2.1 fun ps => ?_
  rw [h2.2, collL, keptL, coefAt_kept, mergeL, h1.2, coefAt_perm hp]
end Go.Proofs.YtbcjhpgkodeoeaaGreatDoor

/- Sorting by insertion and by merging in place, in plain lists. Conditions: none. -/
namespace Go.Proofs.YtbcjhpgkodeoeaaGreatDoor
open Go.RowKit Go.Sort

/-- A monomial in a row: its number, the value that holds its powers, the powers, and their blocks. -/
structure ElS where
  c : Int
  ad : Option Addr
  l : Nat
  k : Nat
  ps : List Int
  f : List Nat
abbrev ElS.v (x : ElS) : Value := .slice x.ad x.l x.k
def encS (x : ElS) : List Value := [.int .i64 x.c, x.v]
def rowS (X : List ElS) : List Value := (X.map encS).flatten
def monS (x : ElS) : MonZ := ⟨x.c, x.ps⟩
theorem rowS_append (X Y : List ElS) : rowS (X ++ Y) = rowS X ++ rowS Y := by simp [rowS]
theorem rowS_cons (x : ElS) (Y : List ElS) : rowS (x :: Y) = [.int .i64 x.c, x.v] ++ rowS Y := by simp [rowS, encS]
theorem rowS_length : ∀ X : List ElS, (rowS X).length = X.length * 2
  | [] => rfl
  | x :: X => by rw [rowS_cons, List.length_append, rowS_length X]; simp; omega
theorem rowS_at : ∀ {X : List ElS} {k : Nat} {x : ElS}, X[k]? = some x → (rowS X)[k * 2]? = some (.int .i64 x.c) ∧ (rowS X)[k * 2 + 1]? = some x.v
  | [], _, _, h => by simp at h
  | y :: X, 0, x, h => by
    simp at h
    subst h
    simp [rowS_cons]
  | y :: X, k + 1, x, h => by
    have ih := rowS_at (X := X) (k := k) (x := x) (by simpa using h)
    rw [rowS_cons, show (k + 1) * 2 = k * 2 + 2 by omega]
    refine ⟨?_, ?_⟩
    · rw [List.getElem?_append_right (by simp)]
      simpa using ih.1
    · rw [List.getElem?_append_right (by simp)]
      simpa using ih.2
theorem rowS_set : ∀ {X : List ElS} {k : Nat} {x y : ElS}, X[k]? = some x → ((rowS X).set (k * 2) (.int .i64 y.c)).set (k * 2 + 1) y.v = rowS (X.set k y)
  | [], _, _, _, h => by simp at h
  | z :: X, 0, x, y, _ => by simp [rowS_cons]
  | z :: X, k + 1, x, y, h => by
    have ih := rowS_set (X := X) (k := k) (x := x) (y := y) (by simpa using h)
    rw [rowS_cons, show (k + 1) * 2 = k * 2 + 2 by omega, List.set_cons_succ, rowS_cons, List.set_append_right _ _ (by simp), List.set_append_right _ _ (by simp)]
    simp only [List.length_cons, List.length_nil]
    rw [show k * 2 + 2 - (0 + 1 + 1) = k * 2 by omega, show k * 2 + 2 + 1 - (0 + 1 + 1) = k * 2 + 1 by omega, ih]

/-- x may stand ahead of y. -/
def leS (a b : ElS) : Prop := ltL a.ps b.ps = false
/-- x must stand ahead of y. -/
def ltS (a b : ElS) : Bool := ltL b.ps a.ps
theorem leS_of_not {a b : ElS} (h : ltS b a = false) : leS a b := h
theorem leS_of_lt {a b : ElS} (h : ltS a b = true) : leS a b := by
  unfold leS
  cases h2 : ltL a.ps b.ps with
  | false => rfl
  | true =>
    have := ltL_trans h2 h
    rw [ltL_irr] at this
    cases this
theorem leS_trans {a b c : ElS} (h : leS a b) (k : leS b c) : leS a c := by
  unfold leS at *
  cases h1 : ltL a.ps c.ps with
  | false => rfl
  | true =>
    cases h2 : ltL c.ps b.ps with
    | true => rw [ltL_trans h1 h2] at h; cases h
    | false => rw [← ltL_tri k h2] at h1; rw [h1] at h; cases h
def SrtS (X : List ElS) : Prop := X.Pairwise leS
theorem srt_nil : SrtS [] := List.Pairwise.nil
theorem srt_one (x : ElS) : SrtS [x] := by simp [SrtS]
theorem srt_append {X Y : List ElS} : SrtS (X ++ Y) ↔ SrtS X ∧ SrtS Y ∧ ∀ x ∈ X, ∀ y ∈ Y, leS x y := List.pairwise_append
theorem srt_at {X : List ElS} (h : SrtS X) {i j : Nat} {x y : ElS} (hi : X[i]? = some x) (hj : X[j]? = some y) (hij : i < j) : leS x y := by
  obtain ⟨h1, rfl⟩ := List.getElem?_eq_some_iff.1 hi
  obtain ⟨h2, rfl⟩ := List.getElem?_eq_some_iff.1 hj
  exact List.pairwise_iff_getElem.1 h i j h1 h2 hij

/-- An element put into its place. -/
theorem ins_done {S1 S2 : List ElS} {x : ElS} (h : SrtS (S1 ++ S2)) (h2 : ∀ y ∈ S2, ltS x y = true) (h1 : S1 = [] ∨ ∃ T y, S1 = T ++ [y] ∧ ltS x y = false) : SrtS (S1 ++ x :: S2) := by
  rw [srt_append] at h
  rw [srt_append]
  refine ⟨h.1, List.pairwise_cons.2 ⟨fun y hy => leS_of_lt (h2 y hy), h.2.1⟩, fun a ha b hb => ?_⟩
  have hax : leS a x := by
    rcases h1 with rfl | ⟨T, y, rfl, hy⟩
    · cases ha
    · rw [List.mem_append] at ha
      rcases ha with ha | ha
      · exact leS_trans ((srt_append.1 h.1).2.2 a ha y (by simp)) (leS_of_not hy)
      · simp at ha; subst ha; exact leS_of_not hy
  simp at hb
  rcases hb with rfl | hb
  · exact hax
  · exact leS_trans hax (leS_of_lt (h2 b hb))

/-- Two halves that were sorted, each merged out of parts of two sorted lists. -/
theorem merge_done {L1 L2 R1 R2 S1 S2 : List ElS} (hL : SrtS (L1 ++ L2)) (hR : SrtS (R1 ++ R2)) (h1 : L1 = [] ∨ R2 = [] ∨ ∃ x y, L1[L1.length - 1]? = some x ∧ R2[0]? = some y ∧ leS x y)
    (h2 : L2 = [] ∨ R1 = [] ∨ ∃ x y, R1[R1.length - 1]? = some x ∧ L2[0]? = some y ∧ leS x y) (p1 : S1.Perm (L1 ++ R1)) (p2 : S2.Perm (L2 ++ R2)) (s1 : SrtS S1) (s2 : SrtS S2) :
    SrtS (S1 ++ S2) ∧ (S1 ++ S2).Perm ((L1 ++ L2) ++ (R1 ++ R2)) := by
  rw [srt_append] at hL hR
  have key : ∀ (A B : List ElS) (x y : ElS), SrtS A → SrtS B → A[A.length - 1]? = some x → B[0]? = some y → leS x y → ∀ a ∈ A, ∀ b ∈ B, leS a b := by
    intro A B x y hA hB hx hy hxy a ha b hb
    obtain ⟨i, hi, rfl⟩ := List.getElem_of_mem ha
    obtain ⟨j, hj, rfl⟩ := List.getElem_of_mem hb
    have hax : leS A[i] y := by
      by_cases hil : i = A.length - 1
      · subst hil
        rw [List.getElem?_eq_getElem hi] at hx
        simp at hx
        rw [hx]; exact hxy
      · exact leS_trans (srt_at hA (List.getElem?_eq_getElem hi) hx (by omega)) hxy
    by_cases hj0 : j = 0
    · subst hj0
      rw [List.getElem?_eq_getElem hj] at hy
      simp at hy
      rw [hy]; exact hax
    · exact leS_trans hax (srt_at hB hy (List.getElem?_eq_getElem hj) (by omega))
  refine ⟨srt_append.2 ⟨s1, s2, fun a ha b hb => ?_⟩, ?_⟩
  · rw [p1.mem_iff, List.mem_append] at ha
    rw [p2.mem_iff, List.mem_append] at hb
    rcases ha with ha | ha <;> rcases hb with hb | hb
    · exact hL.2.2 a ha b hb
    · rcases h1 with rfl | rfl | ⟨x, y, hx, hy, hxy⟩
      · cases ha
      · cases hb
      · exact key L1 R2 x y hL.1 hR.2.1 hx hy hxy a ha b hb
    · rcases h2 with rfl | rfl | ⟨x, y, hx, hy, hxy⟩
      · cases hb
      · cases ha
      · exact key R1 L2 x y hR.1 hL.2.1 hx hy hxy a ha b hb
    · exact hR.2.2 a ha b hb
  · refine (p1.append p2).trans ?_
    rw [List.append_assoc, List.append_assoc]
    refine List.Perm.append_left _ ?_
    rw [← List.append_assoc, ← List.append_assoc]
    exact List.Perm.append_right _ List.perm_append_comm

theorem at_mid {A C : List ElS} {x : ElS} {k : Nat} (hk : A.length = k) : (A ++ x :: C)[k]? = some x := by subst hk; simp
theorem set_mid' {A C : List ElS} {x y : ElS} {k : Nat} (hk : A.length = k) : (A ++ x :: C).set k y = A ++ y :: C := by subst hk; simp
end Go.Proofs.YtbcjhpgkodeoeaaGreatDoor

/- Rows of monomials of the call's own, element by element. Conditions: none. -/
namespace Go.Proofs.YtbcjhpgkodeoeaaGreatDoor
open Go.RowKit Go.Sort

def keepE (X : List ElS) : List ElS := X.filter fun x => decide (x.c ≠ 0)
theorem keepE_snoc (X : List ElS) (x : ElS) : keepE (X ++ [x]) = keepE X ++ if x.c = 0 then [] else [x] := by
  by_cases h : x.c = 0 <;> simp [keepE, h]

-- a row of monomials of the call's own, element by element
theorem ownEls_S {e : Nat} {w : World} : ∀ {us : List (List Value)} {xs : List MonZ} {fs : List Nat}, OwnEls (OElMon e) w us xs fs →
    ∃ X : List ElS, X.map monS = xs ∧ rowS X = us.flatten ∧ fs = X.flatMap ElS.f ∧ ∀ x ∈ X, I64 x.c ∧ OwnI e w x.v x.ps x.f
  | [], [], fs, h => ⟨[], rfl, rfl, h, fun x hx => by cases hx⟩
  | [], _ :: _, _, h => by simp [OwnEls] at h
  | _ :: _, [], _, h => by simp [OwnEls] at h
  | u :: us, m :: xs, fs, h => by
    obtain ⟨f, fs', rfl, ⟨vP, rfl, hI, ho⟩, h2⟩ := h
    obtain ⟨X, h3, h4, h5, h6⟩ := ownEls_S h2
    obtain ⟨ad, l, k, rfl, _⟩ := ownI_open ho
    refine ⟨⟨m.coef, ad, l, k, m.pows, f⟩ :: X, by simp [monS, h3], by rw [rowS_cons, h4, List.flatten_cons], by simp [h5], fun x hx => ?_⟩
    rw [List.mem_cons] at hx
    rcases hx with rfl | hx
    · exact ⟨hI, ho⟩
    · exact h6 x hx
theorem s_ownEls {e : Nat} {w : World} : ∀ {X : List ElS}, (∀ x ∈ X, I64 x.c ∧ OwnI e w x.v x.ps x.f) → OwnEls (OElMon e) w (X.map encS) (X.map monS) (X.flatMap ElS.f)
  | [], _ => rfl
  | x :: X, h => ⟨x.f, X.flatMap ElS.f, by simp, ⟨x.v, rfl, (h x (by simp)).1, (h x (by simp)).2⟩, s_ownEls (fun y hy => h y (by simp [hy]))⟩
theorem s_ownMs {e2 e : Nat} {w : World} {v : Value} {X : List ElS} (hr : w.ownsRow 0 e2 2 v X.length (rowS X)) (h : ∀ x ∈ X, I64 x.c ∧ OwnI e w x.v x.ps x.f) (hn : (v.ownBlock.toList ++ X.flatMap ElS.f).Nodup) :
    OwnMs e2 e w v (X.map monS) (v.ownBlock.toList ++ X.flatMap ElS.f) :=
  ⟨X.map encS, X.flatMap ElS.f, by rw [List.length_map]; exact hr, fun u hu => by
    obtain ⟨x, _, rfl⟩ := List.mem_map.1 hu
    rfl, s_ownEls h, rfl, hn⟩

theorem fresh_only {fp : List Nat} {w w' : World} {g' : Nat} (h : Only (g' :: fp) w w') (hg : w.heap.size ≤ g') : Only fp w w' :=
  ⟨h.os, h.tape, h.output, h.size, fun k hk hn => h.block k hk (by simp only [List.mem_cons, not_or]; exact ⟨by omega, hn⟩)⟩

theorem keepE_map (X : List ElS) : (keepE X).map monS = keptL (X.map monS) := by
  unfold keepE keptL
  rw [List.filter_map]
  rfl
theorem sub_flat {Y X : List ElS} (h : Y.Sublist X) : (Y.flatMap ElS.f).Sublist (X.flatMap ElS.f) := by
  induction h with
  | slnil => exact List.Sublist.refl _
  | cons a _ ih => rw [List.flatMap_cons]; exact ih.trans (List.sublist_append_right _ _)
  | cons_cons a _ ih => rw [List.flatMap_cons, List.flatMap_cons]; exact ih.append_left _
theorem keepE_sub (X : List ElS) : ((keepE X).flatMap ElS.f).Sublist (X.flatMap ElS.f) := sub_flat List.filter_sublist
end Go.Proofs.YtbcjhpgkodeoeaaGreatDoor

/- The reference's test that two lists are the same. Conditions: none. -/
namespace Go.Proofs.YtbcjhpgkodeoeaaGreatDoor
open Go.RowKit Go.Sort

theorem same_ltL {a b : List Int} : decide (a = b) = (!ltL a b && !ltL b a) := by
  by_cases h : a = b
  · subst h; simp [ltL_irr]
  · rw [decide_eq_false h]
    cases h1 : ltL a b with
    | true => rfl
    | false =>
      cases h2 : ltL b a with
      | true => rfl
      | false => exact absurd (ltL_tri h1 h2) h
theorem same_any (va vb : Value) (xs ys : List Int) (w : World) (ha : RdI w va xs) (hb : RdI w vb ys) :
    Calls Tryz.prog 154 #[va, vb] w (Qt (.bool (decide (xs = ys))) w) := by
  cases h1 : ltL xs ys with
  | true =>
    have HN := Lib.hid (show decide (xs = ys) = false by rw [same_ltL, h1]; rfl)
    go_enter Tryz.func154, Tryz.ntmps154
    go_wp2_with fail
    refine (l2Less_eq _ _ xs ys _ ha hb h1).mono ?_
    rintro e w1 ⟨rfl, m, rfl⟩
    go_wp2
    go_ret
    exact ⟨ret_bool HN.out.symm, m, rfl⟩
  | false =>
    cases h2 : ltL ys xs with
    | true =>
      have HN := Lib.hid (show decide (xs = ys) = false by rw [same_ltL, h1, h2]; rfl)
      go_enter Tryz.func154, Tryz.ntmps154
      go_wp2_with fail
      refine (l2Less_eq _ _ xs ys _ ha hb h1).mono ?_
      rintro e w1 ⟨rfl, m, rfl⟩
      go_wp2_with fail
      refine (l2Less_eq _ _ ys xs _ (rdI_drewN m hb) (rdI_drewN m ha) h2).mono ?_
      rintro e w1 ⟨rfl, m2, rfl⟩
      go_wp2
      go_ret
      exact ⟨ret_bool HN.out.symm, _, rfl⟩
    | false =>
      have HN := Lib.hid (show decide (xs = ys) = true by rw [same_ltL, h1, h2]; rfl)
      go_enter Tryz.func154, Tryz.ntmps154
      go_wp2_with fail
      refine (l2Less_eq _ _ xs ys _ ha hb h1).mono ?_
      rintro e w1 ⟨rfl, m, rfl⟩
      go_wp2_with fail
      refine (l2Less_eq _ _ ys xs _ (rdI_drewN m hb) (rdI_drewN m ha) h2).mono ?_
      rintro e w1 ⟨rfl, m2, rfl⟩
      go_wp2
      go_ret
      exact ⟨ret_bool HN.out.symm, _, rfl⟩
theorem same_eq {c : Bool} (va vb : Value) (xs ys : List Int) (w : World) (ha : RdI w va xs) (hb : RdI w vb ys) (h : decide (xs = ys) = c) :
    Calls Tryz.prog 154 #[va, vb] w (Qt (.bool c) w) := h ▸ same_any va vb xs ys w ha hb
end Go.Proofs.YtbcjhpgkodeoeaaGreatDoor
