/- Polynomials put together: a list in descending order without zeros is fixed by the sums of its numbers. In plain lists. Conditions: numbers. -/
import Derived.Test.YtbcjhpgkodeoeaaG08
set_option linter.unusedSimpArgs false
set_option linter.unusedVariables false

namespace Go.Proofs.Ytbcjhpgkodeoeaa
open Go.RowKit Go.Sort

theorem ltL_irr : ∀ a : List Int, ltL a a = false
  | [] => rfl
  | x :: xs => by simp [ltL, ltL_irr xs]
theorem ltL_trans : ∀ {a b c : List Int}, ltL a b = true → ltL b c = true → ltL a c = true
  | _, [], _ => by intro h; simp [ltL] at h
  | _, _ :: _, [] => by intro _ h; simp [ltL] at h
  | [], _ :: _, _ :: _ => by intros; rfl
  | x :: xs, y :: ys, z :: zs => by
    intro h k
    simp only [ltL] at h k ⊢
    by_cases h1 : x = y
    · subst h1
      by_cases h2 : x = z
      · subst h2
        simp at h k ⊢
        exact ltL_trans h k
      · rw [if_neg h2] at k ⊢
        exact k
    · rw [if_neg h1] at h
      simp at h
      by_cases h2 : y = z
      · subst h2
        rw [if_neg (by omega)]
        simp [h]
      · rw [if_neg h2] at k
        simp at k
        rw [if_neg (by omega)]
        simp
        omega
theorem ltL_tri : ∀ {a b : List Int}, ltL a b = false → ltL b a = false → a = b
  | [], [] => by intros; rfl
  | [], _ :: _ => by intro h; simp [ltL] at h
  | _ :: _, [] => by intro _ h; simp [ltL] at h
  | x :: xs, y :: ys => by
    intro h k
    simp only [ltL] at h k
    by_cases h1 : x = y
    · subst h1
      simp at h k
      rw [ltL_tri h k]
    · rw [if_neg h1] at h
      rw [if_neg (fun e => h1 e.symm)] at k
      simp at h k
      omega
theorem ltL_ne {a b : List Int} (h : ltL a b = true) : a ≠ b := by
  rintro rfl
  rw [ltL_irr] at h
  cases h

/-- The sum of the numbers at some powers. -/
def coefAt (ps : List Int) : List MonZ → Int
  | [] => 0
  | m :: l => (if m.pows = ps then m.coef else 0) + coefAt ps l
theorem coefAt_zero {ps : List Int} : ∀ {l : List MonZ}, (∀ m ∈ l, m.pows ≠ ps) → coefAt ps l = 0
  | [], _ => rfl
  | m :: l, h => by
    rw [coefAt, if_neg (h m (by simp)), coefAt_zero (fun x hx => h x (by simp [hx]))]
    rfl
theorem coefAt_append (ps : List Int) : ∀ a b : List MonZ, coefAt ps (a ++ b) = coefAt ps a + coefAt ps b
  | [], b => by simp [coefAt]
  | m :: a, b => by simp [coefAt, coefAt_append ps a b]; omega
theorem coefAt_perm {ps : List Int} {a b : List MonZ} (h : a.Perm b) : coefAt ps a = coefAt ps b := by
  induction h with
  | nil => rfl
  | cons x _ ih => simp [coefAt, ih]
  | swap x y l => simp [coefAt]; omega
  | trans _ _ h1 h2 => rw [h1, h2]
theorem coefAt_kept (ps : List Int) : ∀ l : List MonZ, coefAt ps (l.filter fun m => decide (m.coef ≠ 0)) = coefAt ps l
  | [] => rfl
  | m :: l => by
    have ih := coefAt_kept ps l
    by_cases h : m.coef = 0
    · rw [List.filter_cons_of_neg (by simp [h]), ih, coefAt]
      split <;> omega
    · rw [List.filter_cons_of_pos (by simp [h]), coefAt, coefAt, ih]

def Desc (l : List MonZ) : Prop := l.Pairwise fun a b => ltL b.pows a.pows = true
def NumsM (l : List MonZ) : Prop := ∀ m ∈ l, 0 ≤ m.coef ∧ m.coef ≤ 1000000270
def Canon (l : List MonZ) : Prop := Desc l ∧ NumsM l ∧ ∀ m ∈ l, m.coef ≠ 0

theorem canon_tail {m : MonZ} {l : List MonZ} (h : Canon (m :: l)) : Canon l :=
  ⟨(List.pairwise_cons.1 h.1).2, fun x hx => h.2.1 x (by simp [hx]), fun x hx => h.2.2 x (by simp [hx])⟩
theorem canon_below {m : MonZ} {l : List MonZ} (h : Desc (m :: l)) {ps : List Int} (hp : m.pows = ps ∨ ltL m.pows ps = true) : coefAt ps l = 0 :=
  coefAt_zero fun x hx => ltL_ne (by
    have h1 := (List.pairwise_cons.1 h).1 x hx
    rcases hp with rfl | hp
    · exact h1
    · exact ltL_trans h1 hp)
theorem canon_unique : ∀ {a b : List MonZ}, Canon a → Canon b → (∀ ps, coefAt ps a % 1000000271 = coefAt ps b % 1000000271) → a = b
  | [], [], _, _, _ => rfl
  | [], n :: b, _, hb, h => by
    exfalso
    have h1 := h n.pows
    rw [coefAt, coefAt, if_pos rfl, canon_below hb.1 (.inl rfl)] at h1
    have h2 := hb.2.1 n (by simp)
    have h3 := hb.2.2 n (by simp)
    omega
  | m :: a, [], ha, _, h => by
    exfalso
    have h1 := h m.pows
    rw [show coefAt m.pows [] = 0 from rfl, coefAt, if_pos rfl, canon_below ha.1 (.inl rfl)] at h1
    have h2 := ha.2.1 m (by simp)
    have h3 := ha.2.2 m (by simp)
    omega
  | m :: a, n :: b, ha, hb, h => by
    have m2 := ha.2.1 m (by simp)
    have m3 := ha.2.2 m (by simp)
    have n2 := hb.2.1 n (by simp)
    have n3 := hb.2.2 n (by simp)
    by_cases h1 : ltL m.pows n.pows = true
    · exfalso
      have h4 := h n.pows
      rw [coefAt, coefAt, if_pos rfl, if_neg (ltL_ne h1), canon_below ha.1 (.inr h1), canon_below hb.1 (.inl rfl)] at h4
      omega
    · by_cases h2 : ltL n.pows m.pows = true
      · exfalso
        have h4 := h m.pows
        rw [coefAt, coefAt, if_pos rfl, if_neg (ltL_ne h2), canon_below ha.1 (.inl rfl), canon_below hb.1 (.inr h2)] at h4
        omega
      · have hp : m.pows = n.pows := ltL_tri (by simpa using h1) (by simpa using h2)
        have h4 := h m.pows
        rw [coefAt, coefAt, if_pos rfl, if_pos hp.symm, canon_below ha.1 (.inl rfl), canon_below hb.1 (.inl hp.symm)] at h4
        have hc : m.coef = n.coef := by omega
        have hmn : m = n := by
          cases m; cases n
          simp at hp hc
          rw [hp, hc]
        subst hmn
        refine congrArg _ (canon_unique (canon_tail ha) (canon_tail hb) fun ps => ?_)
        have h5 := h ps
        rw [coefAt, coefAt] at h5
        omega

-- the reference: a monomial put into a polynomial
/-- what the loop of the reference goes through: the rest, the number so far, whether it has been placed -/
def putA (pw : List Int) : List MonZ → Int → Bool → List MonZ
  | [], c, placed => if placed = true then [] else [⟨c, pw⟩]
  | x :: xs, c, placed =>
    if x.pows = pw then putA pw xs (plusZ c x.coef) placed
    else if placed = false ∧ ltL x.pows pw = true then ⟨c, pw⟩ :: x :: putA pw xs c true
    else x :: putA pw xs c placed
def keptL (l : List MonZ) : List MonZ := l.filter fun m => decide (m.coef ≠ 0)
def putL (p : List MonZ) (m : MonZ) : List MonZ := keptL (putA m.pows p m.coef false)
def insA (pw : List Int) (c : Int) : List MonZ → List MonZ
  | [] => [⟨c, pw⟩]
  | x :: xs => if x.pows = pw then ⟨plusZ c x.coef, pw⟩ :: xs else if ltL x.pows pw = true then ⟨c, pw⟩ :: x :: xs else x :: insA pw c xs
theorem putA_below {pw : List Int} : ∀ {xs : List MonZ} (c : Int), (∀ x ∈ xs, ltL x.pows pw = true) → putA pw xs c true = xs ∧ putA pw xs c false = ⟨c, pw⟩ :: xs
  | [], c, _ => by simp [putA]
  | x :: xs, c, h => by
    have h1 := h x (by simp)
    have ih := putA_below (xs := xs) c (fun y hy => h y (by simp [hy]))
    refine ⟨?_, ?_⟩
    · rw [putA, if_neg (ltL_ne h1), if_neg (by simp), ih.1]
    · rw [putA, if_neg (ltL_ne h1), if_pos ⟨rfl, h1⟩, ih.1]
theorem putA_ins {pw : List Int} : ∀ {xs : List MonZ} (c : Int), Desc xs → putA pw xs c false = insA pw c xs
  | [], c, _ => by simp [putA, insA]
  | x :: xs, c, h => by
    have hp := List.pairwise_cons.1 h
    by_cases h1 : x.pows = pw
    · subst h1
      rw [putA, insA, if_pos rfl, if_pos rfl, (putA_below _ hp.1).2]
    · by_cases h2 : ltL x.pows pw = true
      · rw [putA, insA, if_neg h1, if_neg h1, if_pos ⟨rfl, h2⟩, if_pos h2, (putA_below _ fun y hy => ltL_trans (hp.1 y hy) h2).1]
      · rw [putA, insA, if_neg h1, if_neg h1, if_neg (by simp [h2]), if_neg h2, putA_ins c hp.2]
theorem insA_mem {pw : List Int} {c : Int} : ∀ {xs : List MonZ} {y : MonZ}, y ∈ insA pw c xs → y ∈ xs ∨ y.pows = pw
  | [], y, h => by simp [insA] at h; right; rw [h]
  | x :: xs, y, h => by
    rw [insA] at h
    split at h
    · simp at h
      rcases h with rfl | h
      · right; rfl
      · left; simp [h]
    · split at h
      · simp at h
        rcases h with rfl | rfl | h
        · right; rfl
        · left; simp
        · left; simp [h]
      · simp at h
        rcases h with rfl | h
        · left; simp
        · rcases insA_mem h with h | h
          · left; simp [h]
          · right; exact h
theorem insA_desc {pw : List Int} {c : Int} : ∀ {xs : List MonZ}, Desc xs → Desc (insA pw c xs)
  | [], _ => by simp [insA, Desc]
  | x :: xs, h => by
    have hp := List.pairwise_cons.1 h
    rw [insA]
    split
    · rename_i h1
      subst h1
      exact List.pairwise_cons.2 ⟨hp.1, hp.2⟩
    · rename_i h1
      split
      · rename_i h2
        refine List.pairwise_cons.2 ⟨fun y hy => ?_, h⟩
        simp at hy
        rcases hy with rfl | hy
        · exact h2
        · exact ltL_trans (hp.1 y hy) h2
      · rename_i h2
        refine List.pairwise_cons.2 ⟨fun y hy => ?_, insA_desc hp.2⟩
        rcases insA_mem hy with hy | hy
        · exact hp.1 y hy
        · rw [hy]
          cases h3 : ltL pw x.pows with
          | true => rfl
          | false => exact absurd (ltL_tri (by simpa using h2) h3) h1
theorem insA_nums {pw : List Int} {c : Int} (hc : 0 ≤ c ∧ c ≤ 1000000270) : ∀ {xs : List MonZ}, NumsM xs → NumsM (insA pw c xs)
  | [], _ => by intro y hy; simp [insA] at hy; rw [hy]; exact hc
  | x :: xs, h => by
    have ih := insA_nums (pw := pw) hc (xs := xs) (fun y hy => h y (by simp [hy]))
    intro y hy
    rw [insA] at hy
    split at hy
    · simp at hy
      rcases hy with rfl | hy
      · exact plusZ_bd _ _
      · exact h y (by simp [hy])
    · split at hy
      · simp at hy
        rcases hy with rfl | rfl | hy
        · exact hc
        · exact h y (by simp)
        · exact h y (by simp [hy])
      · simp at hy
        rcases hy with rfl | hy
        · exact h y (by simp)
        · exact ih y hy
theorem insA_coef (ps pw : List Int) (c : Int) : ∀ xs : List MonZ, coefAt ps (insA pw c xs) % 1000000271 = (coefAt ps xs + if pw = ps then c else 0) % 1000000271
  | [] => by simp [insA, coefAt]
  | x :: xs => by
    have ih := insA_coef ps pw c xs
    rw [insA]
    split
    · rename_i h1
      subst h1
      simp only [coefAt, plusZ]
      split <;> omega
    · split
      · simp only [coefAt]
        omega
      · simp only [coefAt]
        omega
theorem putL_canon {p : List MonZ} (h : Canon p) {m : MonZ} (hm : 0 ≤ m.coef ∧ m.coef ≤ 1000000270) : Canon (putL p m) ∧ ∀ ps, coefAt ps (putL p m) % 1000000271 = (coefAt ps p + if m.pows = ps then m.coef else 0) % 1000000271 := by
  unfold putL keptL
  rw [putA_ins _ h.1]
  refine ⟨⟨(insA_desc h.1).filter _, fun x hx => insA_nums hm h.2.1 x (List.mem_filter.1 hx).1, fun x hx => by simpa using (List.mem_filter.1 hx).2⟩, fun ps => ?_⟩
  rw [coefAt_kept, insA_coef]
theorem nums_nil : NumsM [] := fun m hm => by cases hm
theorem canon_nil : Canon [] := ⟨List.Pairwise.nil, nums_nil, fun m hm => by cases hm⟩
/-- .. one after the other -/
def putAll (p q : List MonZ) : List MonZ := q.foldl putL p
theorem putAll_canon : ∀ {q p : List MonZ}, Canon p → NumsM q → Canon (putAll p q) ∧ ∀ ps, coefAt ps (putAll p q) % 1000000271 = (coefAt ps p + coefAt ps q) % 1000000271
  | [], p, h, _ => ⟨h, fun ps => by simp [putAll, coefAt]⟩
  | m :: q, p, h, hq => by
    have h1 := putL_canon h (hq m (by simp))
    have h2 := putAll_canon (q := q) h1.1 (fun x hx => hq x (by simp [hx]))
    refine ⟨h2.1, fun ps => ?_⟩
    have h3 := h2.2 ps
    have h4 := h1.2 ps
    rw [coefAt]
    simp only [putAll, List.foldl_cons] at h3 ⊢
    omega

-- the program: a sorted list merged
def DescW (l : List MonZ) : Prop := l.Pairwise fun a b => ltL a.pows b.pows = false
/-- one more monomial behind those merged -/
def mergeOne (out : List MonZ) (m : MonZ) : List MonZ :=
  match out.getLast? with
  | some l => if l.pows = m.pows then out.dropLast ++ [⟨plusZ l.coef m.coef, l.pows⟩] else out ++ [m]
  | none => [m]
def mergeL (l : List MonZ) : List MonZ := l.foldl mergeOne []
theorem mergeOne_snoc (o : List MonZ) (x m : MonZ) : mergeOne (o ++ [x]) m = if x.pows = m.pows then o ++ [⟨plusZ x.coef m.coef, x.pows⟩] else o ++ [x] ++ [m] := by
  simp [mergeOne]
theorem snoc_cases {α : Type} (l : List α) : l = [] ∨ ∃ o x, l = o ++ [x] := by
  rcases List.eq_nil_or_concat l with h | ⟨o, x, h⟩
  · left; exact h
  · right; exact ⟨o, x, by simpa using h⟩
structure MergeInv (out rest : List MonZ) : Prop where
  desc : Desc out
  nums : NumsM out
  last : ∀ o x, out = o ++ [x] → ∀ y ∈ rest, ltL x.pows y.pows = false
theorem mergeInv_next {out rest : List MonZ} {m : MonZ} (h : MergeInv out (m :: rest)) (hm : 0 ≤ m.coef ∧ m.coef ≤ 1000000270) (hr : ∀ y ∈ rest, ltL m.pows y.pows = false) :
    MergeInv (mergeOne out m) rest ∧ ∀ ps, coefAt ps (mergeOne out m) % 1000000271 = (coefAt ps out + if m.pows = ps then m.coef else 0) % 1000000271 := by
  rcases snoc_cases out with rfl | ⟨o, x, rfl⟩
  · refine ⟨⟨by simp [mergeOne, Desc], fun y hy => ?_, fun o x he y hy => ?_⟩, fun ps => by simp [mergeOne, coefAt]⟩
    · simp [mergeOne] at hy
      rw [hy]; exact hm
    · simp [mergeOne] at he
      have : x = m := by
        cases o with
        | nil => simpa using he.symm
        | cons a o => simp at he
      rw [this]; exact hr y hy
  · rw [mergeOne_snoc]
    have hx := h.last o x rfl m (by simp)
    have hnx := h.nums x (by simp)
    split
    · rename_i he
      refine ⟨⟨?_, fun y hy => ?_, fun o' x' he' y hy => ?_⟩, fun ps => ?_⟩
      · have hd := h.desc
        unfold Desc at hd ⊢
        rw [List.pairwise_append] at hd ⊢
        exact ⟨hd.1, by simp, fun a ha b hb => by simp at hb; rw [hb]; exact hd.2.2 a ha x (by simp)⟩
      · simp at hy
        rcases hy with hy | rfl
        · exact h.nums y (by simp [hy])
        · exact plusZ_bd _ _
      · have := List.append_inj_right' he' rfl
        simp at this
        rw [← this]
        simp only
        rw [he]
        exact hr y hy
      · simp only [coefAt_append, coefAt, plusZ]
        rw [he]
        split <;> omega
    · rename_i he
      refine ⟨⟨?_, fun y hy => ?_, fun o' x' he' y hy => ?_⟩, fun ps => ?_⟩
      · have hd := h.desc
        unfold Desc at hd ⊢
        rw [List.pairwise_append] at hd ⊢
        refine ⟨by rw [List.pairwise_append]; exact hd, by simp, fun a ha b hb => ?_⟩
        simp at hb
        subst hb
        have hmx : ltL b.pows x.pows = true := by
          cases h3 : ltL b.pows x.pows with
          | true => rfl
          | false => exact absurd (ltL_tri hx h3) he
        simp at ha
        rcases ha with ha | rfl
        · exact ltL_trans hmx (hd.2.2 a ha x (by simp))
        · exact hmx
      · simp at hy
        rcases hy with hy | rfl | rfl
        · exact h.nums y (by simp [hy])
        · exact hnx
        · exact hm
      · have := List.append_inj_right' he' rfl
        simp at this
        rw [← this]
        exact hr y hy
      · simp only [coefAt_append, coefAt]
        omega
theorem mergeL_inv : ∀ {rest out : List MonZ}, MergeInv out rest → NumsM rest → DescW rest → MergeInv (rest.foldl mergeOne out) [] ∧ ∀ ps, coefAt ps (rest.foldl mergeOne out) % 1000000271 = (coefAt ps out + coefAt ps rest) % 1000000271
  | [], out, h, _, _ => ⟨h, fun ps => by simp [coefAt]⟩
  | m :: rest, out, h, hn, hd => by
    have hp := List.pairwise_cons.1 hd
    have h1 := mergeInv_next h (hn m (by simp)) hp.1
    have h2 := mergeL_inv h1.1 (fun x hx => hn x (by simp [hx])) hp.2
    refine ⟨h2.1, fun ps => ?_⟩
    have h3 := h2.2 ps
    have h4 := h1.2 ps
    rw [coefAt]
    simp only [List.foldl_cons] at h3 ⊢
    omega
def collL (l : List MonZ) : List MonZ := keptL (mergeL l)
/-- What the program merges out of a list sorted in any way is what the reference puts together. -/
theorem collL_put {p q : List MonZ} (hp : p.Perm q) (hd : DescW q) (hn : NumsM p) : collL q = putAll [] p := by
  have hq : NumsM q := fun x hx => hn x (hp.mem_iff.2 hx)
  have h1 := mergeL_inv (out := []) ⟨List.Pairwise.nil, nums_nil, fun o x he => absurd he (by simp)⟩ hq hd
  have h2 := putAll_canon canon_nil hn
  refine canon_unique ⟨h1.1.desc.filter _, fun x hx => h1.1.nums x (List.mem_filter.1 hx).1, fun x hx => by simpa using (List.mem_filter.1 hx).2⟩ h2.1 fun ps => ?_
  rw [h2.2, collL, keptL, coefAt_kept, mergeL, h1.2, coefAt_perm hp]
end Go.Proofs.Ytbcjhpgkodeoeaa
