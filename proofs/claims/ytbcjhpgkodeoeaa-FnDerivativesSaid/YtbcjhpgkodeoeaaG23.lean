/- The texts SolP, SolC, Swap in one: each says at its head what it proves. Conditions: as said there. -/
import Derived.Test.YtbcjhpgkodeoeaaG22
import Derived.Test.YtbcjhpgkodeoeaaG05
set_option linter.unusedSimpArgs false
set_option linter.unusedVariables false
/- Systems solved by reduction, as a function. Plain: no program's step stands here. -/
namespace Go.Proofs.Ytbcjhpgkodeoeaa

/-- the first i rows have their right sides behind them -/
def augI (rows : List (List Int)) (right : List Int) (i : Nat) : List (List Int) := (List.range rows.length).map fun k => if k < i then atL rows k ++ [atZ right k] else atL rows k
theorem augI_len (rows : List (List Int)) (right : List Int) (i : Nat) : (augI rows right i).length = rows.length := by simp [augI]
theorem augI_get {rows : List (List Int)} {right : List Int} {i k : Nat} (h : k < rows.length) : (augI rows right i)[k]? = some (if k < i then atL rows k ++ [atZ right k] else atL rows k) := by simp [augI, h]
theorem augI_zero (rows : List (List Int)) (right : List Int) : augI rows right 0 = rows := by
  refine List.ext_getElem? fun k => ?_
  by_cases h : k < rows.length
  · rw [augI_get h, if_neg (by omega), atL_get (List.getElem?_eq_getElem h), List.getElem?_eq_getElem h]
  · rw [List.getElem?_eq_none (by rw [augI_len]; omega), List.getElem?_eq_none (by omega)]
theorem augI_done {rows : List (List Int)} {right : List Int} {i : Nat} (h : rows.length ≤ i) : augI rows right i = augZ rows right := by
  refine List.ext_getElem? fun k => ?_
  by_cases hk : k < rows.length
  · rw [augI_get hk, if_pos (by omega)]
    simp [augZ, hk]
  · rw [List.getElem?_eq_none (by rw [augI_len]; omega), List.getElem?_eq_none (by rw [augZ_len]; omega)]
theorem augI_next {rows : List (List Int)} {right : List Int} {i : Nat} (h : i < rows.length) : (augI rows right i).set i (atL rows i ++ [atZ right i]) = augI rows right (i + 1) := by
  refine List.ext_getElem? fun k => ?_
  by_cases hk : k < rows.length
  · rw [augI_get hk]
    by_cases hki : k = i
    · subst hki
      rw [List.getElem?_set_self (by rw [augI_len]; exact hk), if_pos (by omega)]
    · rw [List.getElem?_set_ne (fun h => hki h.symm), augI_get hk]
      by_cases h2 : k < i
      · rw [if_pos h2, if_pos (by omega)]
      · rw [if_neg h2, if_neg (by omega)]
  · rw [List.getElem?_eq_none (by rw [List.length_set, augI_len]; omega), List.getElem?_eq_none (by rw [augI_len]; omega)]

/-- the answer, filled in row by row -/
def outS (S : List (List Int) × List Nat) (n : Nat) : Nat → List Int
  | 0 => List.replicate n 0
  | i + 1 => if i < S.2.length then (outS S n i).set (S.2[i]?.getD 0) (atZ (atL S.1 i) n) else outS S n i
theorem outS_len (S : List (List Int) × List Nat) (n i : Nat) : (outS S n i).length = n := by
  induction i with
  | zero => simp [outS]
  | succ i ih =>
    rw [outS]
    split
    · rw [List.length_set, ih]
    · exact ih
def badB (S : List (List Int) × List Nat) (n N : Nat) : Bool := (List.range N).any fun i => decide (S.2.length ≤ i) && decide (atZ (atL S.1 i) n ≠ 0)
theorem badB_yes {S : List (List Int) × List Nat} {n N i : Nat} (h1 : S.2.length ≤ i) (h2 : i < N) (h3 : atZ (atL S.1 i) n ≠ 0) : badB S n N = true := by
  rw [badB, List.any_eq_true]
  exact ⟨i, by simpa using h2, by simp [h1, h3]⟩
theorem badB_no {S : List (List Int) × List Nat} {n N : Nat} (h : ∀ i, S.2.length ≤ i → i < N → atZ (atL S.1 i) n = 0) : badB S n N = false := by
  rw [badB, List.any_eq_false]
  intro i hi
  have hi : i < N := by simpa using hi
  simp only [Bool.and_eq_true, decide_eq_true_eq, not_and, ne_eq, Decidable.not_not]
  exact fun h1 => h i h1 hi
def sysB (rows : List (List Int)) (right : List Int) : Bool := rowsB rows && (decide (right.length = rows.length) && right.all isNumB)
def solS (rows : List (List Int)) (right : List Int) : List (List Int) × List Nat := redS (augZ rows right) (atL rows 0).length
def solB (rows : List (List Int)) (right : List Int) : Bool := sysB rows right && !badB (solS rows right) (atL rows 0).length rows.length
def solL (rows : List (List Int)) (right : List Int) : List Int := if solB rows right = true then outS (solS rows right) (atL rows 0).length rows.length else []
theorem solB_sys {rows : List (List Int)} {right : List Int} (h : sysB rows right = false) : solB rows right = false ∧ solL rows right = [] := by
  have : solB rows right = false := by rw [solB, h]; rfl
  exact ⟨this, by rw [solL, this]; rfl⟩
theorem solB_bad {rows : List (List Int)} {right : List Int} (h : badB (solS rows right) (atL rows 0).length rows.length = true) : solB rows right = false ∧ solL rows right = [] := by
  have : solB rows right = false := by rw [solB, h]; simp
  exact ⟨this, by rw [solL, this]; rfl⟩
theorem solB_yes {rows : List (List Int)} {right : List Int} (h1 : sysB rows right = true) (h : badB (solS rows right) (atL rows 0).length rows.length = false) : solB rows right = true ∧ solL rows right = outS (solS rows right) (atL rows 0).length rows.length := by
  have : solB rows right = true := by rw [solB, h1, h]; rfl
  exact ⟨this, by rw [solL, this]; rfl⟩
theorem nums_all {l : List Int} (h : l.all isNumB = true) : Nums l := fun x hx => by
  have := List.all_eq_true.1 h x hx
  simp only [isNumB, decide_eq_true_eq] at this
  omega
theorem all_nums {l : List Int} (h : Nums l) : l.all isNumB = true := List.all_eq_true.2 fun x hx => by
  have := h x hx
  simp only [isNumB, decide_eq_true_eq]
  omega
theorem rowsB_ok {rows : List (List Int)} (h : rowsB rows = true) : RowsOk (atL rows 0).length rows ∧ 1 ≤ rows.length ∧ rows.length ≤ 40 ∧ 1 ≤ (atL rows 0).length ∧ (atL rows 0).length ≤ 40 := by
  simp only [rowsB, inB, Bool.and_eq_true, decide_eq_true_eq, List.all_eq_true, rowB] at h
  obtain ⟨h1, h2, h3⟩ := h
  refine ⟨fun i hi => ?_, by omega, by omega, by omega, by omega⟩
  have hx := List.getElem?_eq_getElem hi
  rw [atL_get hx]
  obtain ⟨h4, h5⟩ := h3 _ (List.getElem_mem hi)
  exact ⟨h4, nums_all (List.all_eq_true.2 h5)⟩
theorem ok_rowsB {rows : List (List Int)} {n : Nat} (h : RowsOk n rows) (h1 : 1 ≤ rows.length) (h2 : rows.length ≤ 40) (h3 : 1 ≤ n) (h4 : n ≤ 40) : rowsB rows = true ∧ (atL rows 0).length = n := by
  have h0 := (h 0 (by omega)).1
  refine ⟨?_, h0⟩
  simp only [rowsB, inB, Bool.and_eq_true, decide_eq_true_eq, rowB]
  refine ⟨by omega, by omega, List.all_eq_true.2 fun r hr => ?_⟩
  obtain ⟨i, hi, rfl⟩ := List.getElem_of_mem hr
  have hx := List.getElem?_eq_getElem hi
  have := h i hi
  rw [atL_get hx] at this
  rw [rowB, this.1, h0, all_nums this.2]
  simp
theorem aug_ok {rows : List (List Int)} {right : List Int} {n : Nat} (h : RowsOk n rows) (hr : Nums right) : RowsOk (n + 1) (augZ rows right) := fun i hi => by
  rw [augZ_len] at hi
  rw [augZ_at hi]
  obtain ⟨h1, h2⟩ := h i hi
  refine ⟨by simp [h1], fun x hx => ?_⟩
  rcases List.mem_append.1 hx with hx | hx
  · exact h2 x hx
  · rw [List.mem_singleton.1 hx]; exact nums_atZ hr i
/-- If some numbers answer the equations, an answer is found. -/
theorem sol_found {rows : List (List Int)} {right : List Int} {n : Nat} (h : RowsOk n rows) (h1 : 1 ≤ rows.length) (h2 : rows.length ≤ 40) (h3 : 1 ≤ n) (h4 : n ≤ 40) (hr : Nums right) (hl : right.length = rows.length) (hs : Solv n rows right) :
    solB rows right = true ∧ (solL rows right).length = n := by
  obtain ⟨g1, g2⟩ := ok_rowsB h h1 h2 h3 h4
  have hsys : sysB rows right = true := by simp only [sysB, g1, hl, decide_true, all_nums hr, Bool.and_self]
  obtain ⟨X, hX, hI⟩ := solv_start h hr hs
  have hinv := redS_inv hI n (by omega)
  obtain ⟨_, k2, _⟩ := redS_ok (aug_ok h hr) n
  rw [augZ_len] at k2
  have hbad : badB (solS rows right) (atL rows 0).length rows.length = false := by
    rw [solS, g2]
    exact badB_no fun i h1 h2 => hinv.last hX h1 (by rw [k2]; exact h2)
  obtain ⟨a1, a2⟩ := solB_yes hsys hbad
  exact ⟨a1, by rw [a2, outS_len, g2]⟩
end Go.Proofs.Ytbcjhpgkodeoeaa

/- The reference's copy of rows. Conditions: rows that are not empty. -/
namespace Go.Proofs.Ytbcjhpgkodeoeaa
open Go.RowKit

set_option maxRecDepth 100000 in
set_option maxHeartbeats 3200000 in
theorem l1Copy_any (v : Value) (rows : List (List Int)) (w : World) (h : RdII w v rows) (h1000 : rows.length ≤ 1000) (hr : ∀ r ∈ rows, 1 ≤ r.length ∧ r.length ≤ 1000) :
    Calls Try.prog 62 #[v] w (Gives (fun w' v fp => OwnII 24 3 w' v rows fp) w) := by
  obtain ⟨ji, hji, hji0, hji1, hji2⟩ := info_parts Try.info_int
  obtain ⟨jl, hjl, hjl0, hjl1, hjl2⟩ := info_parts Try.info_ints
  obtain ⟨ad, len, cap, rfl, hl, hlc, hcm, h'⟩ := rdS_open h
  rw [hl] at h1000
  have HL := Lib.hid hl
  have HR := Lib.hid hr
  have HI0 := Lib.hid (ownII_lit (e1 := 24) (e := 3) w)
  have HB0 := Lib.hid (below_lit w 24)
  clear h hl hr
  go_enter Try.func62, Try.ntmps62
  go_wp2
  go_loopw [3, 4] (fun p j wq => ∃ (q : Nat) (f : List Nat), q ≤ len ∧ j = .int .i64 q ∧ OwnII 24 3 wq p (rows.take q) f ∧ (∀ b ∈ f, w.heap.size ≤ b) ∧ Below w.heap.size w wq) (fun _ j _ => len - (intOf j).toNat)
  case atStart => exact ⟨0, [w.heap.size], Nat.zero_le _, rfl, by simpa using HI0.out, by simp, HB0.out⟩
  case round =>
    obtain ⟨wk, rfl⟩ : ∃ W, W = wr := ⟨_, rfl⟩
    obtain ⟨q, f, hq, rfl, hp, hf, hb⟩ := hrel
    clear HI0 HB0
    by_cases hlt : q < len
    case neg =>
      obtain rfl : q = len := by omega
      rw [List.take_of_length_le (by rw [HL.out]; exact Nat.le_refl _)] at hp
      go_wp2
      go_ret
      exact ⟨_, f, rfl, hp, hf, hb⟩
    obtain ⟨b, off, ad1, len1, cap1, r, rfl, hr, hcell0, h61, h71, h81, h91, _⟩ := rdII_get h' hlt
    obtain ⟨hr1, hr2⟩ := HR.out r (List.mem_of_getElem? hr)
    rw [h61] at hr1 hr2
    have hcell := cell_below hb hcell0
    obtain ⟨adp, capp, us, rfl, hqc, hcpm, hpush⟩ := ownII_push4 hp (n := q) (by rw [List.length_take, HL.out]; omega)
    have h91k := rdI_mono hb h91
    have hlt2 := ownII_lt hp
    have hal : Below wk.heap.size wk (wk.alloc (.cells #[] 3)) := below_lit wk _
    have hcell2 := cell_below hal hcell
    obtain ⟨b1, o1, _, hx1, rfl, hx2⟩ : ∃ b o x, b = x ∧ ad1 = some ⟨b, o, none⟩ ∧ True := by
      obtain ⟨b1, o1, x, h1, _⟩ := rdI_get h91k (k := 0) (by omega)
      exact ⟨b1, o1, _, rfl, h1, trivial⟩
    clear hx1 hx2
    have HNW := Lib.hid (rdI_news (rdI_mono hal h91k))
    have HLN := Lib.hid h61
    have HI := Lib.hid (i64_all h91)
    have HP := Lib.hid hpush
    have HRW := Lib.hid hr
    have HF := Lib.hid hf
    have HB := Lib.hid hb
    have HLT := Lib.hid hlt2
    have HAL := Lib.hid hal
    have HLR := Lib.hid (lit_row (w := wk) (e := 3))
    clear hp hpush hr hf hb h61 h91 h91k hcell0 hlt2 hal
    go_wp2_with (first
      | (at_builtin; refine wpList_append_lies _ rfl _ _ _ rfl 0 3 ji _ 1 8 Try.underlying24 hji hji0 hji1 hji2 rfl (by omega) (.slice (some ⟨wk.heap.size, 0, none⟩) 0 0) 0 [] (by rfl) HLR.out ⟨b1, o1, none⟩ len1 cap1 (r.map (Value.int .i64)) (by rfl) (by rw [List.length_map, HLN.out, Nat.mul_one]) HNW.out (by intro u hu; simp only [List.mem_map] at hu; obtain ⟨z, _, rfl⟩ := hu; rfl) (by omega) (by unfold maxLen; omega) (by omega) (by simp) (wk.heap.size + 1) (by simp) ?_; intro gg capn wa hown1 hgrow hat hlt1; have hP := copy_own HAL.out hown1 (by simpa [Value.ownBlock] using hgrow) (Nat.le_refl _) (by simpa [Value.ownBlock] using hat) HLN.out HI.out; obtain ⟨hPo, hPg, hPb⟩ := hP; simp only [Nat.zero_add]; obtain ⟨hrowa, hcl⟩ := HP.out wa [] (Only.of_below hPb) (by simp); have HNP := Lib.hid hrowa; have HPA := Lib.hid (fun (w2 : World) (gg2 capn2 : Nat) hown2 hgrow2 hat2 => hcl _ r [gg] w2 gg2 capn2 hPo (fun b hb hm => (by have := HLT.out b hm; simp at hb; omega)) hown2 hgrow2 hat2); have HPB := Lib.hid (HB.out.trans (hPb.mono HB.out.size)); have HPG := Lib.hid hPg; clear hown1 hgrow hat hPo hPb hPg hrowa hcl)
      | (at_builtin; refine wpList_append_lies _ rfl _ _ _ rfl 0 24 jl _ 1 24 Try.underlying30 hjl hjl0 hjl1 hjl2 rfl (by omega) (.slice adp q capp) q _ (by rfl) (HNP.out.alloc _) ⟨wa.heap.size, 0, none⟩ 1 1 [.slice (some ⟨gg, 0, none⟩) len1 capn] (by rfl) (by rfl) (World.news_of_block (cs := #[.slice (some ⟨gg, 0, none⟩) len1 capn]) (t := 24) (fr := (0, 0)) (heap_alloc_new wa _)) (by simp [Value.oneCell']) (by omega) (by unfold maxLen; omega) (by omega) (by simp) (wa.heap.size + 1) (by simp) ?_; intro gg capn wn hown1 hgrow hat hlt1; obtain ⟨f', hP1, hP2, hP3⟩ := HPA.out wn gg capn hown1 hgrow hat; have HPP := Lib.hid hP1; clear hown1 hgrow hat hP1))
    all_goals (
      go_roundw
      case rel => exact ⟨q + 1, f', by omega, by go_num, by rw [take_snoc HRW.out]; exact HPP.out, fun b hb => by
        have := HPB.out.size
        have := HPG.out
        have := HB.out.size
        rcases hP2 b hb with h | h | h
        · exact HF.out b h
        · simp at h; omega
        · omega, below_newer HPB.out hP3 HF.out⟩
      case measure => simp [intOf]; omega)
end Go.Proofs.Ytbcjhpgkodeoeaa

/- Two rows of a slice of rows are swapped. Conditions: none. -/
namespace Go.Proofs.Ytbcjhpgkodeoeaa
open Go.RowKit

theorem ownEls_pt {α : Type} {El : World → List Value → α → List Nat → Prop} {w : World} {us : List (List Value)} : ∀ {xs : List α} {fp : List Nat}, OwnEls El w us xs fp →
    ∃ F : List (List Nat), F.length = us.length ∧ us.length = xs.length ∧ fp = F.flatten ∧ ∀ (k : Nat) u x f, us[k]? = some u → xs[k]? = some x → F[k]? = some f → El w u x f := by
  induction us with
  | nil =>
    intro xs fp h
    cases xs with
    | nil => exact ⟨[], rfl, rfl, by simpa [OwnEls] using h, by simp⟩
    | cons x xs => simp [OwnEls] at h
  | cons u us ih =>
    intro xs fp h
    cases xs with
    | nil => simp [OwnEls] at h
    | cons x xs =>
      obtain ⟨f, fs, rfl, h1, h2⟩ := h
      obtain ⟨F, g1, g2, rfl, g4⟩ := ih h2
      refine ⟨f :: F, by simp [g1], by simp [g2], by simp, fun k u' x' f' hu hx hf => ?_⟩
      cases k with
      | zero =>
        simp at hu hx hf
        subst hu hx hf
        exact h1
      | succ k => exact g4 k u' x' f' (by simpa using hu) (by simpa using hx) (by simpa using hf)
theorem pt_ownEls {α : Type} {El : World → List Value → α → List Nat → Prop} {w : World} {us : List (List Value)} : ∀ {xs : List α} {F : List (List Nat)}, F.length = us.length → us.length = xs.length →
    (∀ (k : Nat) u x f, us[k]? = some u → xs[k]? = some x → F[k]? = some f → El w u x f) → OwnEls El w us xs F.flatten := by
  induction us with
  | nil =>
    intro xs F h1 h2 _
    obtain rfl := List.eq_nil_of_length_eq_zero h1
    obtain rfl := List.eq_nil_of_length_eq_zero h2.symm
    rfl
  | cons u us ih =>
    intro xs F h1 h2 h3
    cases xs with
    | nil => simp at h2
    | cons x xs =>
      cases F with
      | nil => simp at h1
      | cons f F => exact ⟨f, F.flatten, by simp, h3 0 u x f rfl rfl rfl, ih (by simpa using h1) (by simpa using h2) (fun k u' x' f' hu hx hf => h3 (k + 1) u' x' f' (by simpa using hu) (by simpa using hx) (by simpa using hf))⟩
theorem swap_get {α : Type} {l : List α} {i r : Nat} {x y : α} (hx : l[i]? = some x) (hy : l[r]? = some y) (k : Nat) : ((l.set i y).set r x)[k]? = l[if k = r then i else if k = i then r else k]? := by
  have h1 := (List.getElem?_eq_some_iff.1 hx).1
  have h2 := (List.getElem?_eq_some_iff.1 hy).1
  by_cases hk : k = r
  · subst hk
    rw [if_pos rfl, List.getElem?_set_self (by simpa using h2), hx]
  · rw [if_neg hk, List.getElem?_set_ne (fun h => hk h.symm)]
    by_cases hi : k = i
    · subst hi
      rw [if_pos rfl, List.getElem?_set_self h1, hy]
    · rw [if_neg hi, List.getElem?_set_ne (fun h => hi h.symm)]
theorem swap_perm {α : Type} {l : List α} {i r : Nat} {x y : α} (hx : l[i]? = some x) (hy : l[r]? = some y) : ((l.set i y).set r x).Perm l := by
  obtain ⟨h1, rfl⟩ := List.getElem?_eq_some_iff.1 hx
  obtain ⟨h2, rfl⟩ := List.getElem?_eq_some_iff.1 hy
  exact List.set_set_perm h1 h2
theorem ownII_swap {e1 e : Nat} {w : World} {g n cap : Nat} {xs : List (List Int)} {fp : List Nat} (h : OwnII e1 e w (.slice (some ⟨g, 0, none⟩) n cap) xs fp) {i r : Nat} {x y : List Int} (hx : xs[i]? = some x) (hy : xs[r]? = some y) :
    ∃ adx lx cx ady ly cy, w.cell? ⟨g, i, none⟩ = some (.slice adx lx cx) ∧ w.cell? ⟨g, r, none⟩ = some (.slice ady ly cy) ∧ w.frozen? ⟨g, i, none⟩ = false ∧ w.frozen? ⟨g, r, none⟩ = false ∧ g ∈ fp ∧
      ∃ fp', OwnII e1 e ((w.setCell ⟨g, i, none⟩ (.slice ady ly cy)).setCell ⟨g, r, none⟩ (.slice adx lx cx)) (.slice (some ⟨g, 0, none⟩) n cap) ((xs.set i y).set r x) fp' ∧ ∀ b ∈ fp', b ∈ fp := by
  obtain ⟨us, fs, hown, hone, hels, rfl, hnd⟩ := h
  obtain ⟨F, g1, g2, rfl, g4⟩ := ownEls_pt hels
  have hi := (List.getElem?_eq_some_iff.1 hx).1
  have hr := (List.getElem?_eq_some_iff.1 hy).1
  obtain ⟨ui, hui⟩ : ∃ u, us[i]? = some u := ⟨_, List.getElem?_eq_getElem (by omega)⟩
  obtain ⟨ur, hur⟩ : ∃ u, us[r]? = some u := ⟨_, List.getElem?_eq_getElem (by omega)⟩
  obtain ⟨fi, hfi⟩ : ∃ u, F[i]? = some u := ⟨_, List.getElem?_eq_getElem (by omega)⟩
  obtain ⟨fr, hfr⟩ : ∃ u, F[r]? = some u := ⟨_, List.getElem?_eq_getElem (by omega)⟩
  obtain ⟨pi, rfl, hpi⟩ := g4 i ui x fi hui hx hfi
  obtain ⟨pr, rfl, hpr⟩ := g4 r ur y fr hur hy hfr
  obtain ⟨adx, lx, cx, rfl, _⟩ := ownI_open hpi
  obtain ⟨ady, ly, cy, rfl, _⟩ := ownI_open hpr
  obtain ⟨ad', cap', he, _, _, _⟩ := row_open hown
  injection he with e1' e2' e3'
  subst e2'
  have hfl1 := flat_get hone hui (j := 0) rfl
  have hfl2 := flat_get hone hur (j := 0) rfl
  simp only [Nat.mul_one, Nat.add_zero] at hfl1 hfl2
  have hs := (hown.stored i (.slice ady ly cy)).1
  have hs2 := (hs.stored r (.slice adx lx cx)).1
  have hset : (us.flatten.set i (.slice ady ly cy)).set r (.slice adx lx cx) = ((us.set i [.slice ady ly cy]).set r [.slice adx lx cx]).flatten := by
    have a1 := flat_set (n := 1) (k := i) (j := 0) hone hui (by omega) (Value.slice ady ly cy)
    rw [Nat.mul_one, Nat.add_zero] at a1
    have hone2 : ∀ u ∈ us.set i [Value.slice ady ly cy], u.length = 1 := fun u hu => by
      rcases List.mem_or_eq_of_mem_set hu with hu | rfl
      · exact hone u hu
      · rfl
    obtain ⟨u2, hu2⟩ : ∃ u, (us.set i [Value.slice ady ly cy])[r]? = some u := ⟨_, List.getElem?_eq_getElem (by rw [List.length_set]; omega)⟩
    have a2 := flat_set (n := 1) (k := r) (j := 0) hone2 hu2 (by omega) (Value.slice adx lx cx)
    rw [Nat.mul_one, Nat.add_zero] at a2
    have hl2 : u2.length = 1 := hone2 u2 (List.mem_of_getElem? hu2)
    rw [a1]
    show ((us.set i [Value.slice ady ly cy]).flatten).set r _ = _
    rw [a2]
    congr 2
    cases u2 with
    | nil => simp at hl2
    | cons a u2 => simp at hl2; subst hl2; rfl
  rw [hset] at hs2
  have hperm := swap_perm hfi hfr
  have hpf : ((F.set i fr).set r fi).flatten.Perm F.flatten := by
    have := hperm.flatMap_right id
    simpa [List.flatMap_id] using this
  have hgb : (Value.slice (some ⟨g, 0, none⟩) xs.length cap).ownBlock.toList = [g] := by simp [Value.ownBlock]
  rw [hgb] at hnd ⊢
  have hgn : g ∉ F.flatten := (List.nodup_cons.1 hnd).1
  have hO : Only [g] w ((w.setCell ⟨g, i, none⟩ (.slice ady ly cy)).setCell ⟨g, r, none⟩ (.slice adx lx cx)) := ((Only.refl _ _).setCell (by simp) _).setCell (by simp) _
  have hels2 : OwnEls (OElII e) w ((us.set i [.slice ady ly cy]).set r [.slice adx lx cx]) ((xs.set i y).set r x) ((F.set i fr).set r fi).flatten :=
    pt_ownEls (by simp [g1]) (by simp [g2]) (fun k u x' f' hu hx' hf => by
      rw [swap_get hui hur] at hu
      rw [swap_get hx hy] at hx'
      rw [swap_get hfi hfr] at hf
      exact g4 _ u x' f' hu hx' hf)
  refine ⟨adx, lx, cx, ady, ly, cy, ?_, ?_, hown.frozenAt i, hown.frozenAt r, by simp, g :: ((F.set i fr).set r fi).flatten, ⟨(us.set i [.slice ady ly cy]).set r [.slice adx lx cx], _, ?_, ?_, ?_, by rw [hgb]; rfl, ?_⟩, ?_⟩
  · rw [hown.cellAt i (by omega), hfl1]
  · rw [hown.cellAt r (by omega), hfl2]
  · simpa using hs2
  · intro u hu
    rcases List.mem_or_eq_of_mem_set hu with hu | rfl
    · rcases List.mem_or_eq_of_mem_set hu with hu | rfl
      · exact hone u hu
      · rfl
    · rfl
  · exact ownEls_only (fun u x f h hd => oelII_only h hO hd) hels2 (fun b hb hm => hgn (by rw [← List.mem_singleton.1 hm]; exact hpf.mem_iff.1 hb))
  · rw [List.nodup_cons]
    exact ⟨fun hm => hgn (hpf.mem_iff.1 hm), hpf.nodup_iff.2 (List.nodup_cons.1 hnd).2⟩
  · intro b hb
    simp only [List.mem_cons] at hb
    simp only [List.cons_append, List.nil_append, List.mem_cons]
    rcases hb with rfl | hb
    · exact .inl rfl
    · exact .inr (hpf.mem_iff.1 hb)
end Go.Proofs.Ytbcjhpgkodeoeaa
