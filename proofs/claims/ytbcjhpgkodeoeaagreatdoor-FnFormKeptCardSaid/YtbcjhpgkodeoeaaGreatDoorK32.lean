/- The texts RedP, Swap, Txt, KnoA in one: each says at its head what it proves. Conditions: as said there. -/
import Derived.Laws.Concat
import Derived.Laws.IdiomStrings
import Derived.Deep.AppendLies
import Derived.Test.YtbcjhpgkodeoeaaGreatDoorK31
import Derived.Test.YtbcjhpgkodeoeaaGreatDoorK03
import Derived.Test.YtbcjhpgkodeoeaaGreatDoorK09
set_option linter.unusedSimpArgs false
set_option linter.unusedVariables false
/- Rows brought to a reduced form, as a function; systems solved by it. Plain: no program's step stands here. -/
namespace Go.Proofs.YtbcjhpgkodeoeaaGreatDoor

/-- the first row from r on that is not zero in the column k -/
def pivO (m : List (List Int)) (r k : Nat) : Option Nat := (List.range m.length).find? fun i => decide (r ≤ i) && decide (atZ (atL m i) k ≠ 0)
theorem pivO_none {m : List (List Int)} {r k : Nat} (h : ∀ i, r ≤ i → i < m.length → atZ (atL m i) k = 0) : pivO m r k = none := by
  rw [pivO, List.find?_eq_none]
  intro i hi
  have hi : i < m.length := by simpa using hi
  simp only [Bool.and_eq_true, decide_eq_true_eq, not_and, ne_eq, Decidable.not_not]
  exact fun hr => h i hr hi
theorem pivO_some {m : List (List Int)} {r k i : Nat} (h1 : r ≤ i) (h2 : i < m.length) (h3 : atZ (atL m i) k ≠ 0) (h4 : ∀ j, r ≤ j → j < i → atZ (atL m j) k = 0) : pivO m r k = some i := by
  rw [pivO, List.find?_range_eq_some]
  refine ⟨by simp [h1, h3], by simpa using h2, fun j hj => ?_⟩
  by_cases hr : r ≤ j
  · simp [h4 j hr hj]
  · simp [hr]
/-- k columns are looked at: the rows, and where the pivots are -/
def redS (m : List (List Int)) : Nat → List (List Int) × List Nat
  | 0 => (m, [])
  | k + 1 => match pivO (redS m k).1 (redS m k).2.length k with
    | none => redS m k
    | some i => (stepR (redS m k).1 i (redS m k).2.length k, (redS m k).2 ++ [k])
theorem redS_none {m : List (List Int)} {k : Nat} (h : pivO (redS m k).1 (redS m k).2.length k = none) : redS m (k + 1) = redS m k := by rw [redS, h]
theorem redS_some {m : List (List Int)} {k i : Nat} (h : pivO (redS m k).1 (redS m k).2.length k = some i) : redS m (k + 1) = (stepR (redS m k).1 i (redS m k).2.length k, (redS m k).2 ++ [k]) := by rw [redS, h]
theorem stepR_len (m : List (List Int)) (i r k : Nat) : (stepR m i r k).length = m.length := by simp [stepR, elimA_len, scaleA, swapR_len]
theorem pivO_spec {m : List (List Int)} {r k i : Nat} (h : pivO m r k = some i) : r ≤ i ∧ i < m.length ∧ atZ (atL m i) k ≠ 0 := by
  rw [pivO, List.find?_range_eq_some] at h
  obtain ⟨h1, h2, _⟩ := h
  simp only [Bool.and_eq_true, decide_eq_true_eq] at h1
  exact ⟨h1.1, by simpa using h2, h1.2⟩
/-- rows of one length, of numbers -/
def RowsOk (c : Nat) (m : List (List Int)) : Prop := ∀ i, i < m.length → (atL m i).length = c ∧ Nums (atL m i)
theorem RowsOk.swap {c i r : Nat} {m : List (List Int)} (h : RowsOk c m) (hi : i < m.length) (hr : r < m.length) : RowsOk c (swapR m i r) := fun q hq => by
  rw [swapR_len] at hq
  rw [swapR_at hi hr]
  split
  · exact h i hi
  · split
    · exact h r hr
    · exact h q hq
theorem RowsOk.scale {c r k : Nat} {m : List (List Int)} (h : RowsOk c m) (hr : r < m.length) : RowsOk c (scaleA m r k) := fun q hq => by
  have hl : (scaleA m r k).length = m.length := by simp [scaleA]
  rw [scaleA, atL_set hr]
  split
  · exact ⟨by rw [scaleR, List.length_map]; exact (h r hr).1, nums_scale _ _⟩
  · exact h q (by omega)
theorem RowsOk.elim {c r k t : Nat} {m : List (List Int)} (h : RowsOk c m) (ht : t ≤ m.length) : RowsOk c (elimA m r k t) := fun q hq => by
  rw [elimA_len] at hq
  rw [elimA_at q t ht]
  split
  · exact ⟨by simp [elimR, (h q hq).1], nums_elim _ _ _⟩
  · exact h q hq
theorem RowsOk.step {c i r k : Nat} {m : List (List Int)} (h : RowsOk c m) (hi : i < m.length) (hr : r < m.length) : RowsOk c (stepR m i r k) := by
  have h1 := (h.swap hi hr).scale (k := k) (by rw [swapR_len]; exact hr)
  have hl : (scaleA (swapR m i r) r k).length = m.length := by simp [scaleA, swapR_len]
  exact h1.elim (by rw [hl]; exact Nat.le_refl _)
theorem redS_ok {c : Nat} {m : List (List Int)} (h : RowsOk c m) : ∀ k, RowsOk c (redS m k).1 ∧ (redS m k).1.length = m.length ∧ (redS m k).2.length ≤ k ∧ (redS m k).2.length ≤ m.length ∧ ∀ x ∈ (redS m k).2, x < k
  | 0 => ⟨h, rfl, Nat.le_refl _, Nat.zero_le _, by simp [redS]⟩
  | k + 1 => by
    obtain ⟨h1, h2, h3, h4, h5⟩ := redS_ok h k
    cases hp : pivO (redS m k).1 (redS m k).2.length k with
    | none =>
      rw [redS_none hp]
      exact ⟨h1, h2, by omega, h4, fun x hx => by have := h5 x hx; omega⟩
    | some i =>
      obtain ⟨g1, g2, _⟩ := pivO_spec hp
      rw [redS_some hp]
      refine ⟨h1.step g2 (by omega), by simp only [stepR_len]; exact h2, by simp; omega, by simp; omega, fun x hx => ?_⟩
      simp at hx
      rcases hx with hx | rfl
      · have := h5 x hx; omega
      · omega
/-- a row whose first j numbers are new -/
def preR (f : Nat → Int → Int) (row : List Int) (j : Nat) : List Int := (List.range row.length).map fun i => if i < j then f i (atZ row i) else atZ row i
theorem preR_len (f : Nat → Int → Int) (row : List Int) (j : Nat) : (preR f row j).length = row.length := by simp [preR]
theorem preR_get {f : Nat → Int → Int} {row : List Int} {j i : Nat} (h : i < row.length) : (preR f row j)[i]? = some (if i < j then f i (atZ row i) else atZ row i) := by simp [preR, h]
theorem preR_zero (f : Nat → Int → Int) (row : List Int) : preR f row 0 = row := by
  refine List.ext_getElem? fun i => ?_
  by_cases h : i < row.length
  · rw [preR_get h, if_neg (by omega), atZ_get (List.getElem?_eq_getElem h), List.getElem?_eq_getElem h]
  · rw [List.getElem?_eq_none (by rw [preR_len]; omega), List.getElem?_eq_none (by omega)]
theorem preR_next {f : Nat → Int → Int} {row : List Int} {j : Nat} (h : j < row.length) : (preR f row j).set j (f j (atZ row j)) = preR f row (j + 1) := by
  refine List.ext_getElem? fun i => ?_
  by_cases hi : i < row.length
  · rw [preR_get hi]
    by_cases hij : i = j
    · subst hij
      rw [List.getElem?_set_self (by rw [preR_len]; exact hi), if_pos (by omega)]
    · rw [List.getElem?_set_ne (fun h => hij h.symm), preR_get hi]
      by_cases h2 : i < j
      · rw [if_pos h2, if_pos (by omega)]
      · rw [if_neg h2, if_neg (by omega)]
  · rw [List.getElem?_eq_none (by rw [List.length_set, preR_len]; omega), List.getElem?_eq_none (by rw [preR_len]; omega)]
theorem preR_scale (row : List Int) (x : Int) : preR (fun _ a => timesZ a x) row row.length = scaleR row x := by
  refine List.ext_getElem? fun i => ?_
  by_cases hi : i < row.length
  · rw [preR_get hi, if_pos hi]
    simp [scaleR, atZ, hi]
  · rw [List.getElem?_eq_none (by rw [preR_len]; omega), List.getElem?_eq_none (by simp [scaleR]; omega)]
theorem preR_elim (row pr : List Int) (y : Int) : preR (fun j a => minusZ a (timesZ y (atZ pr j))) row row.length = elimR row pr y := by
  refine List.ext_getElem? fun i => ?_
  by_cases hi : i < row.length
  · rw [preR_get hi, if_pos hi]
    simp [elimR, hi]
  · rw [List.getElem?_eq_none (by rw [preR_len]; omega), List.getElem?_eq_none (by simp [elimR]; omega)]
end Go.Proofs.YtbcjhpgkodeoeaaGreatDoor

/- Two rows of a slice of rows are swapped. Conditions: none. -/
namespace Go.Proofs.YtbcjhpgkodeoeaaGreatDoor
open Go.RowKit

theorem ownEls_pt {α : Type} {El : World → List Value → α → List Nat → Prop} {w : World} {us : List (List Value)} : ∀ {xs : List α} {fp : List Nat}, OwnEls El w us xs fp →
    ∃ F : List (List Nat), F.length = us.length ∧ us.length = xs.length ∧ fp = F.flatten ∧ ∀ (k : Nat) u x f, us[k]? = some u → xs[k]? = some x → F[k]? = some f → El w u x f := by
  induction us with
  | nil =>
    intro xs fp h
    cases xs with
    | nil => exact ⟨[], rfl, rfl, by simpa [OwnEls] using h, by simp⟩
    | cons x xs => simp [OwnEls] at h
  | cons u us ih =>
    intro xs fp h
    cases xs with
    | nil => simp [OwnEls] at h
    | cons x xs =>
      obtain ⟨f, fs, rfl, h1, h2⟩ := h
      obtain ⟨F, g1, g2, rfl, g4⟩ := ih h2
      refine ⟨f :: F, by simp [g1], by simp [g2], by simp, fun k u' x' f' hu hx hf => ?_⟩
      cases k with
      | zero =>
        simp at hu hx hf
        subst hu hx hf
        exact h1
      | succ k => exact g4 k u' x' f' (by simpa using hu) (by simpa using hx) (by simpa using hf)
theorem pt_ownEls {α : Type} {El : World → List Value → α → List Nat → Prop} {w : World} {us : List (List Value)} : ∀ {xs : List α} {F : List (List Nat)}, F.length = us.length → us.length = xs.length →
    (∀ (k : Nat) u x f, us[k]? = some u → xs[k]? = some x → F[k]? = some f → El w u x f) → OwnEls El w us xs F.flatten := by
  induction us with
  | nil =>
    intro xs F h1 h2 _
    obtain rfl := List.eq_nil_of_length_eq_zero h1
    obtain rfl := List.eq_nil_of_length_eq_zero h2.symm
    rfl
  | cons u us ih =>
    intro xs F h1 h2 h3
    cases xs with
    | nil => simp at h2
    | cons x xs =>
      cases F with
      | nil => simp at h1
      | cons f F => exact ⟨f, F.flatten, by simp, h3 0 u x f rfl rfl rfl, ih (by simpa using h1) (by simpa using h2) (fun k u' x' f' hu hx hf => h3 (k + 1) u' x' f' (by simpa using hu) (by simpa using hx) (by simpa using hf))⟩
theorem swap_get {α : Type} {l : List α} {i r : Nat} {x y : α} (hx : l[i]? = some x) (hy : l[r]? = some y) (k : Nat) : ((l.set i y).set r x)[k]? = l[if k = r then i else if k = i then r else k]? := by
  have h1 := (List.getElem?_eq_some_iff.1 hx).1
  have h2 := (List.getElem?_eq_some_iff.1 hy).1
  by_cases hk : k = r
  · subst hk
    rw [if_pos rfl, List.getElem?_set_self (by simpa using h2), hx]
  · rw [if_neg hk, List.getElem?_set_ne (fun h => hk h.symm)]
    by_cases hi : k = i
    · subst hi
      rw [if_pos rfl, List.getElem?_set_self h1, hy]
    · rw [if_neg hi, List.getElem?_set_ne (fun h => hi h.symm)]
theorem swap_perm {α : Type} {l : List α} {i r : Nat} {x y : α} (hx : l[i]? = some x) (hy : l[r]? = some y) : ((l.set i y).set r x).Perm l := by
  obtain ⟨h1, rfl⟩ := List.getElem?_eq_some_iff.1 hx
  obtain ⟨h2, rfl⟩ := List.getElem?_eq_some_iff.1 hy
  exact List.set_set_perm h1 h2
theorem ownII_swap {e1 e : Nat} {w : World} {g n cap : Nat} {xs : List (List Int)} {fp : List Nat} (h : OwnII e1 e w (.slice (some ⟨g, 0, none⟩) n cap) xs fp) {i r : Nat} {x y : List Int} (hx : xs[i]? = some x) (hy : xs[r]? = some y) :
    ∃ adx lx cx ady ly cy, w.cell? ⟨g, i, none⟩ = some (.slice adx lx cx) ∧ w.cell? ⟨g, r, none⟩ = some (.slice ady ly cy) ∧ w.frozen? ⟨g, i, none⟩ = false ∧ w.frozen? ⟨g, r, none⟩ = false ∧ g ∈ fp ∧
      ∃ fp', OwnII e1 e ((w.setCell ⟨g, i, none⟩ (.slice ady ly cy)).setCell ⟨g, r, none⟩ (.slice adx lx cx)) (.slice (some ⟨g, 0, none⟩) n cap) ((xs.set i y).set r x) fp' ∧ ∀ b ∈ fp', b ∈ fp := by
  obtain ⟨us, fs, hown, hone, hels, rfl, hnd⟩ := h
  obtain ⟨F, g1, g2, rfl, g4⟩ := ownEls_pt hels
  have hi := (List.getElem?_eq_some_iff.1 hx).1
  have hr := (List.getElem?_eq_some_iff.1 hy).1
  obtain ⟨ui, hui⟩ : ∃ u, us[i]? = some u := ⟨_, List.getElem?_eq_getElem (by omega)⟩
  obtain ⟨ur, hur⟩ : ∃ u, us[r]? = some u := ⟨_, List.getElem?_eq_getElem (by omega)⟩
  obtain ⟨fi, hfi⟩ : ∃ u, F[i]? = some u := ⟨_, List.getElem?_eq_getElem (by omega)⟩
  obtain ⟨fr, hfr⟩ : ∃ u, F[r]? = some u := ⟨_, List.getElem?_eq_getElem (by omega)⟩
  obtain ⟨pi, rfl, hpi⟩ := g4 i ui x fi hui hx hfi
  obtain ⟨pr, rfl, hpr⟩ := g4 r ur y fr hur hy hfr
  obtain ⟨adx, lx, cx, rfl, _⟩ := ownI_open hpi
  obtain ⟨ady, ly, cy, rfl, _⟩ := ownI_open hpr
  obtain ⟨ad', cap', he, _, _, _⟩ := row_open hown
  injection he with e1' e2' e3'
  subst e2'
  have hfl1 := flat_get hone hui (j := 0) rfl
  have hfl2 := flat_get hone hur (j := 0) rfl
  simp only [Nat.mul_one, Nat.add_zero] at hfl1 hfl2
  have hs := (hown.stored i (.slice ady ly cy)).1
  have hs2 := (hs.stored r (.slice adx lx cx)).1
  have hset : (us.flatten.set i (.slice ady ly cy)).set r (.slice adx lx cx) = ((us.set i [.slice ady ly cy]).set r [.slice adx lx cx]).flatten := by
    have a1 := flat_set (n := 1) (k := i) (j := 0) hone hui (by omega) (Value.slice ady ly cy)
    rw [Nat.mul_one, Nat.add_zero] at a1
    have hone2 : ∀ u ∈ us.set i [Value.slice ady ly cy], u.length = 1 := fun u hu => by
      rcases List.mem_or_eq_of_mem_set hu with hu | rfl
      · exact hone u hu
      · rfl
    obtain ⟨u2, hu2⟩ : ∃ u, (us.set i [Value.slice ady ly cy])[r]? = some u := ⟨_, List.getElem?_eq_getElem (by rw [List.length_set]; omega)⟩
    have a2 := flat_set (n := 1) (k := r) (j := 0) hone2 hu2 (by omega) (Value.slice adx lx cx)
    rw [Nat.mul_one, Nat.add_zero] at a2
    have hl2 : u2.length = 1 := hone2 u2 (List.mem_of_getElem? hu2)
    rw [a1]
    show ((us.set i [Value.slice ady ly cy]).flatten).set r _ = _
    rw [a2]
    congr 2
    cases u2 with
    | nil => simp at hl2
    | cons a u2 => simp at hl2; subst hl2; rfl
  rw [hset] at hs2
  have hperm := swap_perm hfi hfr
  have hpf : ((F.set i fr).set r fi).flatten.Perm F.flatten := by
    have := hperm.flatMap_right id
    simpa [List.flatMap_id] using this
  have hgb : (Value.slice (some ⟨g, 0, none⟩) xs.length cap).ownBlock.toList = [g] := by simp [Value.ownBlock]
  rw [hgb] at hnd ⊢
  have hgn : g ∉ F.flatten := (List.nodup_cons.1 hnd).1
  have hO : Only [g] w ((w.setCell ⟨g, i, none⟩ (.slice ady ly cy)).setCell ⟨g, r, none⟩ (.slice adx lx cx)) := ((Only.refl _ _).setCell (by simp) _).setCell (by simp) _
  have hels2 : OwnEls (OElII e) w ((us.set i [.slice ady ly cy]).set r [.slice adx lx cx]) ((xs.set i y).set r x) ((F.set i fr).set r fi).flatten :=
    pt_ownEls (by simp [g1]) (by simp [g2]) (fun k u x' f' hu hx' hf => by
      rw [swap_get hui hur] at hu
      rw [swap_get hx hy] at hx'
      rw [swap_get hfi hfr] at hf
      exact g4 _ u x' f' hu hx' hf)
  refine ⟨adx, lx, cx, ady, ly, cy, ?_, ?_, hown.frozenAt i, hown.frozenAt r, by simp, g :: ((F.set i fr).set r fi).flatten, ⟨(us.set i [.slice ady ly cy]).set r [.slice adx lx cx], _, ?_, ?_, ?_, by rw [hgb]; rfl, ?_⟩, ?_⟩
  · rw [hown.cellAt i (by omega), hfl1]
  · rw [hown.cellAt r (by omega), hfl2]
  · simpa using hs2
  · intro u hu
    rcases List.mem_or_eq_of_mem_set hu with hu | rfl
    · rcases List.mem_or_eq_of_mem_set hu with hu | rfl
      · exact hone u hu
      · rfl
    · rfl
  · exact ownEls_only (fun u x f h hd => oelII_only h hO hd) hels2 (fun b hb hm => hgn (by rw [← List.mem_singleton.1 hm]; exact hpf.mem_iff.1 hb))
  · rw [List.nodup_cons]
    exact ⟨fun hm => hgn (hpf.mem_iff.1 hm), hpf.nodup_iff.2 (List.nodup_cons.1 hnd).2⟩
  · intro b hb
    simp only [List.mem_cons] at hb
    simp only [List.cons_append, List.nil_append, List.mem_cons]
    rcases hb with rfl | hb
    · exact .inl rfl
    · exact .inr (hpf.mem_iff.1 hb)
end Go.Proofs.YtbcjhpgkodeoeaaGreatDoor

/- Numbers as texts. Conditions: none. -/
namespace Go.Proofs.YtbcjhpgkodeoeaaGreatDoor
open Go.RowKit Go.Sort

/-- A text out of its bytes. -/
def txt (l : List UInt8) : Value := .string ⟨l.toArray⟩
theorem txt_append (a b : List UInt8) : (ByteArray.mk a.toArray) ++ (ByteArray.mk b.toArray) = ByteArray.mk (a ++ b).toArray := by
  apply ByteArray.ext
  simp

theorem cat_run {P : Program} (a b : List UInt8) (h : a.length + b.length ≤ 1000000) (w : World) : (Op.stringOp .add (ByteArray.mk a.toArray) (ByteArray.mk b.toArray)).run P w = .ok (.string (ByteArray.mk (a ++ b).toArray)) w := by
  rw [run_string_add_sum w _ _ (by simp [ByteArray.size]; omega), txt_append]
/-- A digit. -/
def dig (n : Nat) : UInt8 := UInt8.ofNat (48 + n % 10)
/-- The digits of a number. -/
def decL (n : Nat) : List UInt8 := if n < 10 then [dig n] else decL (n / 10) ++ [dig n]
termination_by n
decreasing_by omega
theorem decL_small {n : Nat} (h : n < 10) : decL n = [dig n] := by rw [decL, if_pos h]
theorem decL_big {n : Nat} (h : ¬ n < 10) : decL n = decL (n / 10) ++ [dig n] := by rw [decL, if_neg h]

theorem enc_ascii (n : Nat) (h : n < 128) : Utf8.encode (n : Int) = ByteArray.mk #[UInt8.ofNat n] := by
  unfold Utf8.encode
  have hv : Utf8.valid (n : Int) = true := by
    unfold Utf8.valid
    simp
    omega
  simp only [hv, if_true, Int.toNat_natCast]
  rw [if_pos (by omega)]
theorem enc_dig (n : Nat) : Utf8.encode (48 + (n : Int) % 10) = ByteArray.mk [dig n].toArray := by
  rw [show (48 : Int) + (n : Int) % 10 = ((48 + n % 10 : Nat) : Int) by omega, enc_ascii _ (by omega)]
  rfl
theorem decL_len : ∀ (n k : Nat), n < 10 ^ (k + 1) → (decL n).length ≤ k + 1 := by
  intro n k
  induction k generalizing n with
  | zero => intro h; rw [decL_small (by omega)]; simp
  | succ k ih =>
    intro h
    by_cases hs : n < 10
    · rw [decL_small hs]; simp
    · rw [decL_big hs, List.length_append]
      have := ih (n / 10) (by rw [Nat.pow_succ] at h; omega)
      simp
      omega

set_option maxRecDepth 100000 in
set_option maxHeartbeats 800000 in
theorem decimal_z (n : Nat) : n < 2000000000 → ∀ (z : Int) (w : World), z = (n : Int) → Calls Tryz.prog 91 #[.int .i64 z] w fun e w' => e = .returned (txt (decL n)) ∧ w = w' := by
  induction n using Nat.strongRecOn with
  | ind n ih =>
    intro hn z w hz
    by_cases h : n < 10
    · have hd : Value.string (Utf8.encode (48 + z)) = txt (decL n) := by
        have h1 := enc_dig n
        rw [show (n : Int) % 10 = z by omega] at h1
        rw [decL_small h, h1]
        rfl
      have HD := Lib.hid hd
      have hI : z < 10 := by omega
      have hI0 : 0 ≤ z := by omega
      clear hd ih hn h hz
      go_enter Tryz.func91, Tryz.ntmps91
      go_wp2
      go_ret
      exact ⟨ret_eq HD.out, rfl⟩
    · obtain ⟨s, hs⟩ : ∃ s, s = ByteArray.mk (decL (n / 10)).toArray := ⟨_, rfl⟩
      obtain ⟨d, hd⟩ : ∃ d, d = Utf8.encode (48 + z % 10) := ⟨_, rfl⟩
      obtain ⟨u, hu⟩ : ∃ u, u = ByteArray.mk (decL n).toArray := ⟨_, rfl⟩
      have IH := Lib.hid (show Calls Tryz.prog 91 #[.int .i64 (z / 10)] w fun e w' => e = .returned (.string s) ∧ w = w' from by
        rw [hs]
        exact ih (n / 10) (by omega) (by omega) (z / 10) w (by omega))
      have hcat : ∀ w : World, (Op.stringOp .add s d).run Tryz.prog w = .ok (.string u) w := fun w => by
        rw [hs, hd, hu, hz, enc_dig, cat_run _ _ (by
          have := decL_len (n / 10) 9 (by omega)
          simp
          omega), ← decL_big h]
      have HD := Lib.hid (show Value.string u = txt (decL n) from by rw [hu]; rfl)
      have hI : 10 ≤ z := by omega
      have hI2 : z ≤ 2000000000 := by omega
      have hde := hd.symm
      clear ih hn h hs hu hd hz
      go_enter Tryz.func91, Tryz.ntmps91
      go_wp2_with fail
      refine IH.out.mono ?_
      rintro e w' ⟨rfl, rfl⟩
      go_wp2
      go_ret
      exact ⟨ret_eq HD.out, rfl⟩
theorem decimal_any {n : Nat} (hn : n < 2000000000) {z : Int} (hz : z = (n : Int)) (w : World) : Calls Tryz.prog 91 #[.int .i64 z] w fun e w' => e = .returned (txt (decL n)) ∧ w = w' := decimal_z n hn z w hz

/-- An integer as a text. -/
def decZ (z : Int) : List UInt8 := if z < 0 then 45 :: decL (-z).toNat else decL z.toNat

end Go.Proofs.YtbcjhpgkodeoeaaGreatDoor

/- The reference's nodes: roots, Gauss, Radau, Lobatto; the texts of tableaus. Conditions: none. -/
namespace Go.Proofs.YtbcjhpgkodeoeaaGreatDoor
open Go.RowKit

/-- A number. -/
def NumZ (x : Int) : Prop := 0 ≤ x ∧ x ≤ 1000000270
theorem numZ_i64 {x : Int} (h : NumZ x) : I64 x := ⟨by have := h.1; omega, by have := h.2; omega⟩
theorem lit_own {e : Nat} (w : World) (xs : List Int) (hx : ∀ x ∈ xs, I64 x) (hl : xs.length ≤ 1000) (cs : Array Value) (hcs : cs = (xs.map (Value.int .i64)).toArray) (n : Nat) (hn : n = xs.length) :
    OwnI e (w.alloc (.cells cs e)) (.slice (some ⟨w.heap.size, 0, none⟩) n n) xs [w.heap.size] := by
  subst hcs hn
  refine ⟨⟨by simp, .inr ⟨w.heap.size, xs.length, (xs.map (Value.int .i64)).toArray, rfl, Nat.zero_le _, heap_alloc_new w _, Nat.le_refl _, by unfold maxLen; omega, by simp, by simp [List.take_of_length_le]⟩⟩, rfl, hx⟩
end Go.Proofs.YtbcjhpgkodeoeaaGreatDoor
