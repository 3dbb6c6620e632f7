/- Texts cut at signs: the reference. Conditions: texts of at most a million bytes. -/
import Derived.Test.YtbcjhpgkodeoeaaGreatDoorG26
set_option linter.unusedSimpArgs false
set_option linter.unusedVariables false

namespace Go.Proofs.YtbcjhpgkodeoeaaGreatDoor
open Go.RowKit Go.Sort

/-- How far a text has been cut. -/
structure CutAt (l sep : List UInt8) (i from_ : Nat) (O : List (List UInt8)) : Prop where
  eq : Lib.split l sep = O ++ Lib.split (l.drop from_) sep
  no : ∀ j, from_ ≤ j → j < i → Lib.occAt l sep j = false
theorem cutAt_zero (l sep : List UInt8) : CutAt l sep 0 0 [] := ⟨by simp, fun j _ h => by omega⟩
theorem occ_drop (l sep : List UInt8) (a j : Nat) : Lib.occAt (l.drop a) sep j = Lib.occAt l sep (a + j) := by
  unfold Lib.occAt
  rw [List.drop_drop]
theorem CutAt.hit {l sep : List UInt8} {i f : Nat} {O : List (List UInt8)} (h : CutAt l sep i f O) (hs : sep ≠ []) (hf : f ≤ i) (ho : Lib.occAt l sep i = true) (hi : i ≤ l.length) : CutAt l sep (i + 1) (i + sep.length) (O ++ [(l.drop f).take (i - f)]) := by
  have hx : Lib.index (l.drop f) sep = ((i - f : Nat) : Int) := Lib.index_hit (fun j hj => by rw [occ_drop]; exact h.no _ (by omega) (by omega)) (by rw [List.length_drop]; omega) (by rw [occ_drop, show f + (i - f) = i by omega]; exact ho)
  have hl := List.length_pos_iff.2 hs
  refine ⟨?_, fun j h1 h2 => by omega⟩
  rw [h.eq, split_hit hs hx, List.drop_drop, show f + (i - f + sep.length) = i + sep.length by omega]
  simp
theorem CutAt.miss {l sep : List UInt8} {i f : Nat} {O : List (List UInt8)} (h : CutAt l sep i f O) (ho : f ≤ i → Lib.occAt l sep i = false) : CutAt l sep (i + 1) f O :=
  ⟨h.eq, fun j h1 h2 => by
    by_cases hj : j = i
    · subst hj; exact ho h1
    · exact h.no j h1 (by omega)⟩
theorem CutAt.done {l sep : List UInt8} {i f : Nat} {O : List (List UInt8)} (h : CutAt l sep i f O) (hs : sep ≠ []) (hi : l.length < i + sep.length) : Lib.split l sep = O ++ [l.drop f] := by
  have hx : Lib.index (l.drop f) sep = -1 := by
    refine Lib.index_none fun j hj => ?_
    rw [occ_drop]
    by_cases hji : f + j < i
    · exact h.no _ (by omega) hji
    · cases ho : Lib.occAt l sep (f + j) with
      | false => rfl
      | true =>
        rcases Lib.occAt_room ho with h1 | h1
        · omega
        · exact absurd h1 hs
  rw [h.eq, split_miss hx]
theorem str_cut {s : ByteArray} {l : List UInt8} (hs : s = ByteArray.mk l.toArray) (a b : Nat) : Value.string (s.extract a b) = txt ((l.drop a).take (b - a)) := by
  have h : (s.extract a b).data.toList = (l.drop a).take (b - a) := by
    rw [Lib.extract_data, hs]
  unfold txt
  congr 1
  apply ByteArray.ext
  rw [← h]
theorem occ_one (l : List UInt8) (c : UInt8) (i : Nat) : Lib.occAt l [c] i = decide (l[i]? = some c) := by
  unfold Lib.occAt
  rw [← List.head?_drop]
  cases l.drop i with
  | nil => simp
  | cons a r =>
    simp [List.isPrefixOf]
    by_cases h : c = a
    · simp [h]
    · rw [beq_false_of_ne h, decide_eq_false (fun e => h e.symm)]
theorem split_len (l sep : List UInt8) : (Lib.split l sep).length ≤ l.length + 2 := by
  have h1 : ∀ (k : Nat) (s : List UInt8), (Lib.splitK sep 0 k s).length ≤ k + 1 := by
    intro k
    induction k with
    | zero => intro s; simp [Lib.splitK]
    | succ k ih =>
      intro s
      unfold Lib.splitK
      split
      · simp
      · have := ih (s.drop ((Lib.index s sep).toNat + sep.length))
        simp only [List.length_cons]; omega
  have h2 := Lib.count_le l sep
  have h3 := h1 (Lib.count l sep) l
  unfold Lib.split
  omega
theorem CutAt.len {l sep : List UInt8} {i f : Nat} {O : List (List UInt8)} (h : CutAt l sep i f O) : O.length ≤ l.length + 2 := by
  have h1 := split_len l sep
  rw [h.eq, List.length_append] at h1
  omega
/-- What cutting leaves: a new row of texts. -/
def Words (w : World) (xs : List (List UInt8)) : Ending → World → Prop := fun e w' => ∃ g cap n, e = .returned (.slice (some ⟨g, 0, none⟩) n cap) ∧ RowT w w' (.slice (some ⟨g, 0, none⟩) n cap) xs n

set_option maxRecDepth 100000 in
set_option maxHeartbeats 1600000 in
theorem sCut_any (l : List UInt8) (c : UInt8) (z : Int) (hz : (c.toNat : Int) = z) (s : ByteArray) (hs : s = ByteArray.mk l.toArray) (hl : l.length ≤ 1048576) (w : World) : Calls Tryz.prog 146 #[.string s, .int .u8 z] w (Words w (Lib.split l [c])) := by
  have hsz := str_size hs
  obtain ⟨n, hn⟩ : ∃ n, l.length = n := ⟨_, rfl⟩
  rw [hn] at hsz hl
  have HS := Lib.hid hs
  have HN := Lib.hid hn
  have HR0 := Lib.hid (RowT.new w)
  have HC0 := Lib.hid (cutAt_zero l [c])
  obtain ⟨i0, hi, hz0, hz1, hz2⟩ := info_parts Tryz.info_str
  clear hs hn
  go_enter Tryz.func146, Tryz.ntmps146
  go_wp2
  go_loopw [5, 6, 7] (fun so sf si wr => ∃ (O : List (List UInt8)) (f i k : Nat), sf = .int .i64 f ∧ si = .int .i64 i ∧ f ≤ i ∧ i ≤ n ∧ CutAt l [c] i f O ∧ RowT w wr so O k) (fun _ _ si _ => n - (intOf si).toNat)
  case atStart => exact ⟨[], 0, 0, 0, rfl, rfl, Nat.le_refl _, Nat.zero_le _, HC0.out, HR0.out⟩
  case round =>
    obtain ⟨wk, rfl⟩ : ∃ W, W = wr := ⟨_, rfl⟩
    clear HR0 HC0
    obtain ⟨O, f, i, k, rfl, rfl, hfi, hin, hC, hR⟩ := hrel
    obtain ⟨gr, cr, rfl, hgr⟩ := hR.shape
    have hk : k ≤ 1048580 := by
      have h1 := hC.len
      have h2 := hR.len
      have := HN.out
      omega
    have HR := Lib.hid hR
    have HROW := Lib.hid hR.row
    have hfI : (f : Int) ≤ i := by omega
    have hiI : (i : Int) ≤ n := by omega
    by_cases hlt : i < n
    case neg =>
      obtain rfl : i = n := by omega
      have hsz' : (s.size : Int) = i := by omega
      obtain ⟨u, hu⟩ : ∃ u, s.extract f s.size = u := ⟨_, rfl⟩
      have hut : Value.string u = txt (l.drop f) := by
        rw [← hu, str_cut HS.out, List.take_of_length_le (by rw [List.length_drop, HN.out]; omega)]
      have hu' : s.extract f i = u := by rw [← hu]; congr 1; omega
      have HD := Lib.hid (hC.done (by simp) (by rw [HN.out]; simp))
      have HU := Lib.hid hut
      have HP := Lib.hid (fun (w2 : World) (g2 capn : Nat) (hown1 : w2.ownsRow 0 9 1 (.slice (some ⟨g2, 0, none⟩) (k + 1) capn) (k + 1) (O.map txt ++ [.string u])) (hgrow : (wk.alloc (.cells #[.string u] 9)).grownBy w2 (some gr)) (hat : some gr = some g2 ∨ g2 = wk.heap.size + 1) =>
        HR.out.push (y := l.drop f) ((Below.refl _ _).alloc (Nat.le_refl _) _) (by rw [← HU.out]; exact hown1) hgrow (hat.elim (fun h => Or.inl (Option.some.inj h)) (fun h => Or.inr (by omega))))
      clear hC hR hut
      go_wp2_with (first | (at_builtin; refine wpList_append_lies _ rfl _ _ _ rfl 0 9 i0 _ 1 16 Tryz.underlying34 hi hz0 hz1 hz2 rfl (by omega) (.slice (some ⟨gr, 0, none⟩) k cr) k _ (by rfl) (HROW.out.alloc _) ⟨wk.heap.size, 0, none⟩ 1 1 [.string u] (by rfl) (by rfl) (World.news_of_block (cs := #[.string u]) (t := 9) (fr := (0, 0)) (heap_alloc_new wk _)) (by simp [Value.oneCell']) (by omega) (by unfold maxLen; omega) (by omega) (by simp) (wk.heap.size + 1) (by simp) ?_; intro gg capn w2 hown1 hgrow hat hlt1; have hP := HP.out w2 gg capn hown1 hgrow hat; have HPP := Lib.hid hP; clear hP hown1 hgrow))
      go_ret
      exact ⟨gg, capn, k + 1, rfl, by rw [HD.out]; exact HPP.out⟩
    case pos =>
      obtain ⟨b, hb⟩ : ∃ b, l[i]? = some b := ⟨_, List.getElem?_eq_getElem (by rw [HN.out]; exact hlt)⟩
      obtain ⟨x, hx⟩ : ∃ x : Int, (b.toNat : Int) = x := ⟨_, rfl⟩
      obtain ⟨hi', hsb⟩ := str_at HS.out hb
      have hxb : (s[i]'hi').toNat = b.toNat := by rw [hsb]
      have hsI : (i : Int) < s.size := by omega
      by_cases hxz : x = z
      · have hbc : b = c := UInt8.toNat_inj.1 (by omega)
        have HC1 := Lib.hid (hC.hit (by simp) hfi (by rw [occ_one, hb, hbc]; simp) (by rw [HN.out]; omega))
        obtain ⟨u, hu⟩ : ∃ u, s.extract f i = u := ⟨_, rfl⟩
        have hut : Value.string u = txt ((l.drop f).take (i - f)) := by rw [← hu, str_cut HS.out]
        have HU := Lib.hid hut
        have HP := Lib.hid (fun (w2 : World) (g2 capn : Nat) (hown1 : w2.ownsRow 0 9 1 (.slice (some ⟨g2, 0, none⟩) (k + 1) capn) (k + 1) (O.map txt ++ [.string u])) (hgrow : (wk.alloc (.cells #[.string u] 9)).grownBy w2 (some gr)) (hat : some gr = some g2 ∨ g2 = wk.heap.size + 1) =>
          HR.out.push (y := (l.drop f).take (i - f)) ((Below.refl _ _).alloc (Nat.le_refl _) _) (by rw [← HU.out]; exact hown1) hgrow (hat.elim (fun h => Or.inl (Option.some.inj h)) (fun h => Or.inr (by omega))))
        subst hxz
        clear hC hR hut hb hsb hbc
        go_wp2_with (first | (at_builtin; refine wpList_append_lies _ rfl _ _ _ rfl 0 9 i0 _ 1 16 Tryz.underlying34 hi hz0 hz1 hz2 rfl (by omega) (.slice (some ⟨gr, 0, none⟩) k cr) k _ (by rfl) (HROW.out.alloc _) ⟨wk.heap.size, 0, none⟩ 1 1 [.string u] (by rfl) (by rfl) (World.news_of_block (cs := #[.string u]) (t := 9) (fr := (0, 0)) (heap_alloc_new wk _)) (by simp [Value.oneCell']) (by omega) (by unfold maxLen; omega) (by omega) (by simp) (wk.heap.size + 1) (by simp) ?_; intro gg capn w2 hown1 hgrow hat hlt1; have hP := HP.out w2 gg capn hown1 hgrow hat; have HPP := Lib.hid hP; clear hP hown1 hgrow))
        go_roundw
        case rel => exact ⟨_, i + 1, i + 1, k + 1, by go_num, by go_num, by omega, by omega, HC1.out, HPP.out⟩
        case measure => (simp [intOf]; try omega)
      · have HC1 := Lib.hid (hC.miss (fun _ => by
          rw [occ_one, hb, decide_eq_false_iff_not]
          intro h
          injection h with h
          exact hxz (by rw [← hx, ← hz, h])))
        have hxz' : (x == z) = false := by simpa using hxz
        clear hC hR hb hsb hxz
        go_wp2
        go_roundw
        case rel => exact ⟨O, f, i + 1, k, rfl, by go_num, by omega, by omega, HC1.out, HR.out⟩
        case measure => (simp [intOf]; try omega)
theorem occ_eq {s sp : ByteArray} {l sep : List UInt8} (hs : s = ByteArray.mk l.toArray) (hp : sp = ByteArray.mk sep.toArray) {i k : Nat} (hk : sep.length = k) : ((s.extract i (i + k)).toList == sp.toList) = Lib.occAt l sep i := by
  have h : (s.extract i (i + k)).toList = (l.drop i).take k := by
    rw [ByteArray.toList_eq, Lib.extract_data, hs]
    rw [show i + k - i = k by omega]
  rw [h, hp, ByteArray.toList_mk, Lib.occAt, ← hk, Bool.eq_iff_iff, beq_iff_eq, List.isPrefixOf_iff_prefix, List.prefix_iff_eq_take]
  exact eq_comm

set_option maxRecDepth 100000 in
set_option maxHeartbeats 1600000 in
theorem sWords_any (l sep : List UInt8) (s sp : ByteArray) (hs : s = ByteArray.mk l.toArray) (hp : sp = ByteArray.mk sep.toArray) (hl : l.length ≤ 1048576) (hk1 : 1 ≤ sep.length) (hk4 : sep.length ≤ 4) (w : World) : Calls Tryz.prog 94 #[.string s, .string sp] w (Words w (Lib.split l sep)) := by
  have hsz := str_size hs
  have hpz := str_size hp
  obtain ⟨n, hn⟩ : ∃ n, l.length = n := ⟨_, rfl⟩
  obtain ⟨m, hm⟩ : ∃ m, sep.length = m := ⟨_, rfl⟩
  rw [hn] at hsz hl
  rw [hm] at hpz hk1 hk4
  have hne : sep ≠ [] := fun h => by rw [h] at hm; simp at hm; omega
  have HS := Lib.hid hs
  have HPS := Lib.hid hp
  have HN := Lib.hid hn
  have HM := Lib.hid hm
  have HNE := Lib.hid hne
  have HR0 := Lib.hid (RowT.new w)
  have HC0 := Lib.hid (cutAt_zero l sep)
  obtain ⟨i0, hi, hz0, hz1, hz2⟩ := info_parts Tryz.info_str
  clear hs hn hm hp hne
  go_enter Tryz.func94, Tryz.ntmps94
  go_wp2
  go_loopw [5, 6, 7] (fun so sf si wr => ∃ (O : List (List UInt8)) (f i k : Nat), sf = .int .i64 f ∧ si = .int .i64 i ∧ f ≤ n ∧ i ≤ n + 1 ∧ CutAt l sep i f O ∧ RowT w wr so O k) (fun _ _ si _ => n + 1 - (intOf si).toNat)
  case atStart => exact ⟨[], 0, 0, 0, rfl, rfl, Nat.zero_le _, Nat.zero_le _, HC0.out, HR0.out⟩
  case round =>
    obtain ⟨wk, rfl⟩ : ∃ W, W = wr := ⟨_, rfl⟩
    clear HR0 HC0
    obtain ⟨O, f, i, k, rfl, rfl, hfn, hin, hC, hR⟩ := hrel
    obtain ⟨gr, cr, rfl, hgr⟩ := hR.shape
    have hk : k ≤ 1048580 := by
      have h1 := hC.len
      have h2 := hR.len
      have := HN.out
      omega
    have HR := Lib.hid hR
    have HROW := Lib.hid hR.row
    have hfI : (f : Int) ≤ n := by omega
    have hw1 : IntKind.i64.wrap ((i : Int) + m) = (i : Int) + m := IntWalk.i64_in _ (by omega)
    by_cases hlt : i + m ≤ n
    case neg =>
      have hlI : ¬ ((i : Int) + m ≤ n) := by omega
      have hfs : (f : Int) ≤ s.size := by omega
      obtain ⟨u, hu⟩ : ∃ u, s.extract f s.size = u := ⟨_, rfl⟩
      have hut : Value.string u = txt (l.drop f) := by
        rw [← hu, str_cut HS.out, List.take_of_length_le (by rw [List.length_drop, HN.out]; omega)]
      have hu' : s.extract f n = u := by rw [← hu]; congr 1; omega
      have HD := Lib.hid (hC.done HNE.out (by rw [HN.out, HM.out]; omega))
      have HU := Lib.hid hut
      have HP := Lib.hid (fun (w2 : World) (g2 capn : Nat) (hown1 : w2.ownsRow 0 9 1 (.slice (some ⟨g2, 0, none⟩) (k + 1) capn) (k + 1) (O.map txt ++ [.string u])) (hgrow : (wk.alloc (.cells #[.string u] 9)).grownBy w2 (some gr)) (hat : some gr = some g2 ∨ g2 = wk.heap.size + 1) =>
        HR.out.push (y := l.drop f) ((Below.refl _ _).alloc (Nat.le_refl _) _) (by rw [← HU.out]; exact hown1) hgrow (hat.elim (fun h => Or.inl (Option.some.inj h)) (fun h => Or.inr (by omega))))
      clear hC hR hut
      go_wp2_with (first | (at_builtin; refine wpList_append_lies _ rfl _ _ _ rfl 0 9 i0 _ 1 16 Tryz.underlying34 hi hz0 hz1 hz2 rfl (by omega) (.slice (some ⟨gr, 0, none⟩) k cr) k _ (by rfl) (HROW.out.alloc _) ⟨wk.heap.size, 0, none⟩ 1 1 [.string u] (by rfl) (by rfl) (World.news_of_block (cs := #[.string u]) (t := 9) (fr := (0, 0)) (heap_alloc_new wk _)) (by simp [Value.oneCell']) (by omega) (by unfold maxLen; omega) (by omega) (by simp) (wk.heap.size + 1) (by simp) ?_; intro gg capn w2 hown1 hgrow hat hlt1; have hP := HP.out w2 gg capn hown1 hgrow hat; have HPP := Lib.hid hP; clear hP hown1 hgrow))
      go_ret
      exact ⟨gg, capn, k + 1, rfl, by rw [HD.out]; exact HPP.out⟩
    case pos =>
      have hlI : (i : Int) + m ≤ n := by omega
      by_cases hfi : f ≤ i
      case neg =>
        have hfiI : ¬ ((f : Int) ≤ i) := by omega
        have HC1 := Lib.hid (hC.miss (fun h => absurd h hfi))
        clear hC hR hfi
        go_wp2
        go_roundw
        case rel => exact ⟨O, f, i + 1, k, rfl, by go_num, by omega, by omega, HC1.out, HR.out⟩
        case measure => (simp [intOf]; try omega)
      case pos =>
        have hfiI : (f : Int) ≤ i := by omega
        have hq := occ_eq HS.out HPS.out (i := i) HM.out
        obtain ⟨u2, hu2⟩ : ∃ u2, s.extract i (i + m) = u2 := ⟨_, rfl⟩
        rw [hu2] at hq
        have htn : ((i : Int) + m).toNat = i + m := by omega
        have hsI : (i : Int) + m ≤ s.size := by omega
        cases ho : Lib.occAt l sep i with
        | true =>
          rw [ho] at hq
          have HC1 := Lib.hid (hC.hit HNE.out hfi ho (by rw [HN.out]; omega))
          obtain ⟨u, hu⟩ : ∃ u, s.extract f i = u := ⟨_, rfl⟩
          have hut : Value.string u = txt ((l.drop f).take (i - f)) := by rw [← hu, str_cut HS.out]
          have HU := Lib.hid hut
          have HP := Lib.hid (fun (w2 : World) (g2 capn : Nat) (hown1 : w2.ownsRow 0 9 1 (.slice (some ⟨g2, 0, none⟩) (k + 1) capn) (k + 1) (O.map txt ++ [.string u])) (hgrow : (wk.alloc (.cells #[.string u] 9)).grownBy w2 (some gr)) (hat : some gr = some g2 ∨ g2 = wk.heap.size + 1) =>
            HR.out.push (y := (l.drop f).take (i - f)) ((Below.refl _ _).alloc (Nat.le_refl _) _) (by rw [← HU.out]; exact hown1) hgrow (hat.elim (fun h => Or.inl (Option.some.inj h)) (fun h => Or.inr (by omega))))
          clear hC hR hut ho
          go_wp2_with (first | (at_builtin; refine wpList_append_lies _ rfl _ _ _ rfl 0 9 i0 _ 1 16 Tryz.underlying34 hi hz0 hz1 hz2 rfl (by omega) (.slice (some ⟨gr, 0, none⟩) k cr) k _ (by rfl) (HROW.out.alloc _) ⟨wk.heap.size, 0, none⟩ 1 1 [.string u] (by rfl) (by rfl) (World.news_of_block (cs := #[.string u]) (t := 9) (fr := (0, 0)) (heap_alloc_new wk _)) (by simp [Value.oneCell']) (by omega) (by unfold maxLen; omega) (by omega) (by simp) (wk.heap.size + 1) (by simp) ?_; intro gg capn w2 hown1 hgrow hat hlt1; have hP := HP.out w2 gg capn hown1 hgrow hat; have HPP := Lib.hid hP; clear hP hown1 hgrow))
          go_roundw
          case rel => exact ⟨_, i + m, i + 1, k + 1, by go_num, by go_num, by omega, by omega, by have := HC1.out; rw [HM.out] at this; exact this, HPP.out⟩
          case measure => (simp [intOf]; try omega)
        | false =>
          rw [ho] at hq
          have HC1 := Lib.hid (hC.miss (fun _ => ho))
          clear hC hR ho
          go_wp2
          go_roundw
          case rel => exact ⟨O, f, i + 1, k, rfl, by go_num, by omega, by omega, HC1.out, HR.out⟩
          case measure => (simp [intOf]; try omega)
end Go.Proofs.YtbcjhpgkodeoeaaGreatDoor
