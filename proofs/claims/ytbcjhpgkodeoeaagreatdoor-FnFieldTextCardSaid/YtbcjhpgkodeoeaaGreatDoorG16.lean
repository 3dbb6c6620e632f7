/- The texts SolR, SolP, SolC, Swap, Txt in one: each says at its head what it proves. Conditions: as said there. -/
import Derived.Laws.Concat
import Derived.Laws.IdiomStrings
import Derived.Test.YtbcjhpgkodeoeaaGreatDoorG15
import Derived.Test.YtbcjhpgkodeoeaaGreatDoorG03
import Derived.Test.YtbcjhpgkodeoeaaGreatDoorG13
import Derived.Test.YtbcjhpgkodeoeaaGreatDoorG09
set_option linter.unusedSimpArgs false
set_option linter.unusedVariables false
/- The reference's test of the rows of a system; their copy. Conditions: none. -/
namespace Go.Proofs.YtbcjhpgkodeoeaaGreatDoor
open Go.RowKit

def rowB (n : Nat) (r : List Int) : Bool := decide (r.length = n) && r.all isNumB
def rowsB (rows : List (List Int)) : Bool := inB rows.length 1 40 && (inB (atL rows 0).length 1 40 && rows.all (rowB (atL rows 0).length))
theorem rowsB_no1 {rows : List (List Int)} (h : inB rows.length 1 40 = false) : rowsB rows = false := by simp [rowsB, h]
theorem rowsB_no2 {rows : List (List Int)} (h : inB (atL rows 0).length 1 40 = false) : rowsB rows = false := by simp [rowsB, h]
theorem rowsB_no3 {rows : List (List Int)} {k : Nat} {r : List Int} (hr : rows[k]? = some r) (h : rowB (atL rows 0).length r = false) : rowsB rows = false := by
  rw [rowsB, all_false hr h]; simp
theorem rowsB_yes {rows : List (List Int)} (h1 : inB rows.length 1 40 = true) (h2 : inB (atL rows 0).length 1 40 = true) {k : Nat} (hk : rows.length ≤ k) (h3 : (rows.take k).all (rowB (atL rows 0).length) = true) : rowsB rows = true := by
  rw [rowsB, h1, h2, all_done hk h3]; rfl
set_option maxHeartbeats 1600000 in
theorem l1Rows_any (v : Value) (rows : List (List Int)) (w : World) (h : RdII w v rows) : Calls Tryz.prog 197 #[v] w (Qt (.bool (rowsB rows)) w) := by
  obtain ⟨ad, len, cap, rfl, hl, hlc, hcm, h'⟩ := rdS_open h
  obtain ⟨b1, hb1⟩ : ∃ b, inB (len : Int) 1 40 = b := ⟨_, rfl⟩
  have HL := Lib.hid hl
  clear h hl
  cases b1 with
  | false =>
    have HE := Lib.hid (rowsB_no1 (rows := rows) (by rw [HL.out]; exact hb1))
    have HB1 := Lib.hid hb1
    clear hb1
    go_enter Tryz.func197, Tryz.ntmps197
    go_wp2_with (go_at_call 131; ((with_reducible refine (l1In_eq' HB1.out _).mono ?_); rintro e w' ⟨rfl, rfl⟩))
    go_ret
    exact ⟨ret_bool HE.out.symm, 0, rfl⟩
  | true =>
    have h40 : 1 ≤ len ∧ len ≤ 40 := by have := of_decide_eq_true hb1; omega
    obtain ⟨b0, off0, ad0, len0, cap0, r0, rfl, hr0, hc0, h60, h70, h80, h90, _⟩ := rdII_get h' (k := 0) (by omega)
    simp only [Nat.add_zero] at hc0
    have hat : atL rows 0 = r0 := atL_get hr0
    obtain ⟨b2, hb2⟩ : ∃ b, inB (len0 : Int) 1 40 = b := ⟨_, rfl⟩
    have HB1 := Lib.hid hb1
    have HB2 := Lib.hid hb2
    have HAT := Lib.hid (show (atL rows 0).length = len0 from by rw [hat, h60])
    obtain ⟨h401, h402⟩ := h40
    have h0len : 0 < len := by omega
    clear hb1 hr0 hat h60
    cases b2 with
    | false =>
      have HE := Lib.hid (rowsB_no2 (rows := rows) (by rw [HAT.out]; exact HB2.out))
      clear hb2
      go_enter Tryz.func197, Tryz.ntmps197
      go_wp2_with (first | (go_at_call 131; ((with_reducible refine (l1In_eq' HB1.out _).mono ?_); rintro e w' ⟨rfl, rfl⟩)) | (go_at_call 131; ((with_reducible refine (l1In_eq' HB2.out _).mono ?_); rintro e w' ⟨rfl, rfl⟩)))
      go_ret
      exact ⟨ret_bool HE.out.symm, 0, rfl⟩
    | true =>
      clear hb2
      go_enter Tryz.func197, Tryz.ntmps197
      go_wp2_with (first | (go_at_call 131; ((with_reducible refine (l1In_eq' HB1.out _).mono ?_); rintro e w' ⟨rfl, rfl⟩)) | (go_at_call 131; ((with_reducible refine (l1In_eq' HB2.out _).mono ?_); rintro e w' ⟨rfl, rfl⟩)))
      go_loopw [3] (fun i wr => ∃ k m : Nat, k ≤ len ∧ i = .int .i64 k ∧ (rows.take k).all (rowB len0) = true ∧ wr = w.drewN m) (fun i _ => len - (intOf i).toNat)
      case atStart => exact ⟨0, 0, Nat.zero_le _, rfl, by simp, rfl⟩
      case round =>
        obtain ⟨wk, rfl⟩ : ∃ W, W = wr := ⟨_, rfl⟩
        obtain ⟨k, m, hk, rfl, hall, hwk⟩ := hrel
        have hk' := rdII_drewN m h'
        have hbk : Below w.heap.size w wk := hwk ▸ blw_drewN (Below.refl _ _) m
        rw [← hwk] at hk'
        have HW := Lib.hid hwk
        have HALL := Lib.hid hall
        have hd0 := cell_below hbk hc0
        clear hwk hall
        by_cases hlt : k < len
        case neg =>
          have HE := Lib.hid (rowsB_yes (rows := rows) (k := k) (by rw [HL.out]; exact HB1.out) (by rw [HAT.out]; exact HB2.out) (by rw [HL.out]; omega) (by rw [HAT.out]; exact HALL.out))
          go_wp2
          go_ret
          exact ⟨ret_bool HE.out.symm, m, HW.out⟩
        obtain ⟨b, off, ad1, len1, cap1, r, hbo, hr, hc, h61, h71, h81, h91, _⟩ := rdII_get hk' hlt
        obtain ⟨rfl, rfl⟩ : b0 = b ∧ off0 = off := by simpa using hbo
        by_cases hle : len1 = len0
        · subst hle
          obtain ⟨b3, hb3⟩ : ∃ b, r.all isNumB = b := ⟨_, rfl⟩
          have HB3 := Lib.hid hb3
          have HR := Lib.hid hr
          have HRB := Lib.hid (show rowB len1 r = b3 from by rw [rowB, hb3, h61]; simp)
          clear hb3 hr h61
          cases b3 with
          | false =>
            have HE := Lib.hid (rowsB_no3 HR.out (by rw [HAT.out]; exact HRB.out))
            go_wp2
            go_quiet ((go_at_call 184; exact quiet_same (l1All_eq _ r _ (rdI_drewN _ h91) HB3.out)))
            go_wp2
            go_ret
            exact ⟨ret_bool HE.out.symm, _, by rw [HW.out, World.drewN_drewN]⟩
          | true =>
            have HE := Lib.hid (all_snoc HR.out HALL.out HRB.out)
            go_wp2
            go_quiet ((go_at_call 184; exact quiet_same (l1All_eq _ r _ (rdI_drewN _ h91) HB3.out)))
            go_wp2
            go_roundw
            case rel => exact ⟨k + 1, _, by omega, by go_num, HE.out, by rw [HW.out, World.drewN_drewN]⟩
            case measure => simp [intOf]; omega
        · have hleI : ((len1 : Int) != len0) = true := by simp; omega
          have HE := Lib.hid (rowsB_no3 (rows := rows) hr (show rowB (atL rows 0).length r = false from by rw [HAT.out, rowB, h61]; simp [hle]))
          clear hr h61
          go_wp2
          go_quiet (fail)
          go_wp2
          go_ret
          exact ⟨ret_bool HE.out.symm, _, by rw [HW.out, World.drewN_drewN]⟩
end Go.Proofs.YtbcjhpgkodeoeaaGreatDoor

/- Systems solved by reduction, as a function. Plain: no program's step stands here. -/
namespace Go.Proofs.YtbcjhpgkodeoeaaGreatDoor

/-- the first i rows have their right sides behind them -/
def augI (rows : List (List Int)) (right : List Int) (i : Nat) : List (List Int) := (List.range rows.length).map fun k => if k < i then atL rows k ++ [atZ right k] else atL rows k
theorem augI_len (rows : List (List Int)) (right : List Int) (i : Nat) : (augI rows right i).length = rows.length := by simp [augI]
theorem augI_get {rows : List (List Int)} {right : List Int} {i k : Nat} (h : k < rows.length) : (augI rows right i)[k]? = some (if k < i then atL rows k ++ [atZ right k] else atL rows k) := by simp [augI, h]
theorem augI_zero (rows : List (List Int)) (right : List Int) : augI rows right 0 = rows := by
  refine List.ext_getElem? fun k => ?_
  by_cases h : k < rows.length
  · rw [augI_get h, if_neg (by omega), atL_get (List.getElem?_eq_getElem h), List.getElem?_eq_getElem h]
  · rw [List.getElem?_eq_none (by rw [augI_len]; omega), List.getElem?_eq_none (by omega)]
theorem augI_done {rows : List (List Int)} {right : List Int} {i : Nat} (h : rows.length ≤ i) : augI rows right i = augZ rows right := by
  refine List.ext_getElem? fun k => ?_
  by_cases hk : k < rows.length
  · rw [augI_get hk, if_pos (by omega)]
    simp [augZ, hk]
  · rw [List.getElem?_eq_none (by rw [augI_len]; omega), List.getElem?_eq_none (by rw [augZ_len]; omega)]
theorem augI_next {rows : List (List Int)} {right : List Int} {i : Nat} (h : i < rows.length) : (augI rows right i).set i (atL rows i ++ [atZ right i]) = augI rows right (i + 1) := by
  refine List.ext_getElem? fun k => ?_
  by_cases hk : k < rows.length
  · rw [augI_get hk]
    by_cases hki : k = i
    · subst hki
      rw [List.getElem?_set_self (by rw [augI_len]; exact hk), if_pos (by omega)]
    · rw [List.getElem?_set_ne (fun h => hki h.symm), augI_get hk]
      by_cases h2 : k < i
      · rw [if_pos h2, if_pos (by omega)]
      · rw [if_neg h2, if_neg (by omega)]
  · rw [List.getElem?_eq_none (by rw [List.length_set, augI_len]; omega), List.getElem?_eq_none (by rw [augI_len]; omega)]

/-- the answer, filled in row by row -/
def outS (S : List (List Int) × List Nat) (n : Nat) : Nat → List Int
  | 0 => List.replicate n 0
  | i + 1 => if i < S.2.length then (outS S n i).set (S.2[i]?.getD 0) (atZ (atL S.1 i) n) else outS S n i
theorem outS_len (S : List (List Int) × List Nat) (n i : Nat) : (outS S n i).length = n := by
  induction i with
  | zero => simp [outS]
  | succ i ih =>
    rw [outS]
    split
    · rw [List.length_set, ih]
    · exact ih
def badB (S : List (List Int) × List Nat) (n N : Nat) : Bool := (List.range N).any fun i => decide (S.2.length ≤ i) && decide (atZ (atL S.1 i) n ≠ 0)
theorem badB_yes {S : List (List Int) × List Nat} {n N i : Nat} (h1 : S.2.length ≤ i) (h2 : i < N) (h3 : atZ (atL S.1 i) n ≠ 0) : badB S n N = true := by
  rw [badB, List.any_eq_true]
  exact ⟨i, by simpa using h2, by simp [h1, h3]⟩
theorem badB_no {S : List (List Int) × List Nat} {n N : Nat} (h : ∀ i, S.2.length ≤ i → i < N → atZ (atL S.1 i) n = 0) : badB S n N = false := by
  rw [badB, List.any_eq_false]
  intro i hi
  have hi : i < N := by simpa using hi
  simp only [Bool.and_eq_true, decide_eq_true_eq, not_and, ne_eq, Decidable.not_not]
  exact fun h1 => h i h1 hi
def sysB (rows : List (List Int)) (right : List Int) : Bool := rowsB rows && (decide (right.length = rows.length) && right.all isNumB)
def solS (rows : List (List Int)) (right : List Int) : List (List Int) × List Nat := redS (augZ rows right) (atL rows 0).length
def solB (rows : List (List Int)) (right : List Int) : Bool := sysB rows right && !badB (solS rows right) (atL rows 0).length rows.length
def solL (rows : List (List Int)) (right : List Int) : List Int := if solB rows right = true then outS (solS rows right) (atL rows 0).length rows.length else []
theorem solB_sys {rows : List (List Int)} {right : List Int} (h : sysB rows right = false) : solB rows right = false ∧ solL rows right = [] := by
  have : solB rows right = false := by rw [solB, h]; rfl
  exact ⟨this, by rw [solL, this]; rfl⟩
theorem solB_bad {rows : List (List Int)} {right : List Int} (h : badB (solS rows right) (atL rows 0).length rows.length = true) : solB rows right = false ∧ solL rows right = [] := by
  have : solB rows right = false := by rw [solB, h]; simp
  exact ⟨this, by rw [solL, this]; rfl⟩
theorem solB_yes {rows : List (List Int)} {right : List Int} (h1 : sysB rows right = true) (h : badB (solS rows right) (atL rows 0).length rows.length = false) : solB rows right = true ∧ solL rows right = outS (solS rows right) (atL rows 0).length rows.length := by
  have : solB rows right = true := by rw [solB, h1, h]; rfl
  exact ⟨this, by rw [solL, this]; rfl⟩
theorem nums_all {l : List Int} (h : l.all isNumB = true) : Nums l := fun x hx => by
  have := List.all_eq_true.1 h x hx
  simp only [isNumB, decide_eq_true_eq] at this
  omega
theorem all_nums {l : List Int} (h : Nums l) : l.all isNumB = true := List.all_eq_true.2 fun x hx => by
  have := h x hx
  simp only [isNumB, decide_eq_true_eq]
  omega
theorem rowsB_ok {rows : List (List Int)} (h : rowsB rows = true) : RowsOk (atL rows 0).length rows ∧ 1 ≤ rows.length ∧ rows.length ≤ 40 ∧ 1 ≤ (atL rows 0).length ∧ (atL rows 0).length ≤ 40 := by
  simp only [rowsB, inB, Bool.and_eq_true, decide_eq_true_eq, List.all_eq_true, rowB] at h
  obtain ⟨h1, h2, h3⟩ := h
  refine ⟨fun i hi => ?_, by omega, by omega, by omega, by omega⟩
  have hx := List.getElem?_eq_getElem hi
  rw [atL_get hx]
  obtain ⟨h4, h5⟩ := h3 _ (List.getElem_mem hi)
  exact ⟨h4, nums_all (List.all_eq_true.2 h5)⟩
theorem ok_rowsB {rows : List (List Int)} {n : Nat} (h : RowsOk n rows) (h1 : 1 ≤ rows.length) (h2 : rows.length ≤ 40) (h3 : 1 ≤ n) (h4 : n ≤ 40) : rowsB rows = true ∧ (atL rows 0).length = n := by
  have h0 := (h 0 (by omega)).1
  refine ⟨?_, h0⟩
  simp only [rowsB, inB, Bool.and_eq_true, decide_eq_true_eq, rowB]
  refine ⟨by omega, by omega, List.all_eq_true.2 fun r hr => ?_⟩
  obtain ⟨i, hi, rfl⟩ := List.getElem_of_mem hr
  have hx := List.getElem?_eq_getElem hi
  have := h i hi
  rw [atL_get hx] at this
  rw [rowB, this.1, h0, all_nums this.2]
  simp
theorem aug_ok {rows : List (List Int)} {right : List Int} {n : Nat} (h : RowsOk n rows) (hr : Nums right) : RowsOk (n + 1) (augZ rows right) := fun i hi => by
  rw [augZ_len] at hi
  rw [augZ_at hi]
  obtain ⟨h1, h2⟩ := h i hi
  refine ⟨by simp [h1], fun x hx => ?_⟩
  rcases List.mem_append.1 hx with hx | hx
  · exact h2 x hx
  · rw [List.mem_singleton.1 hx]; exact nums_atZ hr i
/-- If some numbers answer the equations, an answer is found. -/
theorem sol_found {rows : List (List Int)} {right : List Int} {n : Nat} (h : RowsOk n rows) (h1 : 1 ≤ rows.length) (h2 : rows.length ≤ 40) (h3 : 1 ≤ n) (h4 : n ≤ 40) (hr : Nums right) (hl : right.length = rows.length) (hs : Solv n rows right) :
    solB rows right = true ∧ (solL rows right).length = n := by
  obtain ⟨g1, g2⟩ := ok_rowsB h h1 h2 h3 h4
  have hsys : sysB rows right = true := by simp only [sysB, g1, hl, decide_true, all_nums hr, Bool.and_self]
  obtain ⟨X, hX, hI⟩ := solv_start h hr hs
  have hinv := redS_inv hI n (by omega)
  obtain ⟨_, k2, _⟩ := redS_ok (aug_ok h hr) n
  rw [augZ_len] at k2
  have hbad : badB (solS rows right) (atL rows 0).length rows.length = false := by
    rw [solS, g2]
    exact badB_no fun i h1 h2 => hinv.last hX h1 (by rw [k2]; exact h2)
  obtain ⟨a1, a2⟩ := solB_yes hsys hbad
  exact ⟨a1, by rw [a2, outS_len, g2]⟩
end Go.Proofs.YtbcjhpgkodeoeaaGreatDoor

/- The reference's copy of rows. Conditions: rows that are not empty. -/
namespace Go.Proofs.YtbcjhpgkodeoeaaGreatDoor
open Go.RowKit

set_option maxRecDepth 100000 in
set_option maxHeartbeats 3200000 in
theorem l1Copy_any (v : Value) (rows : List (List Int)) (w : World) (h : RdII w v rows) (h1000 : rows.length ≤ 1000) (hr : ∀ r ∈ rows, 1 ≤ r.length ∧ r.length ≤ 1000) :
    Calls Tryz.prog 198 #[v] w (Gives (fun w' v fp => OwnII 35 3 w' v rows fp) w) := by
  obtain ⟨ji, hji, hji0, hji1, hji2⟩ := info_parts Tryz.info_int
  obtain ⟨jl, hjl, hjl0, hjl1, hjl2⟩ := info_parts Tryz.info_ints
  obtain ⟨ad, len, cap, rfl, hl, hlc, hcm, h'⟩ := rdS_open h
  rw [hl] at h1000
  have HL := Lib.hid hl
  have HR := Lib.hid hr
  have HI0 := Lib.hid (ownII_lit (e1 := 35) (e := 3) w)
  have HB0 := Lib.hid (below_lit w 35)
  clear h hl hr
  go_enter Tryz.func198, Tryz.ntmps198
  go_wp2
  go_loopw [3, 4] (fun p j wq => ∃ (q : Nat) (f : List Nat), q ≤ len ∧ j = .int .i64 q ∧ OwnII 35 3 wq p (rows.take q) f ∧ (∀ b ∈ f, w.heap.size ≤ b) ∧ Below w.heap.size w wq) (fun _ j _ => len - (intOf j).toNat)
  case atStart => exact ⟨0, [w.heap.size], Nat.zero_le _, rfl, by simpa using HI0.out, by simp, HB0.out⟩
  case round =>
    obtain ⟨wk, rfl⟩ : ∃ W, W = wr := ⟨_, rfl⟩
    obtain ⟨q, f, hq, rfl, hp, hf, hb⟩ := hrel
    clear HI0 HB0
    by_cases hlt : q < len
    case neg =>
      obtain rfl : q = len := by omega
      rw [List.take_of_length_le (by rw [HL.out]; exact Nat.le_refl _)] at hp
      go_wp2
      go_ret
      exact ⟨_, f, rfl, hp, hf, hb⟩
    obtain ⟨b, off, ad1, len1, cap1, r, rfl, hr, hcell0, h61, h71, h81, h91, _⟩ := rdII_get h' hlt
    obtain ⟨hr1, hr2⟩ := HR.out r (List.mem_of_getElem? hr)
    rw [h61] at hr1 hr2
    have hcell := cell_below hb hcell0
    obtain ⟨adp, capp, us, rfl, hqc, hcpm, hpush⟩ := ownII_push4 hp (n := q) (by rw [List.length_take, HL.out]; omega)
    have h91k := rdI_mono hb h91
    have hlt2 := ownII_lt hp
    have hal : Below wk.heap.size wk (wk.alloc (.cells #[] 3)) := below_lit wk _
    have hcell2 := cell_below hal hcell
    obtain ⟨b1, o1, _, hx1, rfl, hx2⟩ : ∃ b o x, b = x ∧ ad1 = some ⟨b, o, none⟩ ∧ True := by
      obtain ⟨b1, o1, x, h1, _⟩ := rdI_get h91k (k := 0) (by omega)
      exact ⟨b1, o1, _, rfl, h1, trivial⟩
    clear hx1 hx2
    have HNW := Lib.hid (rdI_news (rdI_mono hal h91k))
    have HLN := Lib.hid h61
    have HI := Lib.hid (i64_all h91)
    have HP := Lib.hid hpush
    have HRW := Lib.hid hr
    have HF := Lib.hid hf
    have HB := Lib.hid hb
    have HLT := Lib.hid hlt2
    have HAL := Lib.hid hal
    have HLR := Lib.hid (lit_row (w := wk) (e := 3))
    clear hp hpush hr hf hb h61 h91 h91k hcell0 hlt2 hal
    go_wp2_with (first
      | (at_builtin; refine wpList_append_lies _ rfl _ _ _ rfl 0 3 ji _ 1 8 Tryz.underlying35 hji hji0 hji1 hji2 rfl (by omega) (.slice (some ⟨wk.heap.size, 0, none⟩) 0 0) 0 [] (by rfl) HLR.out ⟨b1, o1, none⟩ len1 cap1 (r.map (Value.int .i64)) (by rfl) (by rw [List.length_map, HLN.out, Nat.mul_one]) HNW.out (by intro u hu; simp only [List.mem_map] at hu; obtain ⟨z, _, rfl⟩ := hu; rfl) (by omega) (by unfold maxLen; omega) (by omega) (by simp) (wk.heap.size + 1) (by simp) ?_; intro gg capn wa hown1 hgrow hat hlt1; have hP := copy_own HAL.out hown1 (by simpa [Value.ownBlock] using hgrow) (Nat.le_refl _) (by simpa [Value.ownBlock] using hat) HLN.out HI.out; obtain ⟨hPo, hPg, hPb⟩ := hP; simp only [Nat.zero_add]; obtain ⟨hrowa, hcl⟩ := HP.out wa [] (Only.of_below hPb) (by simp); have HNP := Lib.hid hrowa; have HPA := Lib.hid (fun (w2 : World) (gg2 capn2 : Nat) hown2 hgrow2 hat2 => hcl _ r [gg] w2 gg2 capn2 hPo (fun b hb hm => (by have := HLT.out b hm; simp at hb; omega)) hown2 hgrow2 hat2); have HPB := Lib.hid (HB.out.trans (hPb.mono HB.out.size)); have HPG := Lib.hid hPg; clear hown1 hgrow hat hPo hPb hPg hrowa hcl)
      | (at_builtin; refine wpList_append_lies _ rfl _ _ _ rfl 0 35 jl _ 1 24 Tryz.underlying25 hjl hjl0 hjl1 hjl2 rfl (by omega) (.slice adp q capp) q _ (by rfl) (HNP.out.alloc _) ⟨wa.heap.size, 0, none⟩ 1 1 [.slice (some ⟨gg, 0, none⟩) len1 capn] (by rfl) (by rfl) (World.news_of_block (cs := #[.slice (some ⟨gg, 0, none⟩) len1 capn]) (t := 35) (fr := (0, 0)) (heap_alloc_new wa _)) (by simp [Value.oneCell']) (by omega) (by unfold maxLen; omega) (by omega) (by simp) (wa.heap.size + 1) (by simp) ?_; intro gg capn wn hown1 hgrow hat hlt1; obtain ⟨f', hP1, hP2, hP3⟩ := HPA.out wn gg capn hown1 hgrow hat; have HPP := Lib.hid hP1; clear hown1 hgrow hat hP1))
    all_goals (
      go_roundw
      case rel => exact ⟨q + 1, f', by omega, by go_num, by rw [take_snoc HRW.out]; exact HPP.out, fun b hb => by
        have := HPB.out.size
        have := HPG.out
        have := HB.out.size
        rcases hP2 b hb with h | h | h
        · exact HF.out b h
        · simp at h; omega
        · omega, below_newer HPB.out hP3 HF.out⟩
      case measure => simp [intOf]; omega)
end Go.Proofs.YtbcjhpgkodeoeaaGreatDoor

/- Two rows of a slice of rows are swapped. Conditions: none. -/
namespace Go.Proofs.YtbcjhpgkodeoeaaGreatDoor
open Go.RowKit

theorem ownEls_pt {α : Type} {El : World → List Value → α → List Nat → Prop} {w : World} {us : List (List Value)} : ∀ {xs : List α} {fp : List Nat}, OwnEls El w us xs fp →
    ∃ F : List (List Nat), F.length = us.length ∧ us.length = xs.length ∧ fp = F.flatten ∧ ∀ (k : Nat) u x f, us[k]? = some u → xs[k]? = some x → F[k]? = some f → El w u x f := by
  induction us with
  | nil =>
    intro xs fp h
    cases xs with
    | nil => exact ⟨[], rfl, rfl, by simpa [OwnEls] using h, by simp⟩
    | cons x xs => simp [OwnEls] at h
  | cons u us ih =>
    intro xs fp h
    cases xs with
    | nil => simp [OwnEls] at h
    | cons x xs =>
      obtain ⟨f, fs, rfl, h1, h2⟩ := h
      obtain ⟨F, g1, g2, rfl, g4⟩ := ih h2
      refine ⟨f :: F, by simp [g1], by simp [g2], by simp, fun k u' x' f' hu hx hf => ?_⟩
      cases k with
      | zero =>
        simp at hu hx hf
        subst hu hx hf
        exact h1
      | succ k => exact g4 k u' x' f' (by simpa using hu) (by simpa using hx) (by simpa using hf)
theorem pt_ownEls {α : Type} {El : World → List Value → α → List Nat → Prop} {w : World} {us : List (List Value)} : ∀ {xs : List α} {F : List (List Nat)}, F.length = us.length → us.length = xs.length →
    (∀ (k : Nat) u x f, us[k]? = some u → xs[k]? = some x → F[k]? = some f → El w u x f) → OwnEls El w us xs F.flatten := by
  induction us with
  | nil =>
    intro xs F h1 h2 _
    obtain rfl := List.eq_nil_of_length_eq_zero h1
    obtain rfl := List.eq_nil_of_length_eq_zero h2.symm
    rfl
  | cons u us ih =>
    intro xs F h1 h2 h3
    cases xs with
    | nil => simp at h2
    | cons x xs =>
      cases F with
      | nil => simp at h1
      | cons f F => exact ⟨f, F.flatten, by simp, h3 0 u x f rfl rfl rfl, ih (by simpa using h1) (by simpa using h2) (fun k u' x' f' hu hx hf => h3 (k + 1) u' x' f' (by simpa using hu) (by simpa using hx) (by simpa using hf))⟩
theorem swap_get {α : Type} {l : List α} {i r : Nat} {x y : α} (hx : l[i]? = some x) (hy : l[r]? = some y) (k : Nat) : ((l.set i y).set r x)[k]? = l[if k = r then i else if k = i then r else k]? := by
  have h1 := (List.getElem?_eq_some_iff.1 hx).1
  have h2 := (List.getElem?_eq_some_iff.1 hy).1
  by_cases hk : k = r
  · subst hk
    rw [if_pos rfl, List.getElem?_set_self (by simpa using h2), hx]
  · rw [if_neg hk, List.getElem?_set_ne (fun h => hk h.symm)]
    by_cases hi : k = i
    · subst hi
      rw [if_pos rfl, List.getElem?_set_self h1, hy]
    · rw [if_neg hi, List.getElem?_set_ne (fun h => hi h.symm)]
theorem swap_perm {α : Type} {l : List α} {i r : Nat} {x y : α} (hx : l[i]? = some x) (hy : l[r]? = some y) : ((l.set i y).set r x).Perm l := by
  obtain ⟨h1, rfl⟩ := List.getElem?_eq_some_iff.1 hx
  obtain ⟨h2, rfl⟩ := List.getElem?_eq_some_iff.1 hy
  exact List.set_set_perm h1 h2
theorem ownII_swap {e1 e : Nat} {w : World} {g n cap : Nat} {xs : List (List Int)} {fp : List Nat} (h : OwnII e1 e w (.slice (some ⟨g, 0, none⟩) n cap) xs fp) {i r : Nat} {x y : List Int} (hx : xs[i]? = some x) (hy : xs[r]? = some y) :
    ∃ adx lx cx ady ly cy, w.cell? ⟨g, i, none⟩ = some (.slice adx lx cx) ∧ w.cell? ⟨g, r, none⟩ = some (.slice ady ly cy) ∧ w.frozen? ⟨g, i, none⟩ = false ∧ w.frozen? ⟨g, r, none⟩ = false ∧ g ∈ fp ∧
      ∃ fp', OwnII e1 e ((w.setCell ⟨g, i, none⟩ (.slice ady ly cy)).setCell ⟨g, r, none⟩ (.slice adx lx cx)) (.slice (some ⟨g, 0, none⟩) n cap) ((xs.set i y).set r x) fp' ∧ ∀ b ∈ fp', b ∈ fp := by
  obtain ⟨us, fs, hown, hone, hels, rfl, hnd⟩ := h
  obtain ⟨F, g1, g2, rfl, g4⟩ := ownEls_pt hels
  have hi := (List.getElem?_eq_some_iff.1 hx).1
  have hr := (List.getElem?_eq_some_iff.1 hy).1
  obtain ⟨ui, hui⟩ : ∃ u, us[i]? = some u := ⟨_, List.getElem?_eq_getElem (by omega)⟩
  obtain ⟨ur, hur⟩ : ∃ u, us[r]? = some u := ⟨_, List.getElem?_eq_getElem (by omega)⟩
  obtain ⟨fi, hfi⟩ : ∃ u, F[i]? = some u := ⟨_, List.getElem?_eq_getElem (by omega)⟩
  obtain ⟨fr, hfr⟩ : ∃ u, F[r]? = some u := ⟨_, List.getElem?_eq_getElem (by omega)⟩
  obtain ⟨pi, rfl, hpi⟩ := g4 i ui x fi hui hx hfi
  obtain ⟨pr, rfl, hpr⟩ := g4 r ur y fr hur hy hfr
  obtain ⟨adx, lx, cx, rfl, _⟩ := ownI_open hpi
  obtain ⟨ady, ly, cy, rfl, _⟩ := ownI_open hpr
  obtain ⟨ad', cap', he, _, _, _⟩ := row_open hown
  injection he with e1' e2' e3'
  subst e2'
  have hfl1 := flat_get hone hui (j := 0) rfl
  have hfl2 := flat_get hone hur (j := 0) rfl
  simp only [Nat.mul_one, Nat.add_zero] at hfl1 hfl2
  have hs := (hown.stored i (.slice ady ly cy)).1
  have hs2 := (hs.stored r (.slice adx lx cx)).1
  have hset : (us.flatten.set i (.slice ady ly cy)).set r (.slice adx lx cx) = ((us.set i [.slice ady ly cy]).set r [.slice adx lx cx]).flatten := by
    have a1 := flat_set (n := 1) (k := i) (j := 0) hone hui (by omega) (Value.slice ady ly cy)
    rw [Nat.mul_one, Nat.add_zero] at a1
    have hone2 : ∀ u ∈ us.set i [Value.slice ady ly cy], u.length = 1 := fun u hu => by
      rcases List.mem_or_eq_of_mem_set hu with hu | rfl
      · exact hone u hu
      · rfl
    obtain ⟨u2, hu2⟩ : ∃ u, (us.set i [Value.slice ady ly cy])[r]? = some u := ⟨_, List.getElem?_eq_getElem (by rw [List.length_set]; omega)⟩
    have a2 := flat_set (n := 1) (k := r) (j := 0) hone2 hu2 (by omega) (Value.slice adx lx cx)
    rw [Nat.mul_one, Nat.add_zero] at a2
    have hl2 : u2.length = 1 := hone2 u2 (List.mem_of_getElem? hu2)
    rw [a1]
    show ((us.set i [Value.slice ady ly cy]).flatten).set r _ = _
    rw [a2]
    congr 2
    cases u2 with
    | nil => simp at hl2
    | cons a u2 => simp at hl2; subst hl2; rfl
  rw [hset] at hs2
  have hperm := swap_perm hfi hfr
  have hpf : ((F.set i fr).set r fi).flatten.Perm F.flatten := by
    have := hperm.flatMap_right id
    simpa [List.flatMap_id] using this
  have hgb : (Value.slice (some ⟨g, 0, none⟩) xs.length cap).ownBlock.toList = [g] := by simp [Value.ownBlock]
  rw [hgb] at hnd ⊢
  have hgn : g ∉ F.flatten := (List.nodup_cons.1 hnd).1
  have hO : Only [g] w ((w.setCell ⟨g, i, none⟩ (.slice ady ly cy)).setCell ⟨g, r, none⟩ (.slice adx lx cx)) := ((Only.refl _ _).setCell (by simp) _).setCell (by simp) _
  have hels2 : OwnEls (OElII e) w ((us.set i [.slice ady ly cy]).set r [.slice adx lx cx]) ((xs.set i y).set r x) ((F.set i fr).set r fi).flatten :=
    pt_ownEls (by simp [g1]) (by simp [g2]) (fun k u x' f' hu hx' hf => by
      rw [swap_get hui hur] at hu
      rw [swap_get hx hy] at hx'
      rw [swap_get hfi hfr] at hf
      exact g4 _ u x' f' hu hx' hf)
  refine ⟨adx, lx, cx, ady, ly, cy, ?_, ?_, hown.frozenAt i, hown.frozenAt r, by simp, g :: ((F.set i fr).set r fi).flatten, ⟨(us.set i [.slice ady ly cy]).set r [.slice adx lx cx], _, ?_, ?_, ?_, by rw [hgb]; rfl, ?_⟩, ?_⟩
  · rw [hown.cellAt i (by omega), hfl1]
  · rw [hown.cellAt r (by omega), hfl2]
  · simpa using hs2
  · intro u hu
    rcases List.mem_or_eq_of_mem_set hu with hu | rfl
    · rcases List.mem_or_eq_of_mem_set hu with hu | rfl
      · exact hone u hu
      · rfl
    · rfl
  · exact ownEls_only (fun u x f h hd => oelII_only h hO hd) hels2 (fun b hb hm => hgn (by rw [← List.mem_singleton.1 hm]; exact hpf.mem_iff.1 hb))
  · rw [List.nodup_cons]
    exact ⟨fun hm => hgn (hpf.mem_iff.1 hm), hpf.nodup_iff.2 (List.nodup_cons.1 hnd).2⟩
  · intro b hb
    simp only [List.mem_cons] at hb
    simp only [List.cons_append, List.nil_append, List.mem_cons]
    rcases hb with rfl | hb
    · exact .inl rfl
    · exact .inr (hpf.mem_iff.1 hb)
end Go.Proofs.YtbcjhpgkodeoeaaGreatDoor

/- Numbers as texts. Conditions: none. -/
namespace Go.Proofs.YtbcjhpgkodeoeaaGreatDoor
open Go.RowKit Go.Sort

/-- A text out of its bytes. -/
def txt (l : List UInt8) : Value := .string ⟨l.toArray⟩
theorem txt_append (a b : List UInt8) : (ByteArray.mk a.toArray) ++ (ByteArray.mk b.toArray) = ByteArray.mk (a ++ b).toArray := by
  apply ByteArray.ext
  simp

theorem cat_run {P : Program} (a b : List UInt8) (h : a.length + b.length ≤ 1000000) (w : World) : (Op.stringOp .add (ByteArray.mk a.toArray) (ByteArray.mk b.toArray)).run P w = .ok (.string (ByteArray.mk (a ++ b).toArray)) w := by
  rw [run_string_add_sum w _ _ (by simp [ByteArray.size]; omega), txt_append]
/-- A digit. -/
def dig (n : Nat) : UInt8 := UInt8.ofNat (48 + n % 10)
/-- The digits of a number. -/
def decL (n : Nat) : List UInt8 := if n < 10 then [dig n] else decL (n / 10) ++ [dig n]
termination_by n
decreasing_by omega
theorem decL_small {n : Nat} (h : n < 10) : decL n = [dig n] := by rw [decL, if_pos h]
theorem decL_big {n : Nat} (h : ¬ n < 10) : decL n = decL (n / 10) ++ [dig n] := by rw [decL, if_neg h]

theorem enc_ascii (n : Nat) (h : n < 128) : Utf8.encode (n : Int) = ByteArray.mk #[UInt8.ofNat n] := by
  unfold Utf8.encode
  have hv : Utf8.valid (n : Int) = true := by
    unfold Utf8.valid
    simp
    omega
  simp only [hv, if_true, Int.toNat_natCast]
  rw [if_pos (by omega)]
theorem enc_dig (n : Nat) : Utf8.encode (48 + (n : Int) % 10) = ByteArray.mk [dig n].toArray := by
  rw [show (48 : Int) + (n : Int) % 10 = ((48 + n % 10 : Nat) : Int) by omega, enc_ascii _ (by omega)]
  rfl
theorem txt_cat (a b : List UInt8) : Value.string (ByteArray.mk a.toArray ++ ByteArray.mk b.toArray) = txt (a ++ b) := by rw [txt_append]; rfl
theorem decL_len : ∀ (n k : Nat), n < 10 ^ (k + 1) → (decL n).length ≤ k + 1 := by
  intro n k
  induction k generalizing n with
  | zero => intro h; rw [decL_small (by omega)]; simp
  | succ k ih =>
    intro h
    by_cases hs : n < 10
    · rw [decL_small hs]; simp
    · rw [decL_big hs, List.length_append]
      have := ih (n / 10) (by rw [Nat.pow_succ] at h; omega)
      simp
      omega

set_option maxRecDepth 100000 in
set_option maxHeartbeats 800000 in
theorem decimal_z (n : Nat) : n < 2000000000 → ∀ (z : Int) (w : World), z = (n : Int) → Calls Tryz.prog 91 #[.int .i64 z] w fun e w' => e = .returned (txt (decL n)) ∧ w = w' := by
  induction n using Nat.strongRecOn with
  | ind n ih =>
    intro hn z w hz
    by_cases h : n < 10
    · have hd : Value.string (Utf8.encode (48 + z)) = txt (decL n) := by
        have h1 := enc_dig n
        rw [show (n : Int) % 10 = z by omega] at h1
        rw [decL_small h, h1]
        rfl
      have HD := Lib.hid hd
      have hI : z < 10 := by omega
      have hI0 : 0 ≤ z := by omega
      clear hd ih hn h hz
      go_enter Tryz.func91, Tryz.ntmps91
      go_wp2
      go_ret
      exact ⟨ret_eq HD.out, rfl⟩
    · obtain ⟨s, hs⟩ : ∃ s, s = ByteArray.mk (decL (n / 10)).toArray := ⟨_, rfl⟩
      obtain ⟨d, hd⟩ : ∃ d, d = Utf8.encode (48 + z % 10) := ⟨_, rfl⟩
      obtain ⟨u, hu⟩ : ∃ u, u = ByteArray.mk (decL n).toArray := ⟨_, rfl⟩
      have IH := Lib.hid (show Calls Tryz.prog 91 #[.int .i64 (z / 10)] w fun e w' => e = .returned (.string s) ∧ w = w' from by
        rw [hs]
        exact ih (n / 10) (by omega) (by omega) (z / 10) w (by omega))
      have hcat : ∀ w : World, (Op.stringOp .add s d).run Tryz.prog w = .ok (.string u) w := fun w => by
        rw [hs, hd, hu, hz, enc_dig, cat_run _ _ (by
          have := decL_len (n / 10) 9 (by omega)
          simp
          omega), ← decL_big h]
      have HD := Lib.hid (show Value.string u = txt (decL n) from by rw [hu]; rfl)
      have hI : 10 ≤ z := by omega
      have hI2 : z ≤ 2000000000 := by omega
      have hde := hd.symm
      clear ih hn h hs hu hd hz
      go_enter Tryz.func91, Tryz.ntmps91
      go_wp2_with fail
      refine IH.out.mono ?_
      rintro e w' ⟨rfl, rfl⟩
      go_wp2
      go_ret
      exact ⟨ret_eq HD.out, rfl⟩
theorem decimal_any {n : Nat} (hn : n < 2000000000) {z : Int} (hz : z = (n : Int)) (w : World) : Calls Tryz.prog 91 #[.int .i64 z] w fun e w' => e = .returned (txt (decL n)) ∧ w = w' := decimal_z n hn z w hz

/-- The digits, none of 0. -/
def decP (n : Nat) : List UInt8 := if n = 0 then [] else decL n
theorem decP_zero : decP 0 = [] := by simp [decP]
theorem decP_step {n : Nat} (h : 0 < n) : decP n = decP (n / 10) ++ [dig n] := by
  rw [decP, if_neg (by omega)]
  by_cases hs : n < 10
  · rw [decL_small hs, show n / 10 = 0 by omega, decP_zero]; rfl
  · rw [decL_big hs, decP, if_neg (by omega)]
/-- An integer as a text. -/
def decZ (z : Int) : List UInt8 := if z < 0 then 45 :: decL (-z).toNat else decL z.toNat

set_option maxRecDepth 100000 in
set_option maxHeartbeats 1600000 in
theorem sDecimal_any (z : Int) (hlo : -2000000000 < z) (hhi : z < 2000000000) (w : World) : Calls Tryz.prog 150 #[.int .i64 z] w fun e w' => e = .returned (txt (decZ z)) ∧ Below w.heap.size w w' := by
  have HBR := Lib.hid (Below.refl w.heap.size w)
  by_cases hz : z < 0
  · obtain ⟨m, hm⟩ : ∃ m : Nat, -z = (m : Int) := ⟨(-z).toNat, by omega⟩
    have HL := Lib.hid (show (decP m).length ≤ 10 from by rw [decP, if_neg (by omega)]; exact decL_len m 9 (by omega))
    have HM := Lib.hid hm
    have HE := Lib.hid (show decZ z = 45 :: decP m from by rw [decZ, if_pos hz, decP, if_neg (by omega), show (-z).toNat = m by omega])
    have hzz : z < -z := by omega
    have hz0 : (z == 0) = false := by simp; omega
    clear hm
    go_enter Tryz.func150, Tryz.ntmps150
    go_wp2
    go_loopw [3, 4] (fun ss sk wr => ∃ (s : ByteArray) (l : List UInt8) (k : Int) (kn : Nat), ss = .string s ∧ sk = .int .i64 k ∧ k = kn ∧ s = ByteArray.mk l.toArray ∧ decP m = decP kn ++ l ∧ 0 ≤ k ∧ k ≤ 2000000000 ∧ l.length + (decP kn).length ≤ 10 ∧ Below w.heap.size w wr) (fun _ sk _ => (intOf sk).toNat)
    case atStart => exact ⟨_, [], _, m, rfl, rfl, HM.out, rfl, by simp, by omega, by have := HM.out; omega, by simpa using HL.out, HBR.out⟩
    case round =>
      obtain ⟨wk, rfl⟩ : ∃ W, W = wr := ⟨_, rfl⟩
      clear HBR
      obtain ⟨s, l, k, kn, rfl, rfl, hkn, hs, hP, hk0, hk1, hll, hb⟩ := hrel
      by_cases hk : 0 < k
      · obtain ⟨d, hd⟩ : ∃ d : UInt8, d = dig kn := ⟨_, rfl⟩
        obtain ⟨u, hu⟩ : ∃ u, u = ByteArray.mk (d :: l).toArray := ⟨_, rfl⟩
        have hst := decP_step (n := kn) (by omega)
        have HN := Lib.hid (show decP m = decP (kn / 10) ++ (d :: l) ∧ (d :: l).length + (decP (kn / 10)).length ≤ 10 ∧ k / 10 = ((kn / 10 : Nat) : Int) ∧ (kn / 10 : Nat) < k.toNat from ⟨by rw [hP, hst, ← hd]; simp, by rw [hst, List.length_append] at hll; simp at hll ⊢; omega, by omega, by omega⟩)
        have hcat : ∀ w : World, (Op.stringOp .add (ByteArray.mk #[d]) s).run Tryz.prog w = .ok (.string u) w := fun w => by
          rw [hs, hu]
          exact cat_run [d] l (by simp; omega) w
        have hdd : (48 + k % 10) = ((d.toNat : Nat) : Int) := by
          rw [hd, hkn, dig, UInt8.toNat_ofNat']
          omega
        have hcv : (convert 22 9 (.slice (some ⟨wk.heap.size, 0, none⟩) 1 1)).run Tryz.prog (wk.alloc (.cells #[.int .u8 (48 + k % 10)] 5)) = .ok (.string (ByteArray.mk #[d])) (wk.alloc (.cells #[.int .u8 (48 + k % 10)] 5)) :=
          run_convert_bytes_back _ _ _ 5 ⟨wk.heap.size, 0, none⟩ 1 [d] Tryz.underlying22 Tryz.underlying5 Tryz.underlying9 (fun j hj => by
            simp at hj
            subst hj
            rw [hdd]
            simp [Addr.add])
        have hba : Below wk.heap.size wk (wk.alloc (.cells #[.int .u8 (48 + k % 10)] 5)) := (Below.refl _ _).alloc (Nat.le_refl _) _
        have HBA := Lib.hid (hb.trans (hba.mono hb.size))
        have HU := Lib.hid hu
        have HB := Lib.hid (hb)
        clear hkn hs hP hll hst hd hu hb hdd hba
        go_wp2
        go_roundw
        case rel => exact ⟨u, d :: l, k / 10, kn / 10, rfl, rfl, HN.out.2.2.1, HU.out, HN.out.1, by omega, by omega, HN.out.2.1, HBA.out⟩
        case measure => (simp [intOf]; omega)
      · obtain rfl : k = 0 := by omega
        obtain rfl : kn = 0 := by omega
        have hcat : ∀ w : World, (Op.stringOp .add (ByteArray.mk #[45]) s).run Tryz.prog w = .ok (.string (ByteArray.mk (45 :: l).toArray)) w := fun w => by
          rw [hs]
          exact cat_run [45] l (by simp; omega) w
        obtain ⟨u, hu⟩ : ∃ u, u = ByteArray.mk (45 :: l).toArray := ⟨_, rfl⟩
        rw [← hu] at hcat
        have HR := Lib.hid (show Value.string u = txt (decZ z) from by rw [HE.out, hP, decP_zero, hu]; rfl)
        clear hs hP hll hu hkn
        go_wp2
        go_ret
        exact ⟨ret_eq HR.out, hb⟩
  · obtain ⟨m, hm⟩ : ∃ m : Nat, z = (m : Int) := ⟨z.toNat, by omega⟩
    have HL := Lib.hid (show (decP m).length ≤ 10 from by
      unfold decP
      split
      · simp
      · exact decL_len m 9 (by omega))
    have HM := Lib.hid hm
    have hzz : ¬ z < -z := by omega
    by_cases hz1 : z = 0
    · have HE := Lib.hid (show Value.string (ByteArray.mk #[48]) = txt (decZ z) from by rw [hz1]; simp [decZ, decL_small, txt, dig])
      have hz0 : (z == 0) = true := by simp [hz1]
      clear hm hz1
      go_enter Tryz.func150, Tryz.ntmps150
      go_wp2
      go_loopw [3, 4] (fun ss sk wr => ∃ (s : ByteArray) (l : List UInt8) (k : Int) (kn : Nat), ss = .string s ∧ sk = .int .i64 k ∧ k = kn ∧ s = ByteArray.mk l.toArray ∧ decP m = decP kn ++ l ∧ 0 ≤ k ∧ k ≤ 2000000000 ∧ l.length + (decP kn).length ≤ 10 ∧ Below w.heap.size w wr) (fun _ sk _ => (intOf sk).toNat)
      case atStart => exact ⟨_, [], _, m, rfl, rfl, HM.out, rfl, by simp, by omega, by have := HM.out; omega, by simpa using HL.out, HBR.out⟩
      case round =>
        obtain ⟨wk, rfl⟩ : ∃ W, W = wr := ⟨_, rfl⟩
        clear HBR
        obtain ⟨s, l, k, kn, rfl, rfl, hkn, hs, hP, hk0, hk1, hll, hb⟩ := hrel
        by_cases hk : 0 < k
        · obtain ⟨d, hd⟩ : ∃ d : UInt8, d = dig kn := ⟨_, rfl⟩
          obtain ⟨u, hu⟩ : ∃ u, u = ByteArray.mk (d :: l).toArray := ⟨_, rfl⟩
          have hst := decP_step (n := kn) (by omega)
          have HN := Lib.hid (show decP m = decP (kn / 10) ++ (d :: l) ∧ (d :: l).length + (decP (kn / 10)).length ≤ 10 ∧ k / 10 = ((kn / 10 : Nat) : Int) ∧ (kn / 10 : Nat) < k.toNat from ⟨by rw [hP, hst, ← hd]; simp, by rw [hst, List.length_append] at hll; simp at hll ⊢; omega, by omega, by omega⟩)
          have hcat : ∀ w : World, (Op.stringOp .add (ByteArray.mk #[d]) s).run Tryz.prog w = .ok (.string u) w := fun w => by
            rw [hs, hu]
            exact cat_run [d] l (by simp; omega) w
          have hdd : (48 + k % 10) = ((d.toNat : Nat) : Int) := by
            rw [hd, hkn, dig, UInt8.toNat_ofNat']
            omega
          have hcv : (convert 22 9 (.slice (some ⟨wk.heap.size, 0, none⟩) 1 1)).run Tryz.prog (wk.alloc (.cells #[.int .u8 (48 + k % 10)] 5)) = .ok (.string (ByteArray.mk #[d])) (wk.alloc (.cells #[.int .u8 (48 + k % 10)] 5)) :=
            run_convert_bytes_back _ _ _ 5 ⟨wk.heap.size, 0, none⟩ 1 [d] Tryz.underlying22 Tryz.underlying5 Tryz.underlying9 (fun j hj => by
              simp at hj
              subst hj
              rw [hdd]
              simp [Addr.add])
          have hba : Below wk.heap.size wk (wk.alloc (.cells #[.int .u8 (48 + k % 10)] 5)) := (Below.refl _ _).alloc (Nat.le_refl _) _
          have HBA := Lib.hid (hb.trans (hba.mono hb.size))
          have HU := Lib.hid hu
          have HB := Lib.hid (hb)
          clear hkn hs hP hll hst hd hu hb hdd hba
          go_wp2
          go_roundw
          case rel => exact ⟨u, d :: l, k / 10, kn / 10, rfl, rfl, HN.out.2.2.1, HU.out, HN.out.1, by omega, by omega, HN.out.2.1, HBA.out⟩
          case measure => (simp [intOf]; omega)
        · clear hs hP hll hkn
          go_wp2
          go_ret
          exact ⟨ret_eq HE.out, hb⟩
    · have HE := Lib.hid (show decZ z = decP m from by rw [decZ, if_neg hz, decP, if_neg (by omega), show z.toNat = m by omega])
      have hz0 : (z == 0) = false := by simp [hz1]
      clear hm hz1
      go_enter Tryz.func150, Tryz.ntmps150
      go_wp2
      go_loopw [3, 4] (fun ss sk wr => ∃ (s : ByteArray) (l : List UInt8) (k : Int) (kn : Nat), ss = .string s ∧ sk = .int .i64 k ∧ k = kn ∧ s = ByteArray.mk l.toArray ∧ decP m = decP kn ++ l ∧ 0 ≤ k ∧ k ≤ 2000000000 ∧ l.length + (decP kn).length ≤ 10 ∧ Below w.heap.size w wr) (fun _ sk _ => (intOf sk).toNat)
      case atStart => exact ⟨_, [], _, m, rfl, rfl, HM.out, rfl, by simp, by omega, by have := HM.out; omega, by simpa using HL.out, HBR.out⟩
      case round =>
        obtain ⟨wk, rfl⟩ : ∃ W, W = wr := ⟨_, rfl⟩
        clear HBR
        obtain ⟨s, l, k, kn, rfl, rfl, hkn, hs, hP, hk0, hk1, hll, hb⟩ := hrel
        by_cases hk : 0 < k
        · obtain ⟨d, hd⟩ : ∃ d : UInt8, d = dig kn := ⟨_, rfl⟩
          obtain ⟨u, hu⟩ : ∃ u, u = ByteArray.mk (d :: l).toArray := ⟨_, rfl⟩
          have hst := decP_step (n := kn) (by omega)
          have HN := Lib.hid (show decP m = decP (kn / 10) ++ (d :: l) ∧ (d :: l).length + (decP (kn / 10)).length ≤ 10 ∧ k / 10 = ((kn / 10 : Nat) : Int) ∧ (kn / 10 : Nat) < k.toNat from ⟨by rw [hP, hst, ← hd]; simp, by rw [hst, List.length_append] at hll; simp at hll ⊢; omega, by omega, by omega⟩)
          have hcat : ∀ w : World, (Op.stringOp .add (ByteArray.mk #[d]) s).run Tryz.prog w = .ok (.string u) w := fun w => by
            rw [hs, hu]
            exact cat_run [d] l (by simp; omega) w
          have hdd : (48 + k % 10) = ((d.toNat : Nat) : Int) := by
            rw [hd, hkn, dig, UInt8.toNat_ofNat']
            omega
          have hcv : (convert 22 9 (.slice (some ⟨wk.heap.size, 0, none⟩) 1 1)).run Tryz.prog (wk.alloc (.cells #[.int .u8 (48 + k % 10)] 5)) = .ok (.string (ByteArray.mk #[d])) (wk.alloc (.cells #[.int .u8 (48 + k % 10)] 5)) :=
            run_convert_bytes_back _ _ _ 5 ⟨wk.heap.size, 0, none⟩ 1 [d] Tryz.underlying22 Tryz.underlying5 Tryz.underlying9 (fun j hj => by
              simp at hj
              subst hj
              rw [hdd]
              simp [Addr.add])
          have hba : Below wk.heap.size wk (wk.alloc (.cells #[.int .u8 (48 + k % 10)] 5)) := (Below.refl _ _).alloc (Nat.le_refl _) _
          have HBA := Lib.hid (hb.trans (hba.mono hb.size))
          have HU := Lib.hid hu
          have HB := Lib.hid (hb)
          clear hkn hs hP hll hst hd hu hb hdd hba
          go_wp2
          go_roundw
          case rel => exact ⟨u, d :: l, k / 10, kn / 10, rfl, rfl, HN.out.2.2.1, HU.out, HN.out.1, by omega, by omega, HN.out.2.1, HBA.out⟩
          case measure => (simp [intOf]; omega)
        · obtain rfl : k = 0 := by omega
          obtain rfl : kn = 0 := by omega
          have HR := Lib.hid (show Value.string s = txt (decZ z) from by rw [HE.out, hP, decP_zero, hs]; rfl)
          clear hs hP hll hkn
          go_wp2
          go_ret
          exact ⟨ret_eq HR.out, hb⟩
end Go.Proofs.YtbcjhpgkodeoeaaGreatDoor
