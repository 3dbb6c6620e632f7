/- The texts Poly, ColP in one: each says at its head what it proves. Conditions: as said there. -/
import Derived.Test.YtbcjhpgkodeoeaaGreatDoorG02
import Derived.Test.YtbcjhpgkodeoeaaGreatDoorG03
set_option linter.unusedSimpArgs false
set_option linter.unusedVariables false
/- The tests on polynomials and fields, of the program and of the reference: what they return. Conditions: powers of at most 1048576 elements. -/
namespace Go.Proofs.YtbcjhpgkodeoeaaGreatDoor
open Go.RowKit Go.Sort

/-- Less, by the first place that differs. -/
def ltL : List Int → List Int → Bool
  | _, [] => false
  | [], _ :: _ => true
  | x :: xs, y :: ys => if x = y then ltL xs ys else decide (x < y)
/-- The program's comparison. -/
def cmpL : List Int → List Int → Int
  | [], [] => 0
  | [], _ :: _ => -1
  | _ :: _, [] => 1
  | x :: xs, y :: ys => if x < y then -1 else if y < x then 1 else cmpL xs ys
theorem cmp_lt : ∀ (a b : List Int), cmpL a b ≤ 0 ↔ ltL b a = false
  | [], [] => by simp [cmpL, ltL]
  | [], _ :: _ => by simp [cmpL, ltL]
  | _ :: _, [] => by simp [cmpL, ltL]
  | x :: xs, y :: ys => by
    simp only [cmpL, ltL]
    by_cases h1 : x < y
    · have h2 : ¬ y = x := by omega
      have h3 : ¬ y < x := by omega
      simp [h1, h2, h3]
    · by_cases h2 : y < x
      · have h3 : ¬ y = x := by omega
        simp [h1, h2, h3]
      · have h3 : y = x := by omega
        simp [h3, cmp_lt xs ys]
theorem cmp_bd : ∀ (a b : List Int), -1 ≤ cmpL a b ∧ cmpL a b ≤ 1
  | [], [] => by simp [cmpL]
  | [], _ :: _ => by simp [cmpL]
  | _ :: _, [] => by simp [cmpL]
  | x :: xs, y :: ys => by
    simp only [cmpL]
    split
    · omega
    · split
      · omega
      · exact cmp_bd xs ys

theorem isNumber_eq {n : Int} {b : Bool} (h : isNumB n = b) (w : World) : Calls Tryz.prog 106 #[.int .i64 n] w fun e w' => e = .returned (.bool b) ∧ w = w' := h ▸ isNumber_any n w

set_option maxHeartbeats 400000 in
theorem isNaN_any (n : Int) (w : World) : Calls Tryz.prog 186 #[.int .i64 n] w fun e w' => e = .returned (.bool false) ∧ w = w' := by
  go_enter Tryz.func186, Tryz.ntmps186
  go_wp2
  go_ret
  exact ⟨ret_bool (by simp), rfl⟩

set_option maxHeartbeats 400000 in
theorem cmpInt_any (x y : Int) (w : World) : Calls Tryz.prog 155 #[.int .i64 x, .int .i64 y] w fun e w' => e = .returned (.int .i64 (if x < y then -1 else if y < x then 1 else 0)) ∧ w = w' := by
  by_cases h1 : x < y
  · go_enter Tryz.func155, Tryz.ntmps155
    go_wp2_with (go_at_call 186; ((with_reducible refine (isNaN_any _ _).mono ?_); rintro e w' ⟨rfl, rfl⟩))
    go_ret
    exact ⟨rfl, rfl⟩
  · by_cases h2 : y < x
    · go_enter Tryz.func155, Tryz.ntmps155
      go_wp2_with (go_at_call 186; ((with_reducible refine (isNaN_any _ _).mono ?_); rintro e w' ⟨rfl, rfl⟩))
      go_ret
      exact ⟨rfl, rfl⟩
    · go_enter Tryz.func155, Tryz.ntmps155
      go_wp2_with (go_at_call 186; ((with_reducible refine (isNaN_any _ _).mono ?_); rintro e w' ⟨rfl, rfl⟩))
      go_ret
      exact ⟨rfl, rfl⟩
theorem cmpInt_lt {x y : Int} (h : x < y) (w : World) : Calls Tryz.prog 155 #[.int .i64 x, .int .i64 y] w fun e w' => e = .returned (.int .i64 (-1)) ∧ w = w' := by
  have := cmpInt_any x y w
  rwa [if_pos h] at this
theorem cmpInt_gt {x y : Int} (h : y < x) (w : World) : Calls Tryz.prog 155 #[.int .i64 x, .int .i64 y] w fun e w' => e = .returned (.int .i64 1) ∧ w = w' := by
  have := cmpInt_any x y w
  rwa [if_neg (by omega), if_pos h] at this
theorem cmpInt_eq (x : Int) (w : World) : Calls Tryz.prog 155 #[.int .i64 x, .int .i64 x] w fun e w' => e = .returned (.int .i64 0) ∧ w = w' := by
  have := cmpInt_any x x w
  rwa [if_neg (by omega), if_neg (by omega)] at this

/-- What the two lists have from the place k on decides. -/
def CmpFrom (xs ys : List Int) (k : Nat) : Prop := cmpL xs ys = cmpL (xs.drop k) (ys.drop k) ∧ ltL xs ys = ltL (xs.drop k) (ys.drop k)
theorem cmpFrom_next {xs ys : List Int} {k : Nat} {x : Int} (h : CmpFrom xs ys k) (hx : xs[k]? = some x) (hy : ys[k]? = some x) : CmpFrom xs ys (k + 1) := by
  obtain ⟨hkx, rfl⟩ := List.getElem?_eq_some_iff.1 hx
  obtain ⟨hky, hy'⟩ := List.getElem?_eq_some_iff.1 hy
  obtain ⟨h1, h2⟩ := h
  rw [List.drop_eq_getElem_cons hkx, List.drop_eq_getElem_cons hky, hy'] at h1 h2
  exact ⟨by rw [h1]; simp [cmpL], by rw [h2]; simp [ltL]⟩
theorem cmpFrom_ne {xs ys : List Int} {k : Nat} {x y : Int} (h : CmpFrom xs ys k) (hx : xs[k]? = some x) (hy : ys[k]? = some y) (hne : x ≠ y) :
    cmpL xs ys = (if x < y then -1 else 1) ∧ ltL xs ys = decide (x < y) := by
  obtain ⟨hkx, rfl⟩ := List.getElem?_eq_some_iff.1 hx
  obtain ⟨hky, rfl⟩ := List.getElem?_eq_some_iff.1 hy
  obtain ⟨h1, h2⟩ := h
  rw [List.drop_eq_getElem_cons hkx, List.drop_eq_getElem_cons hky] at h1 h2
  refine ⟨?_, by rw [h2, ltL, if_neg hne]⟩
  rw [h1, cmpL]
  by_cases hl : xs[k] < ys[k]
  · rw [if_pos hl, if_pos hl]
  · rw [if_neg hl, if_neg hl, if_pos (by omega)]
theorem cmpFrom_yend {xs ys : List Int} {k : Nat} (h : CmpFrom xs ys k) (hx : k < xs.length) (hy : ys.length ≤ k) : cmpL xs ys = 1 ∧ ltL xs ys = false := by
  obtain ⟨h1, h2⟩ := h
  rw [List.drop_eq_getElem_cons hx, List.drop_of_length_le hy] at h1 h2
  exact ⟨by rw [h1, cmpL], by rw [h2, ltL]⟩
theorem cmpFrom_xend {xs ys : List Int} {k : Nat} (h : CmpFrom xs ys k) (hx : xs.length ≤ k) (hy : k < ys.length) : cmpL xs ys = -1 ∧ ltL xs ys = true := by
  obtain ⟨h1, h2⟩ := h
  rw [List.drop_eq_getElem_cons hy, List.drop_of_length_le hx] at h1 h2
  exact ⟨by rw [h1, cmpL], by rw [h2, ltL]⟩
theorem cmpFrom_end {xs ys : List Int} {k : Nat} (h : CmpFrom xs ys k) (hx : xs.length ≤ k) (hy : ys.length ≤ k) : cmpL xs ys = 0 ∧ ltL xs ys = false := by
  obtain ⟨h1, h2⟩ := h
  rw [List.drop_of_length_le hx, List.drop_of_length_le hy] at h1 h2
  exact ⟨by rw [h1, cmpL], by rw [h2, ltL]⟩

set_option maxHeartbeats 800000 in
theorem compare_any (va vb : Value) (xs ys : List Int) (w : World) (ha : RdI w va xs) (hb : RdI w vb ys) :
    Calls Tryz.prog 107 #[va, vb] w fun e w' => e = .returned (.int .i64 (cmpL xs ys)) ∧ w = w' := by
  obtain ⟨ad, len, cap, rfl, hl, hlc, hcm, h'⟩ := rdS_open ha
  obtain ⟨ad2, len2, cap2, rfl, hl2, hlc2, hcm2, h2'⟩ := rdS_open hb
  have HL := Lib.hid hl
  have HL2 := Lib.hid hl2
  clear ha hb hl hl2
  go_enter Tryz.func107, Tryz.ntmps107
  go_wp2
  go_loop [11] (fun i => ∃ k : Nat, k ≤ len ∧ k ≤ len2 ∧ i = .int .i64 k ∧ CmpFrom xs ys k) (fun i => len - (intOf i).toNat)
  case atStart => exact ⟨0, Nat.zero_le _, Nat.zero_le _, rfl, by simp [CmpFrom]⟩
  case round =>
    obtain ⟨k, hk, hk2, rfl, hC⟩ := hrel
    have HC := Lib.hid hC
    clear hC
    by_cases hlt : k < len
    · obtain ⟨b, off, x, rfl, hx, hc, hI, _⟩ := rdI_get h' hlt
      have HX := Lib.hid hx
      clear hx
      by_cases hlt2 : k < len2
      · obtain ⟨b2, off2, y, rfl, hy, hc2, hI2, _⟩ := rdI_get h2' hlt2
        have HY := Lib.hid hy
        clear hy
        by_cases hxy : x = y
        · subst hxy
          go_wp2_with (go_at_call 155; ((with_reducible refine (cmpInt_eq _ _).mono ?_); rintro e w' ⟨rfl, rfl⟩))
          go_round
          case rel => exact ⟨k + 1, by omega, by omega, by go_num, cmpFrom_next HC.out HX.out HY.out⟩
          case measure => simp [intOf]; omega
        · have HN := Lib.hid (cmpFrom_ne HC.out HX.out HY.out hxy).1
          by_cases hl : x < y
          · go_wp2_with (go_at_call 155; ((with_reducible refine (cmpInt_lt hl _).mono ?_); rintro e w' ⟨rfl, rfl⟩))
            go_ret
            exact ⟨ret_int (by rw [HN.out, if_pos hl]), rfl⟩
          · have hg : y < x := by omega
            go_wp2_with (go_at_call 155; ((with_reducible refine (cmpInt_gt hg _).mono ?_); rintro e w' ⟨rfl, rfl⟩))
            go_ret
            exact ⟨ret_int (by rw [HN.out, if_neg (by omega)]), rfl⟩
      · have HN := Lib.hid (cmpFrom_yend HC.out (by rw [HL.out]; exact hlt) (by rw [HL2.out]; omega)).1
        go_wp2
        go_ret
        exact ⟨ret_int (by rw [HN.out]), rfl⟩
    · by_cases hlt2 : len < len2
      · have HN := Lib.hid (cmpFrom_xend HC.out (by rw [HL.out]; omega) (by rw [HL2.out]; omega)).1
        go_wp2
        go_ret
        exact ⟨ret_int (by rw [HN.out]), rfl⟩
      · have HN := Lib.hid (cmpFrom_end HC.out (by rw [HL.out]; omega) (by rw [HL2.out]; omega)).1
        go_wp2
        go_ret
        exact ⟨ret_int (by rw [HN.out]), rfl⟩
theorem compare_eq {c : Int} (va vb : Value) (xs ys : List Int) (w : World) (ha : RdI w va xs) (hb : RdI w vb ys) (h : cmpL xs ys = c) :
    Calls Tryz.prog 107 #[va, vb] w fun e w' => e = .returned (.int .i64 c) ∧ w = w' := h ▸ compare_any va vb xs ys w ha hb

set_option maxHeartbeats 800000 in
theorem l2Less_any (va vb : Value) (xs ys : List Int) (w : World) (ha : RdI w va xs) (hb : RdI w vb ys) :
    Calls Tryz.prog 133 #[va, vb] w (Qt (.bool (ltL xs ys)) w) := by
  obtain ⟨ad, len, cap, rfl, hl, hlc, hcm, h'⟩ := rdS_open ha
  obtain ⟨ad2, len2, cap2, rfl, hl2, hlc2, hcm2, h2'⟩ := rdS_open hb
  have HL := Lib.hid hl
  have HL2 := Lib.hid hl2
  clear ha hb hl hl2
  go_enter Tryz.func133, Tryz.ntmps133
  go_wp2
  go_loopw [5] (fun i wr => ∃ k : Nat, k ≤ len ∧ k ≤ len2 ∧ i = .int .i64 k ∧ CmpFrom xs ys k ∧ ∃ m, wr = w.drewN m) (fun i _ => len - (intOf i).toNat)
  case atStart => exact ⟨0, Nat.zero_le _, Nat.zero_le _, rfl, by simp [CmpFrom], 0, rfl⟩
  case round =>
    obtain ⟨k, hk, hk2, rfl, hC, m, hwr⟩ := hrel
    have h'r := rdI_drewN m h'
    have h2'r := rdI_drewN m h2'
    rw [← hwr] at h'r h2'r
    have HW := Lib.hid hwr
    have HC := Lib.hid hC
    clear hC hwr
    by_cases hlt : k < len
    · by_cases hlt2 : k < len2
      · obtain ⟨b, off, x, rfl, hx, hc, hI, _⟩ := rdI_get h'r hlt
        obtain ⟨b2, off2, y, rfl, hy, hc2, hI2, _⟩ := rdI_get h2'r hlt2
        have HX := Lib.hid hx
        have HY := Lib.hid hy
        clear hx hy
        by_cases hxy : x = y
        · subst hxy
          go_wp2
          go_quiet (fail)
          go_wp2
          go_roundw
          case rel => exact ⟨k + 1, by omega, by omega, by go_num, cmpFrom_next HC.out HX.out HY.out, _, by rw [HW.out, World.drewN_drewN]⟩
          case measure => simp [intOf]; omega
        · have HN := Lib.hid (cmpFrom_ne HC.out HX.out HY.out hxy).2
          have hb1 : (x != y) = true := by simpa using hxy
          go_wp2
          go_quiet (fail)
          obtain ⟨wq, hwq⟩ : ∃ wq, wq = wr.drewN nq := ⟨_, rfl⟩
          have hcq : wq.cell? ⟨b, off + k, none⟩ = some (.int .i64 x) := by rw [hwq]; simpa using hc
          have hcq2 : wq.cell? ⟨b2, off2 + k, none⟩ = some (.int .i64 y) := by rw [hwq]; simpa using hc2
          rw [← hwq]
          have HQ := Lib.hid hwq
          clear hwq
          go_wp2
          go_quiet (fail)
          go_wp2
          go_ret
          exact ⟨ret_bool HN.out.symm, _, by rw [HQ.out, HW.out, World.drewN_drewN, World.drewN_drewN]⟩
      · have HN := Lib.hid (cmpFrom_yend HC.out (by rw [HL.out]; exact hlt) (by rw [HL2.out]; omega)).2
        go_wp2
        go_ret
        exact ⟨ret_bool (by first | exact HN.out.symm | (rw [HN.out]; simp; omega)), m, HW.out⟩
    · by_cases hlt2 : len < len2
      · have HN := Lib.hid (cmpFrom_xend HC.out (by rw [HL.out]; omega) (by rw [HL2.out]; omega)).2
        go_wp2
        go_ret
        exact ⟨ret_bool (by first | exact HN.out.symm | (rw [HN.out]; simp [hlt2])), m, HW.out⟩
      · have HN := Lib.hid (cmpFrom_end HC.out (by rw [HL.out]; omega) (by rw [HL2.out]; omega)).2
        go_wp2
        go_ret
        exact ⟨ret_bool (by first | exact HN.out.symm | (rw [HN.out]; simp; omega)), m, HW.out⟩

/-- The sum of powers, -1 where one is out of range. -/
def powIn (p : Int) : Bool := decide (0 ≤ p ∧ p ≤ 5)
def degZ (ps : List Int) : Int := if ps.all powIn = true then ps.sum else -1
theorem sum_snoc {ps : List Int} {k : Nat} {x : Int} (h : ps[k]? = some x) : (ps.take (k + 1)).sum = (ps.take k).sum + x := by
  rw [take_snoc h]; simp [List.sum_append]
theorem sum_bd {ps : List Int} (h : ps.all powIn = true) : 0 ≤ ps.sum ∧ ps.sum ≤ 5 * ps.length := by
  induction ps with
  | nil => simp
  | cons p ps ih =>
    simp only [List.all_cons, Bool.and_eq_true, powIn, decide_eq_true_eq] at h
    have := ih (by simpa [powIn] using h.2)
    simp only [List.sum_cons, List.length_cons]
    omega

set_option maxHeartbeats 400000 in
theorem degree_any (v : Value) (ps : List Int) (w : World) (h : RdI w v ps) (hn : ps.length ≤ 1048576) :
    Calls Tryz.prog 105 #[v] w fun e w' => e = .returned (.int .i64 (degZ ps)) ∧ w = w' := by
  obtain ⟨ad, len, cap, rfl, hl, hlc, hcm, h'⟩ := rdS_open h
  rw [hl] at hn
  have HL := Lib.hid hl
  clear h hl
  go_enter Tryz.func105, Tryz.ntmps105
  go_wp2
  go_loop [3, 8] (fun n i => ∃ (k : Nat) (s : Int), k ≤ len ∧ i = .int .i64 k ∧ n = .int .i64 s ∧ 0 ≤ s ∧ s ≤ 5 * k ∧ s = (ps.take k).sum ∧ (ps.take k).all powIn = true) (fun _ i => len - (intOf i).toNat)
  case atStart => exact ⟨0, 0, Nat.zero_le _, rfl, rfl, by omega, by omega, by simp, by simp⟩
  case round =>
    obtain ⟨k, s, hk, rfl, rfl, hs0, hs1, hs, ha⟩ := hrel
    have HS := Lib.hid hs
    have HA := Lib.hid ha
    clear hs ha
    by_cases hlt : k < len
    · obtain ⟨b, off, x, rfl, hx, hc, hI, _⟩ := rdI_get h' hlt
      have HX := Lib.hid hx
      clear hx
      by_cases h0 : 0 ≤ x
      · by_cases h5 : x ≤ 5
        · have hp : powIn x = true := by simp [powIn, h0, h5]
          have HP := Lib.hid hp
          clear hp
          go_wp2
          go_round
          case rel => exact ⟨k + 1, s + x, by omega, by go_num, rfl, by omega, by omega, by rw [sum_snoc HX.out, ← HS.out], all_snoc HX.out HA.out HP.out⟩
          case measure => simp [intOf]; omega
        · have HD := Lib.hid (show degZ ps = -1 by rw [degZ, if_neg]; rw [all_false HX.out (by simp [powIn]; omega)]; simp)
          go_wp2
          go_ret
          exact ⟨ret_int HD.out.symm, rfl⟩
      · have HD := Lib.hid (show degZ ps = -1 by rw [degZ, if_neg]; rw [all_false HX.out (by simp [powIn]; omega)]; simp)
        go_wp2
        go_ret
        exact ⟨ret_int HD.out.symm, rfl⟩
    · go_wp2
      go_ret
      have e1 := all_done (by rw [HL.out]; omega) HA.out
      have e2 := HS.out
      rw [List.take_of_length_le (by rw [HL.out]; omega)] at e2
      exact ⟨ret_int (by rw [degZ, if_pos e1, e2]), rfl⟩

/-- A monomial that is fine by itself. -/
def monOkB (dim : Int) (m : MonZ) : Bool := decide (m.coef ≠ 0) && isNumB m.coef && decide ((m.pows.length : Int) = dim) && decide (0 ≤ degZ m.pows ∧ degZ m.pows ≤ 5)
/-- .. and behind the one before it. -/
def stepOkB (dim : Int) (xs : List MonZ) (i : Nat) : Bool :=
  match xs[i]? with
  | none => true
  | some m => monOkB dim m && (decide (i = 0) || ltL m.pows (xs[i - 1]?.getD default).pows)
def polyOkB (xs : List MonZ) (dim : Int) : Bool := dimB dim && decide (xs.length ≤ 12) && (List.range xs.length).all (stepOkB dim xs)

theorem polyOkB_dim {xs : List MonZ} {dim : Int} (h : dimB dim = false) : polyOkB xs dim = false := by simp [polyOkB, h]
theorem polyOkB_len {xs : List MonZ} {dim : Int} (h : 12 < xs.length) : polyOkB xs dim = false := by
  unfold polyOkB
  rw [decide_eq_false (by omega)]
  simp
theorem polyOkB_all {xs : List MonZ} {dim : Int} (hd : dimB dim = true) (h : xs.length ≤ 12) : polyOkB xs dim = (List.range xs.length).all (stepOkB dim xs) := by
  unfold polyOkB
  rw [decide_eq_true h, hd]
  rfl
theorem range_bad {n k : Nat} {f : Nat → Bool} (hk : k < n) (h : f k = false) : (List.range n).all f = false := by
  rw [List.all_eq_false]
  exact ⟨k, by simpa using hk, by simp [h]⟩
theorem range_snoc {k : Nat} {f : Nat → Bool} (h : (List.range k).all f = true) (hk : f k = true) : (List.range (k + 1)).all f = true := by
  rw [List.range_succ]; simp_all

theorem stepOk_mon {dim : Int} {xs : List MonZ} {k : Nat} {m : MonZ} (hm : xs[k]? = some m) (h : monOkB dim m = false) : stepOkB dim xs k = false := by simp [stepOkB, hm, h]
theorem stepOk_zero {dim : Int} {xs : List MonZ} {m : MonZ} (hm : xs[0]? = some m) (h : monOkB dim m = true) : stepOkB dim xs 0 = true := by simp [stepOkB, hm, h]
theorem stepOk_succ {dim : Int} {xs : List MonZ} {k : Nat} {m m' : MonZ} (hm : xs[k + 1]? = some m) (hm' : xs[k]? = some m') (h : monOkB dim m = true) : stepOkB dim xs (k + 1) = ltL m.pows m'.pows := by
  simp [stepOkB, hm, h, hm']
theorem monOk_coef {dim : Int} {m : MonZ} (h : m.coef = 0) : monOkB dim m = false := by simp [monOkB, h]
theorem monOk_num {dim : Int} {m : MonZ} (h : isNumB m.coef = false) : monOkB dim m = false := by simp [monOkB, h]
theorem monOk_len {dim : Int} {m : MonZ} (h : (m.pows.length : Int) ≠ dim) : monOkB dim m = false := by simp [monOkB, h]
theorem monOk_deg {dim : Int} {m : MonZ} (h : ¬ (0 ≤ degZ m.pows ∧ degZ m.pows ≤ 5)) : monOkB dim m = false := by
  unfold monOkB
  rw [decide_eq_false h]
  simp
theorem monOk_yes {dim : Int} {m : MonZ} (h1 : m.coef ≠ 0) (h2 : isNumB m.coef = true) (h3 : (m.pows.length : Int) = dim) (h4 : 0 ≤ degZ m.pows ∧ degZ m.pows ≤ 5) : monOkB dim m = true := by
  unfold monOkB
  rw [decide_eq_true h4, decide_eq_true h1, decide_eq_true h3, h2]
  rfl

set_option maxHeartbeats 3200000 in
theorem polyOk_any (v : Value) (xs : List MonZ) (dim : Int) (w : World) (h : RdMs w v xs) (hfit : ∀ m ∈ xs, Fit_Mon m) :
    Calls Tryz.prog 44 #[v, .int .i64 dim] w fun e w' => e = .returned (.bool (polyOkB xs dim)) ∧ Below w.heap.size w w' := by
  obtain ⟨ad, len, cap, rfl, hl, hlc, hcm, h'⟩ := rdS_open h
  have HL := Lib.hid hl
  have HF := Lib.hid hfit
  clear h hl hfit
  cases hdim : dimB dim with
  | false =>
    have HP := Lib.hid (polyOkB_dim (xs := xs) hdim)
    go_enter Tryz.func44, Tryz.ntmps44
    go_wp2_with (go_at_call 88; ((with_reducible refine (isDim_eq hdim _).mono ?_); rintro e w' ⟨rfl, rfl⟩))
    go_ret
    exact ⟨ret_bool HP.out.symm, Below.refl _ _⟩
  | true =>
  by_cases h12 : 12 < len
  · have HP := Lib.hid (polyOkB_len (xs := xs) (dim := dim) (by rw [HL.out]; exact h12))
    go_enter Tryz.func44, Tryz.ntmps44
    go_wp2_with (go_at_call 88; ((with_reducible refine (isDim_eq hdim _).mono ?_); rintro e w' ⟨rfl, rfl⟩))
    go_ret
    exact ⟨ret_bool HP.out.symm, Below.refl _ _⟩
  have hle : (len : Int) ≤ 12 := by omega
  have hle' : decide (12 < (len : Int)) = false := by simp; omega
  have HP := Lib.hid (polyOkB_all (xs := xs) hdim (by rw [HL.out]; omega))
  clear h12
  go_enter Tryz.func44, Tryz.ntmps44
  go_wp2_with (go_at_call 88; ((with_reducible refine (isDim_eq hdim _).mono ?_); rintro e w' ⟨rfl, rfl⟩))
  go_loopw [18] (fun i wr => ∃ k : Nat, k ≤ len ∧ i = .int .i64 k ∧ (List.range k).all (stepOkB dim xs) = true ∧ Below w.heap.size w wr) (fun i _ => len - (intOf i).toNat)
  case atStart => exact ⟨0, Nat.zero_le _, rfl, by simp, Below.refl _ _⟩
  case round =>
    obtain ⟨k, hk, rfl, ha, hbw⟩ := hrel
    have HA := Lib.hid ha
    clear ha
    have h'r := rdMs_mono hbw h'
    by_cases hlt : k < len
    case neg =>
      go_wp2
      go_ret
      obtain rfl : k = len := by omega
      exact ⟨ret_bool (by rw [HP.out, HL.out, HA.out]), hbw⟩
    obtain ⟨b, off, ad', len', cap', m, rfl, hm, hc0, hc1, hI, h6, h7, h8, h9, hbs⟩ := rdMs_get h'r hlt
    have hba := hbw.alloc hbw.size (.cells #[.int .i64 m.coef, .slice ad' len' cap'] 56)
    have hal : Below wr.heap.size wr (wr.alloc (.cells #[.int .i64 m.coef, .slice ad' len' cap'] 56)) := (Below.refl _ _).alloc (Nat.le_refl _) _
    have h9a := rdI_mono hal h9
    have hfm : m.pows.length ≤ 1048576 := HF.out m (List.mem_of_getElem? hm)
    have HM := Lib.hid hm
    have H6 := Lib.hid h6
    obtain ⟨d, hd⟩ : ∃ d, degZ m.pows = d := ⟨_, rfl⟩
    have HD := Lib.hid hd
    have hdeg : ∀ W : World, RdI W (.slice ad' len' cap') m.pows → Calls Tryz.prog 105 #[.slice ad' len' cap'] W fun e w' => e = .returned (.int .i64 d) ∧ W = w' := fun W hW => HD.out ▸ degree_any _ _ _ hW hfm
    have HDG := Lib.hid hdeg
    clear hm h6 hd hdeg
    have hkl : k < xs.length := by rw [HL.out]; exact hlt
    have HKL := Lib.hid hkl
    clear hkl
    by_cases hz : m.coef = 0
    · have HB := Lib.hid (range_bad HKL.out (stepOk_mon HM.out (monOk_coef (dim := dim) hz)))
      have hzb : (m.coef == 0) = true := by simp [hz]
      clear hz
      go_wp2_with (go_at_call 105; ((with_reducible refine (HDG.out _ h9a).mono ?_); rintro e w' ⟨rfl, rfl⟩))
      go_quiet (fail)
      go_wp2
      go_ret
      exact ⟨ret_bool (by rw [HP.out, HB.out]), blw_drewN hba _⟩
    have hzb : (m.coef == 0) = false := by simpa using hz
    have HZ := Lib.hid hz
    clear hz
    cases hnum : isNumB m.coef with
    | false =>
      have HB := Lib.hid (range_bad HKL.out (stepOk_mon HM.out (monOk_num (dim := dim) hnum)))
      go_wp2_with (go_at_call 105; ((with_reducible refine (HDG.out _ h9a).mono ?_); rintro e w' ⟨rfl, rfl⟩))
      go_quiet ((go_at_call 106; exact quiet_same (isNumber_eq hnum _)))
      go_wp2
      go_ret
      exact ⟨ret_bool (by rw [HP.out, HB.out]), blw_drewN hba _⟩
    | true =>
    by_cases hld : (len' : Int) = dim
    case neg =>
      have HB := Lib.hid (range_bad HKL.out (stepOk_mon HM.out (monOk_len (dim := dim) (by rw [H6.out]; exact hld))))
      have hldb : ((len' : Int) != dim) = true := by simpa using hld
      clear hld
      go_wp2_with (go_at_call 105; ((with_reducible refine (HDG.out _ h9a).mono ?_); rintro e w' ⟨rfl, rfl⟩))
      go_quiet ((go_at_call 106; exact quiet_same (isNumber_eq hnum _)))
      go_wp2
      go_ret
      exact ⟨ret_bool (by rw [HP.out, HB.out]), blw_drewN hba _⟩
    have hldb : ((len' : Int) != dim) = false := by simpa using hld
    have HLD := Lib.hid hld
    clear hld
    by_cases hd0 : d < 0
    · have HB := Lib.hid (range_bad HKL.out (stepOk_mon HM.out (monOk_deg (dim := dim) (by rw [HD.out]; omega))))
      go_wp2_with (go_at_call 105; ((with_reducible refine (HDG.out _ h9a).mono ?_); rintro e w' ⟨rfl, rfl⟩))
      go_quiet ((go_at_call 106; exact quiet_same (isNumber_eq hnum _)))
      go_wp2
      go_ret
      exact ⟨ret_bool (by rw [HP.out, HB.out]), blw_drewN hba _⟩
    have hd0' : decide (d < 0) = false := by simpa using hd0
    have hd0i : 0 ≤ d := by omega
    clear hd0
    by_cases hd5 : 5 < d
    · have HB := Lib.hid (range_bad HKL.out (stepOk_mon HM.out (monOk_deg (dim := dim) (by rw [HD.out]; omega))))
      go_wp2_with (go_at_call 105; ((with_reducible refine (HDG.out _ h9a).mono ?_); rintro e w' ⟨rfl, rfl⟩))
      go_quiet ((go_at_call 106; exact quiet_same (isNumber_eq hnum _)))
      go_wp2
      go_ret
      exact ⟨ret_bool (by rw [HP.out, HB.out]), blw_drewN hba _⟩
    have hd5' : decide (5 < d) = false := by simpa using hd5
    have hd5i : d ≤ 5 := by omega
    clear hd5
    have HMO := Lib.hid (monOk_yes (dim := dim) HZ.out hnum (by rw [H6.out]; exact HLD.out) (by rw [HD.out]; exact ⟨hd0i, hd5i⟩))
    by_cases hk0 : k = 0
    · subst hk0
      simp only [Nat.zero_mul, Nat.add_zero, Nat.zero_add] at hc0 hc1
      have HSO := Lib.hid (stepOk_zero HM.out HMO.out)
      go_wp2_with (go_at_call 105; ((with_reducible refine (HDG.out _ h9a).mono ?_); rintro e w' ⟨rfl, rfl⟩))
      go_quiet ((go_at_call 106; exact quiet_same (isNumber_eq hnum _)))
      go_wp2
      go_roundw
      case rel => exact ⟨1, by omega, by go_num, range_snoc HA.out HSO.out, blw_drewN hba _⟩
      case measure => simp [intOf]; omega
    · obtain ⟨b2, off2, ad2, len2, cap2, m2, hbe, hm2, hd0c, hd1c, hI2, h62, h72, h82, h92, _⟩ := rdMs_get h'r (k := k - 1) (by omega)
      simp only [Option.some.injEq, Addr.mk.injEq] at hbe
      obtain ⟨rfl, rfl, _⟩ := hbe
      have h92a := rdI_mono hal h92
      have HSO := Lib.hid (show stepOkB dim xs k = ltL m.pows m2.pows by
        obtain ⟨j, rfl⟩ : ∃ j, k = j + 1 := ⟨k - 1, by omega⟩
        exact stepOk_succ HM.out hm2 HMO.out)
      obtain ⟨c, hcc⟩ : ∃ c, cmpL m2.pows m.pows = c := ⟨_, rfl⟩
      have hk1 : 1 ≤ k := by omega
      have hk0n : 0 < k := by omega
      have hk1i : (0 : Int) ≤ (k : Int) - 1 := by omega
      have hk2i : (k : Int) - 1 < len := by omega
      have hk3 : ((k : Int) - 1).toNat = k - 1 := by omega
      have hk5 : k - 1 < len := by omega
      have hk4 : IntKind.i64.wrap ((k : Int) - 1) = (k : Int) - 1 := IntWalk.i64_in _ (by omega)
      clear hm2 h62 hk0
      by_cases hc0' : c ≤ 0
      · have HB := Lib.hid (range_bad HKL.out (HSO.out.trans ((cmp_lt _ _).1 (by rw [hcc]; exact hc0'))))
        go_wp2_with (go_at_call 105; ((with_reducible refine (HDG.out _ h9a).mono ?_); rintro e w' ⟨rfl, rfl⟩))
        go_quiet ((first | (go_at_call 106; exact quiet_same (isNumber_eq hnum _)) | (go_at_call 107; exact quiet_same (compare_eq _ _ m2.pows m.pows _ (rdI_drewN _ h92a) (rdI_drewN _ h9a) hcc))))
        go_wp2
        go_ret
        exact ⟨ret_bool (by rw [HP.out, HB.out]), blw_drewN hba _⟩
      · have HB := Lib.hid (show stepOkB dim xs k = true by
          rw [HSO.out]
          cases hlt : ltL m.pows m2.pows with
          | true => rfl
          | false => exact absurd ((cmp_lt _ _).2 hlt) (by rw [hcc]; exact hc0'))
        have hc0'' : decide (c ≤ 0) = false := by simpa using hc0'
        go_wp2_with (go_at_call 105; ((with_reducible refine (HDG.out _ h9a).mono ?_); rintro e w' ⟨rfl, rfl⟩))
        go_quiet ((first | (go_at_call 106; exact quiet_same (isNumber_eq hnum _)) | (go_at_call 107; exact quiet_same (compare_eq _ _ m2.pows m.pows _ (rdI_drewN _ h92a) (rdI_drewN _ h9a) hcc))))
        go_wp2
        go_roundw
        case rel => exact ⟨k + 1, by omega, by go_num, range_snoc HA.out HB.out, blw_drewN hba _⟩
        case measure => simp [intOf]; omega
end Go.Proofs.YtbcjhpgkodeoeaaGreatDoor

/- Polynomials put together: a list in descending order without zeros is fixed by the sums of its numbers. In plain lists. Conditions: numbers. -/
namespace Go.Proofs.YtbcjhpgkodeoeaaGreatDoor
open Go.RowKit Go.Sort

theorem ltL_irr : ∀ a : List Int, ltL a a = false
  | [] => rfl
  | x :: xs => by simp [ltL, ltL_irr xs]
theorem ltL_trans : ∀ {a b c : List Int}, ltL a b = true → ltL b c = true → ltL a c = true
  | _, [], _ => by intro h; simp [ltL] at h
  | _, _ :: _, [] => by intro _ h; simp [ltL] at h
  | [], _ :: _, _ :: _ => by intros; rfl
  | x :: xs, y :: ys, z :: zs => by
    intro h k
    simp only [ltL] at h k ⊢
    by_cases h1 : x = y
    · subst h1
      by_cases h2 : x = z
      · subst h2
        simp at h k ⊢
        exact ltL_trans h k
      · rw [if_neg h2] at k ⊢
        exact k
    · rw [if_neg h1] at h
      simp at h
      by_cases h2 : y = z
      · subst h2
        rw [if_neg (by omega)]
        simp [h]
      · rw [if_neg h2] at k
        simp at k
        rw [if_neg (by omega)]
        simp
        omega
theorem ltL_tri : ∀ {a b : List Int}, ltL a b = false → ltL b a = false → a = b
  | [], [] => by intros; rfl
  | [], _ :: _ => by intro h; simp [ltL] at h
  | _ :: _, [] => by intro _ h; simp [ltL] at h
  | x :: xs, y :: ys => by
    intro h k
    simp only [ltL] at h k
    by_cases h1 : x = y
    · subst h1
      simp at h k
      rw [ltL_tri h k]
    · rw [if_neg h1] at h
      rw [if_neg (fun e => h1 e.symm)] at k
      simp at h k
      omega
theorem ltL_ne {a b : List Int} (h : ltL a b = true) : a ≠ b := by
  rintro rfl
  rw [ltL_irr] at h
  cases h

/-- The sum of the numbers at some powers. -/
def coefAt (ps : List Int) : List MonZ → Int
  | [] => 0
  | m :: l => (if m.pows = ps then m.coef else 0) + coefAt ps l
theorem coefAt_zero {ps : List Int} : ∀ {l : List MonZ}, (∀ m ∈ l, m.pows ≠ ps) → coefAt ps l = 0
  | [], _ => rfl
  | m :: l, h => by
    rw [coefAt, if_neg (h m (by simp)), coefAt_zero (fun x hx => h x (by simp [hx]))]
    rfl
theorem coefAt_append (ps : List Int) : ∀ a b : List MonZ, coefAt ps (a ++ b) = coefAt ps a + coefAt ps b
  | [], b => by simp [coefAt]
  | m :: a, b => by simp [coefAt, coefAt_append ps a b]; omega
theorem coefAt_perm {ps : List Int} {a b : List MonZ} (h : a.Perm b) : coefAt ps a = coefAt ps b := by
  induction h with
  | nil => rfl
  | cons x _ ih => simp [coefAt, ih]
  | swap x y l => simp [coefAt]; omega
  | trans _ _ h1 h2 => rw [h1, h2]
theorem coefAt_kept (ps : List Int) : ∀ l : List MonZ, coefAt ps (l.filter fun m => decide (m.coef ≠ 0)) = coefAt ps l
  | [] => rfl
  | m :: l => by
    have ih := coefAt_kept ps l
    by_cases h : m.coef = 0
    · rw [List.filter_cons_of_neg (by simp [h]), ih, coefAt]
      split <;> omega
    · rw [List.filter_cons_of_pos (by simp [h]), coefAt, coefAt, ih]

def Desc (l : List MonZ) : Prop := l.Pairwise fun a b => ltL b.pows a.pows = true
def NumsM (l : List MonZ) : Prop := ∀ m ∈ l, 0 ≤ m.coef ∧ m.coef ≤ 1000000270
def Canon (l : List MonZ) : Prop := Desc l ∧ NumsM l ∧ ∀ m ∈ l, m.coef ≠ 0

theorem canon_tail {m : MonZ} {l : List MonZ} (h : Canon (m :: l)) : Canon l :=
  ⟨(List.pairwise_cons.1 h.1).2, fun x hx => h.2.1 x (by simp [hx]), fun x hx => h.2.2 x (by simp [hx])⟩
theorem canon_below {m : MonZ} {l : List MonZ} (h : Desc (m :: l)) {ps : List Int} (hp : m.pows = ps ∨ ltL m.pows ps = true) : coefAt ps l = 0 :=
  coefAt_zero fun x hx => ltL_ne (by
    have h1 := (List.pairwise_cons.1 h).1 x hx
    rcases hp with rfl | hp
    · exact h1
    · exact ltL_trans h1 hp)
theorem canon_unique : ∀ {a b : List MonZ}, Canon a → Canon b → (∀ ps, coefAt ps a % 1000000271 = coefAt ps b % 1000000271) → a = b
  | [], [], _, _, _ => rfl
  | [], n :: b, _, hb, h => by
    exfalso
    have h1 := h n.pows
    rw [coefAt, coefAt, if_pos rfl, canon_below hb.1 (.inl rfl)] at h1
    have h2 := hb.2.1 n (by simp)
    have h3 := hb.2.2 n (by simp)
    omega
  | m :: a, [], ha, _, h => by
    exfalso
    have h1 := h m.pows
    rw [show coefAt m.pows [] = 0 from rfl, coefAt, if_pos rfl, canon_below ha.1 (.inl rfl)] at h1
    have h2 := ha.2.1 m (by simp)
    have h3 := ha.2.2 m (by simp)
    omega
  | m :: a, n :: b, ha, hb, h => by
    have m2 := ha.2.1 m (by simp)
    have m3 := ha.2.2 m (by simp)
    have n2 := hb.2.1 n (by simp)
    have n3 := hb.2.2 n (by simp)
    by_cases h1 : ltL m.pows n.pows = true
    · exfalso
      have h4 := h n.pows
      rw [coefAt, coefAt, if_pos rfl, if_neg (ltL_ne h1), canon_below ha.1 (.inr h1), canon_below hb.1 (.inl rfl)] at h4
      omega
    · by_cases h2 : ltL n.pows m.pows = true
      · exfalso
        have h4 := h m.pows
        rw [coefAt, coefAt, if_pos rfl, if_neg (ltL_ne h2), canon_below ha.1 (.inl rfl), canon_below hb.1 (.inr h2)] at h4
        omega
      · have hp : m.pows = n.pows := ltL_tri (by simpa using h1) (by simpa using h2)
        have h4 := h m.pows
        rw [coefAt, coefAt, if_pos rfl, if_pos hp.symm, canon_below ha.1 (.inl rfl), canon_below hb.1 (.inl hp.symm)] at h4
        have hc : m.coef = n.coef := by omega
        have hmn : m = n := by
          cases m; cases n
          simp at hp hc
          rw [hp, hc]
        subst hmn
        refine congrArg _ (canon_unique (canon_tail ha) (canon_tail hb) fun ps => ?_)
        have h5 := h ps
        rw [coefAt, coefAt] at h5
        omega

-- the reference: a monomial put into a polynomial
/-- what the loop of the reference goes through: the rest, the number so far, whether it has been placed -/
def putA (pw : List Int) : List MonZ → Int → Bool → List MonZ
  | [], c, placed => if placed = true then [] else [⟨c, pw⟩]
  | x :: xs, c, placed =>
    if x.pows = pw then putA pw xs (plusZ c x.coef) placed
    else if placed = false ∧ ltL x.pows pw = true then ⟨c, pw⟩ :: x :: putA pw xs c true
    else x :: putA pw xs c placed
def keptL (l : List MonZ) : List MonZ := l.filter fun m => decide (m.coef ≠ 0)
def putL (p : List MonZ) (m : MonZ) : List MonZ := keptL (putA m.pows p m.coef false)
def insA (pw : List Int) (c : Int) : List MonZ → List MonZ
  | [] => [⟨c, pw⟩]
  | x :: xs => if x.pows = pw then ⟨plusZ c x.coef, pw⟩ :: xs else if ltL x.pows pw = true then ⟨c, pw⟩ :: x :: xs else x :: insA pw c xs
theorem putA_below {pw : List Int} : ∀ {xs : List MonZ} (c : Int), (∀ x ∈ xs, ltL x.pows pw = true) → putA pw xs c true = xs ∧ putA pw xs c false = ⟨c, pw⟩ :: xs
  | [], c, _ => by simp [putA]
  | x :: xs, c, h => by
    have h1 := h x (by simp)
    have ih := putA_below (xs := xs) c (fun y hy => h y (by simp [hy]))
    refine ⟨?_, ?_⟩
    · rw [putA, if_neg (ltL_ne h1), if_neg (by simp), ih.1]
    · rw [putA, if_neg (ltL_ne h1), if_pos ⟨rfl, h1⟩, ih.1]
theorem putA_ins {pw : List Int} : ∀ {xs : List MonZ} (c : Int), Desc xs → putA pw xs c false = insA pw c xs
  | [], c, _ => by simp [putA, insA]
  | x :: xs, c, h => by
    have hp := List.pairwise_cons.1 h
    by_cases h1 : x.pows = pw
    · subst h1
      rw [putA, insA, if_pos rfl, if_pos rfl, (putA_below _ hp.1).2]
    · by_cases h2 : ltL x.pows pw = true
      · rw [putA, insA, if_neg h1, if_neg h1, if_pos ⟨rfl, h2⟩, if_pos h2, (putA_below _ fun y hy => ltL_trans (hp.1 y hy) h2).1]
      · rw [putA, insA, if_neg h1, if_neg h1, if_neg (by simp [h2]), if_neg h2, putA_ins c hp.2]
theorem insA_mem {pw : List Int} {c : Int} : ∀ {xs : List MonZ} {y : MonZ}, y ∈ insA pw c xs → y ∈ xs ∨ y.pows = pw
  | [], y, h => by simp [insA] at h; right; rw [h]
  | x :: xs, y, h => by
    rw [insA] at h
    split at h
    · simp at h
      rcases h with rfl | h
      · right; rfl
      · left; simp [h]
    · split at h
      · simp at h
        rcases h with rfl | rfl | h
        · right; rfl
        · left; simp
        · left; simp [h]
      · simp at h
        rcases h with rfl | h
        · left; simp
        · rcases insA_mem h with h | h
          · left; simp [h]
          · right; exact h
theorem insA_desc {pw : List Int} {c : Int} : ∀ {xs : List MonZ}, Desc xs → Desc (insA pw c xs)
  | [], _ => by simp [insA, Desc]
  | x :: xs, h => by
    have hp := List.pairwise_cons.1 h
    rw [insA]
    split
    · rename_i h1
      subst h1
      exact List.pairwise_cons.2 ⟨hp.1, hp.2⟩
    · rename_i h1
      split
      · rename_i h2
        refine List.pairwise_cons.2 ⟨fun y hy => ?_, h⟩
        simp at hy
        rcases hy with rfl | hy
        · exact h2
        · exact ltL_trans (hp.1 y hy) h2
      · rename_i h2
        refine List.pairwise_cons.2 ⟨fun y hy => ?_, insA_desc hp.2⟩
        rcases insA_mem hy with hy | hy
        · exact hp.1 y hy
        · rw [hy]
          cases h3 : ltL pw x.pows with
          | true => rfl
          | false => exact absurd (ltL_tri (by simpa using h2) h3) h1
theorem insA_nums {pw : List Int} {c : Int} (hc : 0 ≤ c ∧ c ≤ 1000000270) : ∀ {xs : List MonZ}, NumsM xs → NumsM (insA pw c xs)
  | [], _ => by intro y hy; simp [insA] at hy; rw [hy]; exact hc
  | x :: xs, h => by
    have ih := insA_nums (pw := pw) hc (xs := xs) (fun y hy => h y (by simp [hy]))
    intro y hy
    rw [insA] at hy
    split at hy
    · simp at hy
      rcases hy with rfl | hy
      · exact plusZ_bd _ _
      · exact h y (by simp [hy])
    · split at hy
      · simp at hy
        rcases hy with rfl | rfl | hy
        · exact hc
        · exact h y (by simp)
        · exact h y (by simp [hy])
      · simp at hy
        rcases hy with rfl | hy
        · exact h y (by simp)
        · exact ih y hy
theorem insA_coef (ps pw : List Int) (c : Int) : ∀ xs : List MonZ, coefAt ps (insA pw c xs) % 1000000271 = (coefAt ps xs + if pw = ps then c else 0) % 1000000271
  | [] => by simp [insA, coefAt]
  | x :: xs => by
    have ih := insA_coef ps pw c xs
    rw [insA]
    split
    · rename_i h1
      subst h1
      simp only [coefAt, plusZ]
      split <;> omega
    · split
      · simp only [coefAt]
        omega
      · simp only [coefAt]
        omega
theorem putL_canon {p : List MonZ} (h : Canon p) {m : MonZ} (hm : 0 ≤ m.coef ∧ m.coef ≤ 1000000270) : Canon (putL p m) ∧ ∀ ps, coefAt ps (putL p m) % 1000000271 = (coefAt ps p + if m.pows = ps then m.coef else 0) % 1000000271 := by
  unfold putL keptL
  rw [putA_ins _ h.1]
  refine ⟨⟨(insA_desc h.1).filter _, fun x hx => insA_nums hm h.2.1 x (List.mem_filter.1 hx).1, fun x hx => by simpa using (List.mem_filter.1 hx).2⟩, fun ps => ?_⟩
  rw [coefAt_kept, insA_coef]
theorem nums_nil : NumsM [] := fun m hm => by cases hm
theorem canon_nil : Canon [] := ⟨List.Pairwise.nil, nums_nil, fun m hm => by cases hm⟩
/-- .. one after the other -/
def putAll (p q : List MonZ) : List MonZ := q.foldl putL p
theorem putAll_canon : ∀ {q p : List MonZ}, Canon p → NumsM q → Canon (putAll p q) ∧ ∀ ps, coefAt ps (putAll p q) % 1000000271 = (coefAt ps p + coefAt ps q) % 1000000271
  | [], p, h, _ => ⟨h, fun ps => by simp [putAll, coefAt]⟩
  | m :: q, p, h, hq => by
    have h1 := putL_canon h (hq m (by simp))
    have h2 := putAll_canon (q := q) h1.1 (fun x hx => hq x (by simp [hx]))
    refine ⟨h2.1, fun ps => ?_⟩
    have h3 := h2.2 ps
    have h4 := h1.2 ps
    rw [coefAt]
    simp only [putAll, List.foldl_cons] at h3 ⊢
    omega

-- the program: a sorted list merged
def DescW (l : List MonZ) : Prop := l.Pairwise fun a b => ltL a.pows b.pows = false
/-- one more monomial behind those merged -/
def mergeOne (out : List MonZ) (m : MonZ) : List MonZ :=
  match out.getLast? with
  | some l => if l.pows = m.pows then out.dropLast ++ [⟨plusZ l.coef m.coef, l.pows⟩] else out ++ [m]
  | none => [m]
def mergeL (l : List MonZ) : List MonZ := l.foldl mergeOne []
theorem mergeOne_snoc (o : List MonZ) (x m : MonZ) : mergeOne (o ++ [x]) m = if x.pows = m.pows then o ++ [⟨plusZ x.coef m.coef, x.pows⟩] else o ++ [x] ++ [m] := by
  simp [mergeOne]
theorem snoc_cases {α : Type} (l : List α) : l = [] ∨ ∃ o x, l = o ++ [x] := by
  rcases List.eq_nil_or_concat l with h | ⟨o, x, h⟩
  · left; exact h
  · right; exact ⟨o, x, by simpa using h⟩
structure MergeInv (out rest : List MonZ) : Prop where
  desc : Desc out
  nums : NumsM out
  last : ∀ o x, out = o ++ [x] → ∀ y ∈ rest, ltL x.pows y.pows = false
theorem mergeInv_next {out rest : List MonZ} {m : MonZ} (h : MergeInv out (m :: rest)) (hm : 0 ≤ m.coef ∧ m.coef ≤ 1000000270) (hr : ∀ y ∈ rest, ltL m.pows y.pows = false) :
    MergeInv (mergeOne out m) rest ∧ ∀ ps, coefAt ps (mergeOne out m) % 1000000271 = (coefAt ps out + if m.pows = ps then m.coef else 0) % 1000000271 := by
  rcases snoc_cases out with rfl | ⟨o, x, rfl⟩
  · refine ⟨⟨by simp [mergeOne, Desc], fun y hy => ?_, fun o x he y hy => ?_⟩, fun ps => by simp [mergeOne, coefAt]⟩
    · simp [mergeOne] at hy
      rw [hy]; exact hm
    · simp [mergeOne] at he
      have : x = m := by
        cases o with
        | nil => simpa using he.symm
        | cons a o => simp at he
      rw [this]; exact hr y hy
  · rw [mergeOne_snoc]
    have hx := h.last o x rfl m (by simp)
    have hnx := h.nums x (by simp)
    split
    · rename_i he
      refine ⟨⟨?_, fun y hy => ?_, fun o' x' he' y hy => ?_⟩, fun ps => ?_⟩
      · have hd := h.desc
        unfold Desc at hd ⊢
        rw [List.pairwise_append] at hd ⊢
        exact ⟨hd.1, by simp, fun a ha b hb => by simp at hb; rw [hb]; exact hd.2.2 a ha x (by simp)⟩
      · simp at hy
        rcases hy with hy | rfl
        · exact h.nums y (by simp [hy])
        · exact plusZ_bd _ _
      · have := List.append_inj_right' he' rfl
        simp at this
        rw [← this]
        simp only
        rw [he]
        exact hr y hy
      · simp only [coefAt_append, coefAt, plusZ]
        rw [he]
        split <;> omega
    · rename_i he
      refine ⟨⟨?_, fun y hy => ?_, fun o' x' he' y hy => ?_⟩, fun ps => ?_⟩
      · have hd := h.desc
        unfold Desc at hd ⊢
        rw [List.pairwise_append] at hd ⊢
        refine ⟨by rw [List.pairwise_append]; exact hd, by simp, fun a ha b hb => ?_⟩
        simp at hb
        subst hb
        have hmx : ltL b.pows x.pows = true := by
          cases h3 : ltL b.pows x.pows with
          | true => rfl
          | false => exact absurd (ltL_tri hx h3) he
        simp at ha
        rcases ha with ha | rfl
        · exact ltL_trans hmx (hd.2.2 a ha x (by simp))
        · exact hmx
      · simp at hy
        rcases hy with hy | rfl | rfl
        · exact h.nums y (by simp [hy])
        · exact hnx
        · exact hm
      · have := List.append_inj_right' he' rfl
        simp at this
        rw [← this]
        exact hr y hy
      · simp only [coefAt_append, coefAt]
        omega
theorem mergeL_inv : ∀ {rest out : List MonZ}, MergeInv out rest → NumsM rest → DescW rest → MergeInv (rest.foldl mergeOne out) [] ∧ ∀ ps, coefAt ps (rest.foldl mergeOne out) % 1000000271 = (coefAt ps out + coefAt ps rest) % 1000000271
  | [], out, h, _, _ => ⟨h, fun ps => by simp [coefAt]⟩
  | m :: rest, out, h, hn, hd => by
    have hp := List.pairwise_cons.1 hd
    have h1 := mergeInv_next h (hn m (by simp)) hp.1
    have h2 := mergeL_inv h1.1 (fun x hx => hn x (by simp [hx])) hp.2
    refine ⟨h2.1, fun ps => ?_⟩
    have h3 := h2.2 ps
    have h4 := h1.2 ps
    rw [coefAt]
    simp only [List.foldl_cons] at h3 ⊢
    omega
def collL (l : List MonZ) : List MonZ := keptL (mergeL l)
/-- What the program merges out of a list sorted in any way is what the reference puts together. -/
theorem collL_put {p q : List MonZ} (hp : p.Perm q) (hd : DescW q) (hn : NumsM p) : collL q = putAll [] p := by
  have hq : NumsM q := fun x hx => hn x (hp.mem_iff.2 hx)
  have h1 := mergeL_inv (out := []) ⟨List.Pairwise.nil, nums_nil, fun o x he => absurd he (by simp)⟩ hq hd
  have h2 := putAll_canon canon_nil hn
  refine canon_unique ⟨h1.1.desc.filter _, fun x hx => h1.1.nums x (List.mem_filter.1 hx).1, fun x hx => by simpa using (List.mem_filter.1 hx).2⟩ h2.1 fun ps => ?_
  rw [h2.2, collL, keptL, coefAt_kept, mergeL, h1.2, coefAt_perm hp]
end Go.Proofs.YtbcjhpgkodeoeaaGreatDoor
