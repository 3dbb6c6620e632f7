/- The texts Poly, SPoly in one: each says at its head what it proves. Conditions: as said there. -/
import Derived.Test.YtbcjhpgkodeoeaaGreatDoorN02
set_option linter.unusedSimpArgs false
set_option linter.unusedVariables false
/- The tests on polynomials and fields, of the program and of the reference: what they return. Conditions: powers of at most 1048576 elements. -/
namespace Go.Proofs.YtbcjhpgkodeoeaaGreatDoor
open Go.RowKit Go.Sort

/-- Less, by the first place that differs. -/
def ltL : List Int → List Int → Bool
  | _, [] => false
  | [], _ :: _ => true
  | x :: xs, y :: ys => if x = y then ltL xs ys else decide (x < y)
/-- The program's comparison. -/
def cmpL : List Int → List Int → Int
  | [], [] => 0
  | [], _ :: _ => -1
  | _ :: _, [] => 1
  | x :: xs, y :: ys => if x < y then -1 else if y < x then 1 else cmpL xs ys
theorem cmp_lt : ∀ (a b : List Int), cmpL a b ≤ 0 ↔ ltL b a = false
  | [], [] => by simp [cmpL, ltL]
  | [], _ :: _ => by simp [cmpL, ltL]
  | _ :: _, [] => by simp [cmpL, ltL]
  | x :: xs, y :: ys => by
    simp only [cmpL, ltL]
    by_cases h1 : x < y
    · have h2 : ¬ y = x := by omega
      have h3 : ¬ y < x := by omega
      simp [h1, h2, h3]
    · by_cases h2 : y < x
      · have h3 : ¬ y = x := by omega
        simp [h1, h2, h3]
      · have h3 : y = x := by omega
        simp [h3, cmp_lt xs ys]
theorem isNumber_eq {n : Int} {b : Bool} (h : isNumB n = b) (w : World) : Calls Tryz.prog 106 #[.int .i64 n] w fun e w' => e = .returned (.bool b) ∧ w = w' := h ▸ isNumber_any n w

set_option maxHeartbeats 400000 in
theorem isNaN_any (n : Int) (w : World) : Calls Tryz.prog 186 #[.int .i64 n] w fun e w' => e = .returned (.bool false) ∧ w = w' := by
  go_enter Tryz.func186, Tryz.ntmps186
  go_wp2
  go_ret
  exact ⟨ret_bool (by simp), rfl⟩

set_option maxHeartbeats 400000 in
theorem cmpInt_any (x y : Int) (w : World) : Calls Tryz.prog 155 #[.int .i64 x, .int .i64 y] w fun e w' => e = .returned (.int .i64 (if x < y then -1 else if y < x then 1 else 0)) ∧ w = w' := by
  by_cases h1 : x < y
  · go_enter Tryz.func155, Tryz.ntmps155
    go_wp2_with (go_at_call 186; ((with_reducible refine (isNaN_any _ _).mono ?_); rintro e w' ⟨rfl, rfl⟩))
    go_ret
    exact ⟨rfl, rfl⟩
  · by_cases h2 : y < x
    · go_enter Tryz.func155, Tryz.ntmps155
      go_wp2_with (go_at_call 186; ((with_reducible refine (isNaN_any _ _).mono ?_); rintro e w' ⟨rfl, rfl⟩))
      go_ret
      exact ⟨rfl, rfl⟩
    · go_enter Tryz.func155, Tryz.ntmps155
      go_wp2_with (go_at_call 186; ((with_reducible refine (isNaN_any _ _).mono ?_); rintro e w' ⟨rfl, rfl⟩))
      go_ret
      exact ⟨rfl, rfl⟩
theorem cmpInt_lt {x y : Int} (h : x < y) (w : World) : Calls Tryz.prog 155 #[.int .i64 x, .int .i64 y] w fun e w' => e = .returned (.int .i64 (-1)) ∧ w = w' := by
  have := cmpInt_any x y w
  rwa [if_pos h] at this
theorem cmpInt_gt {x y : Int} (h : y < x) (w : World) : Calls Tryz.prog 155 #[.int .i64 x, .int .i64 y] w fun e w' => e = .returned (.int .i64 1) ∧ w = w' := by
  have := cmpInt_any x y w
  rwa [if_neg (by omega), if_pos h] at this
theorem cmpInt_eq (x : Int) (w : World) : Calls Tryz.prog 155 #[.int .i64 x, .int .i64 x] w fun e w' => e = .returned (.int .i64 0) ∧ w = w' := by
  have := cmpInt_any x x w
  rwa [if_neg (by omega), if_neg (by omega)] at this

/-- What the two lists have from the place k on decides. -/
def CmpFrom (xs ys : List Int) (k : Nat) : Prop := cmpL xs ys = cmpL (xs.drop k) (ys.drop k) ∧ ltL xs ys = ltL (xs.drop k) (ys.drop k)
theorem cmpFrom_next {xs ys : List Int} {k : Nat} {x : Int} (h : CmpFrom xs ys k) (hx : xs[k]? = some x) (hy : ys[k]? = some x) : CmpFrom xs ys (k + 1) := by
  obtain ⟨hkx, rfl⟩ := List.getElem?_eq_some_iff.1 hx
  obtain ⟨hky, hy'⟩ := List.getElem?_eq_some_iff.1 hy
  obtain ⟨h1, h2⟩ := h
  rw [List.drop_eq_getElem_cons hkx, List.drop_eq_getElem_cons hky, hy'] at h1 h2
  exact ⟨by rw [h1]; simp [cmpL], by rw [h2]; simp [ltL]⟩
theorem cmpFrom_ne {xs ys : List Int} {k : Nat} {x y : Int} (h : CmpFrom xs ys k) (hx : xs[k]? = some x) (hy : ys[k]? = some y) (hne : x ≠ y) :
    cmpL xs ys = (if x < y then -1 else 1) ∧ ltL xs ys = decide (x < y) := by
  obtain ⟨hkx, rfl⟩ := List.getElem?_eq_some_iff.1 hx
  obtain ⟨hky, rfl⟩ := List.getElem?_eq_some_iff.1 hy
  obtain ⟨h1, h2⟩ := h
  rw [List.drop_eq_getElem_cons hkx, List.drop_eq_getElem_cons hky] at h1 h2
  refine ⟨?_, by rw [h2, ltL, if_neg hne]⟩
  rw [h1, cmpL]
  by_cases hl : xs[k] < ys[k]
  · rw [if_pos hl, if_pos hl]
  · rw [if_neg hl, if_neg hl, if_pos (by omega)]
theorem cmpFrom_yend {xs ys : List Int} {k : Nat} (h : CmpFrom xs ys k) (hx : k < xs.length) (hy : ys.length ≤ k) : cmpL xs ys = 1 ∧ ltL xs ys = false := by
  obtain ⟨h1, h2⟩ := h
  rw [List.drop_eq_getElem_cons hx, List.drop_of_length_le hy] at h1 h2
  exact ⟨by rw [h1, cmpL], by rw [h2, ltL]⟩
theorem cmpFrom_xend {xs ys : List Int} {k : Nat} (h : CmpFrom xs ys k) (hx : xs.length ≤ k) (hy : k < ys.length) : cmpL xs ys = -1 ∧ ltL xs ys = true := by
  obtain ⟨h1, h2⟩ := h
  rw [List.drop_eq_getElem_cons hy, List.drop_of_length_le hx] at h1 h2
  exact ⟨by rw [h1, cmpL], by rw [h2, ltL]⟩
theorem cmpFrom_end {xs ys : List Int} {k : Nat} (h : CmpFrom xs ys k) (hx : xs.length ≤ k) (hy : ys.length ≤ k) : cmpL xs ys = 0 ∧ ltL xs ys = false := by
  obtain ⟨h1, h2⟩ := h
  rw [List.drop_of_length_le hx, List.drop_of_length_le hy] at h1 h2
  exact ⟨by rw [h1, cmpL], by rw [h2, ltL]⟩

set_option maxHeartbeats 800000 in
theorem compare_any (va vb : Value) (xs ys : List Int) (w : World) (ha : RdI w va xs) (hb : RdI w vb ys) :
    Calls Tryz.prog 107 #[va, vb] w fun e w' => e = .returned (.int .i64 (cmpL xs ys)) ∧ w = w' := by
  obtain ⟨ad, len, cap, rfl, hl, hlc, hcm, h'⟩ := rdS_open ha
  obtain ⟨ad2, len2, cap2, rfl, hl2, hlc2, hcm2, h2'⟩ := rdS_open hb
  have HL := Lib.hid hl
  have HL2 := Lib.hid hl2
  clear ha hb hl hl2
  go_enter Tryz.func107, Tryz.ntmps107
  go_wp2
  go_loop [11] (fun i => ∃ k : Nat, k ≤ len ∧ k ≤ len2 ∧ i = .int .i64 k ∧ CmpFrom xs ys k) (fun i => len - (intOf i).toNat)
  case atStart => exact ⟨0, Nat.zero_le _, Nat.zero_le _, rfl, by simp [CmpFrom]⟩
  case round =>
    obtain ⟨k, hk, hk2, rfl, hC⟩ := hrel
    have HC := Lib.hid hC
    clear hC
    by_cases hlt : k < len
    · obtain ⟨b, off, x, rfl, hx, hc, hI, _⟩ := rdI_get h' hlt
      have HX := Lib.hid hx
      clear hx
      by_cases hlt2 : k < len2
      · obtain ⟨b2, off2, y, rfl, hy, hc2, hI2, _⟩ := rdI_get h2' hlt2
        have HY := Lib.hid hy
        clear hy
        by_cases hxy : x = y
        · subst hxy
          go_wp2_with (go_at_call 155; ((with_reducible refine (cmpInt_eq _ _).mono ?_); rintro e w' ⟨rfl, rfl⟩))
          go_round
          case rel => exact ⟨k + 1, by omega, by omega, by go_num, cmpFrom_next HC.out HX.out HY.out⟩
          case measure => simp [intOf]; omega
        · have HN := Lib.hid (cmpFrom_ne HC.out HX.out HY.out hxy).1
          by_cases hl : x < y
          · go_wp2_with (go_at_call 155; ((with_reducible refine (cmpInt_lt hl _).mono ?_); rintro e w' ⟨rfl, rfl⟩))
            go_ret
            exact ⟨ret_int (by rw [HN.out, if_pos hl]), rfl⟩
          · have hg : y < x := by omega
            go_wp2_with (go_at_call 155; ((with_reducible refine (cmpInt_gt hg _).mono ?_); rintro e w' ⟨rfl, rfl⟩))
            go_ret
            exact ⟨ret_int (by rw [HN.out, if_neg (by omega)]), rfl⟩
      · have HN := Lib.hid (cmpFrom_yend HC.out (by rw [HL.out]; exact hlt) (by rw [HL2.out]; omega)).1
        go_wp2
        go_ret
        exact ⟨ret_int (by rw [HN.out]), rfl⟩
    · by_cases hlt2 : len < len2
      · have HN := Lib.hid (cmpFrom_xend HC.out (by rw [HL.out]; omega) (by rw [HL2.out]; omega)).1
        go_wp2
        go_ret
        exact ⟨ret_int (by rw [HN.out]), rfl⟩
      · have HN := Lib.hid (cmpFrom_end HC.out (by rw [HL.out]; omega) (by rw [HL2.out]; omega)).1
        go_wp2
        go_ret
        exact ⟨ret_int (by rw [HN.out]), rfl⟩
theorem compare_eq {c : Int} (va vb : Value) (xs ys : List Int) (w : World) (ha : RdI w va xs) (hb : RdI w vb ys) (h : cmpL xs ys = c) :
    Calls Tryz.prog 107 #[va, vb] w fun e w' => e = .returned (.int .i64 c) ∧ w = w' := h ▸ compare_any va vb xs ys w ha hb

set_option maxHeartbeats 800000 in
theorem l2Less_any (va vb : Value) (xs ys : List Int) (w : World) (ha : RdI w va xs) (hb : RdI w vb ys) :
    Calls Tryz.prog 133 #[va, vb] w (Qt (.bool (ltL xs ys)) w) := by
  obtain ⟨ad, len, cap, rfl, hl, hlc, hcm, h'⟩ := rdS_open ha
  obtain ⟨ad2, len2, cap2, rfl, hl2, hlc2, hcm2, h2'⟩ := rdS_open hb
  have HL := Lib.hid hl
  have HL2 := Lib.hid hl2
  clear ha hb hl hl2
  go_enter Tryz.func133, Tryz.ntmps133
  go_wp2
  go_loopw [5] (fun i wr => ∃ k : Nat, k ≤ len ∧ k ≤ len2 ∧ i = .int .i64 k ∧ CmpFrom xs ys k ∧ ∃ m, wr = w.drewN m) (fun i _ => len - (intOf i).toNat)
  case atStart => exact ⟨0, Nat.zero_le _, Nat.zero_le _, rfl, by simp [CmpFrom], 0, rfl⟩
  case round =>
    obtain ⟨k, hk, hk2, rfl, hC, m, hwr⟩ := hrel
    have h'r := rdI_drewN m h'
    have h2'r := rdI_drewN m h2'
    rw [← hwr] at h'r h2'r
    have HW := Lib.hid hwr
    have HC := Lib.hid hC
    clear hC hwr
    by_cases hlt : k < len
    · by_cases hlt2 : k < len2
      · obtain ⟨b, off, x, rfl, hx, hc, hI, _⟩ := rdI_get h'r hlt
        obtain ⟨b2, off2, y, rfl, hy, hc2, hI2, _⟩ := rdI_get h2'r hlt2
        have HX := Lib.hid hx
        have HY := Lib.hid hy
        clear hx hy
        by_cases hxy : x = y
        · subst hxy
          go_wp2
          go_quiet (fail)
          go_wp2
          go_roundw
          case rel => exact ⟨k + 1, by omega, by omega, by go_num, cmpFrom_next HC.out HX.out HY.out, _, by rw [HW.out, World.drewN_drewN]⟩
          case measure => simp [intOf]; omega
        · have HN := Lib.hid (cmpFrom_ne HC.out HX.out HY.out hxy).2
          have hb1 : (x != y) = true := by simpa using hxy
          go_wp2
          go_quiet (fail)
          obtain ⟨wq, hwq⟩ : ∃ wq, wq = wr.drewN nq := ⟨_, rfl⟩
          have hcq : wq.cell? ⟨b, off + k, none⟩ = some (.int .i64 x) := by rw [hwq]; simpa using hc
          have hcq2 : wq.cell? ⟨b2, off2 + k, none⟩ = some (.int .i64 y) := by rw [hwq]; simpa using hc2
          rw [← hwq]
          have HQ := Lib.hid hwq
          clear hwq
          go_wp2
          go_quiet (fail)
          go_wp2
          go_ret
          exact ⟨ret_bool HN.out.symm, _, by rw [HQ.out, HW.out, World.drewN_drewN, World.drewN_drewN]⟩
      · have HN := Lib.hid (cmpFrom_yend HC.out (by rw [HL.out]; exact hlt) (by rw [HL2.out]; omega)).2
        go_wp2
        go_ret
        exact ⟨ret_bool (by first | exact HN.out.symm | (rw [HN.out]; simp; omega)), m, HW.out⟩
    · by_cases hlt2 : len < len2
      · have HN := Lib.hid (cmpFrom_xend HC.out (by rw [HL.out]; omega) (by rw [HL2.out]; omega)).2
        go_wp2
        go_ret
        exact ⟨ret_bool (by first | exact HN.out.symm | (rw [HN.out]; simp [hlt2])), m, HW.out⟩
      · have HN := Lib.hid (cmpFrom_end HC.out (by rw [HL.out]; omega) (by rw [HL2.out]; omega)).2
        go_wp2
        go_ret
        exact ⟨ret_bool (by first | exact HN.out.symm | (rw [HN.out]; simp; omega)), m, HW.out⟩

/-- The sum of powers, -1 where one is out of range. -/
def powIn (p : Int) : Bool := decide (0 ≤ p ∧ p ≤ 5)
def degZ (ps : List Int) : Int := if ps.all powIn = true then ps.sum else -1
theorem sum_snoc {ps : List Int} {k : Nat} {x : Int} (h : ps[k]? = some x) : (ps.take (k + 1)).sum = (ps.take k).sum + x := by
  rw [take_snoc h]; simp [List.sum_append]
set_option maxHeartbeats 400000 in
theorem degree_any (v : Value) (ps : List Int) (w : World) (h : RdI w v ps) (hn : ps.length ≤ 1048576) :
    Calls Tryz.prog 105 #[v] w fun e w' => e = .returned (.int .i64 (degZ ps)) ∧ w = w' := by
  obtain ⟨ad, len, cap, rfl, hl, hlc, hcm, h'⟩ := rdS_open h
  rw [hl] at hn
  have HL := Lib.hid hl
  clear h hl
  go_enter Tryz.func105, Tryz.ntmps105
  go_wp2
  go_loop [3, 8] (fun n i => ∃ (k : Nat) (s : Int), k ≤ len ∧ i = .int .i64 k ∧ n = .int .i64 s ∧ 0 ≤ s ∧ s ≤ 5 * k ∧ s = (ps.take k).sum ∧ (ps.take k).all powIn = true) (fun _ i => len - (intOf i).toNat)
  case atStart => exact ⟨0, 0, Nat.zero_le _, rfl, rfl, by omega, by omega, by simp, by simp⟩
  case round =>
    obtain ⟨k, s, hk, rfl, rfl, hs0, hs1, hs, ha⟩ := hrel
    have HS := Lib.hid hs
    have HA := Lib.hid ha
    clear hs ha
    by_cases hlt : k < len
    · obtain ⟨b, off, x, rfl, hx, hc, hI, _⟩ := rdI_get h' hlt
      have HX := Lib.hid hx
      clear hx
      by_cases h0 : 0 ≤ x
      · by_cases h5 : x ≤ 5
        · have hp : powIn x = true := by simp [powIn, h0, h5]
          have HP := Lib.hid hp
          clear hp
          go_wp2
          go_round
          case rel => exact ⟨k + 1, s + x, by omega, by go_num, rfl, by omega, by omega, by rw [sum_snoc HX.out, ← HS.out], all_snoc HX.out HA.out HP.out⟩
          case measure => simp [intOf]; omega
        · have HD := Lib.hid (show degZ ps = -1 by rw [degZ, if_neg]; rw [all_false HX.out (by simp [powIn]; omega)]; simp)
          go_wp2
          go_ret
          exact ⟨ret_int HD.out.symm, rfl⟩
      · have HD := Lib.hid (show degZ ps = -1 by rw [degZ, if_neg]; rw [all_false HX.out (by simp [powIn]; omega)]; simp)
        go_wp2
        go_ret
        exact ⟨ret_int HD.out.symm, rfl⟩
    · go_wp2
      go_ret
      have e1 := all_done (by rw [HL.out]; omega) HA.out
      have e2 := HS.out
      rw [List.take_of_length_le (by rw [HL.out]; omega)] at e2
      exact ⟨ret_int (by rw [degZ, if_pos e1, e2]), rfl⟩

/-- A monomial that is fine by itself. -/
def monOkB (dim : Int) (m : MonZ) : Bool := decide (m.coef ≠ 0) && isNumB m.coef && decide ((m.pows.length : Int) = dim) && decide (0 ≤ degZ m.pows ∧ degZ m.pows ≤ 5)
/-- .. and behind the one before it. -/
def stepOkB (dim : Int) (xs : List MonZ) (i : Nat) : Bool :=
  match xs[i]? with
  | none => true
  | some m => monOkB dim m && (decide (i = 0) || ltL m.pows (xs[i - 1]?.getD default).pows)
def polyOkB (xs : List MonZ) (dim : Int) : Bool := dimB dim && decide (xs.length ≤ 12) && (List.range xs.length).all (stepOkB dim xs)

theorem polyOkB_dim {xs : List MonZ} {dim : Int} (h : dimB dim = false) : polyOkB xs dim = false := by simp [polyOkB, h]
theorem polyOkB_len {xs : List MonZ} {dim : Int} (h : 12 < xs.length) : polyOkB xs dim = false := by
  unfold polyOkB
  rw [decide_eq_false (by omega)]
  simp
theorem polyOkB_all {xs : List MonZ} {dim : Int} (hd : dimB dim = true) (h : xs.length ≤ 12) : polyOkB xs dim = (List.range xs.length).all (stepOkB dim xs) := by
  unfold polyOkB
  rw [decide_eq_true h, hd]
  rfl
theorem range_bad {n k : Nat} {f : Nat → Bool} (hk : k < n) (h : f k = false) : (List.range n).all f = false := by
  rw [List.all_eq_false]
  exact ⟨k, by simpa using hk, by simp [h]⟩
theorem range_snoc {k : Nat} {f : Nat → Bool} (h : (List.range k).all f = true) (hk : f k = true) : (List.range (k + 1)).all f = true := by
  rw [List.range_succ]; simp_all

theorem stepOk_mon {dim : Int} {xs : List MonZ} {k : Nat} {m : MonZ} (hm : xs[k]? = some m) (h : monOkB dim m = false) : stepOkB dim xs k = false := by simp [stepOkB, hm, h]
theorem stepOk_zero {dim : Int} {xs : List MonZ} {m : MonZ} (hm : xs[0]? = some m) (h : monOkB dim m = true) : stepOkB dim xs 0 = true := by simp [stepOkB, hm, h]
theorem stepOk_succ {dim : Int} {xs : List MonZ} {k : Nat} {m m' : MonZ} (hm : xs[k + 1]? = some m) (hm' : xs[k]? = some m') (h : monOkB dim m = true) : stepOkB dim xs (k + 1) = ltL m.pows m'.pows := by
  simp [stepOkB, hm, h, hm']
theorem monOk_coef {dim : Int} {m : MonZ} (h : m.coef = 0) : monOkB dim m = false := by simp [monOkB, h]
theorem monOk_num {dim : Int} {m : MonZ} (h : isNumB m.coef = false) : monOkB dim m = false := by simp [monOkB, h]
theorem monOk_len {dim : Int} {m : MonZ} (h : (m.pows.length : Int) ≠ dim) : monOkB dim m = false := by simp [monOkB, h]
theorem monOk_deg {dim : Int} {m : MonZ} (h : ¬ (0 ≤ degZ m.pows ∧ degZ m.pows ≤ 5)) : monOkB dim m = false := by
  unfold monOkB
  rw [decide_eq_false h]
  simp
theorem monOk_yes {dim : Int} {m : MonZ} (h1 : m.coef ≠ 0) (h2 : isNumB m.coef = true) (h3 : (m.pows.length : Int) = dim) (h4 : 0 ≤ degZ m.pows ∧ degZ m.pows ≤ 5) : monOkB dim m = true := by
  unfold monOkB
  rw [decide_eq_true h4, decide_eq_true h1, decide_eq_true h3, h2]
  rfl

set_option maxHeartbeats 3200000 in
theorem polyOk_any (v : Value) (xs : List MonZ) (dim : Int) (w : World) (h : RdMs w v xs) (hfit : ∀ m ∈ xs, Fit_Mon m) :
    Calls Tryz.prog 44 #[v, .int .i64 dim] w fun e w' => e = .returned (.bool (polyOkB xs dim)) ∧ Below w.heap.size w w' := by
  obtain ⟨ad, len, cap, rfl, hl, hlc, hcm, h'⟩ := rdS_open h
  have HL := Lib.hid hl
  have HF := Lib.hid hfit
  clear h hl hfit
  cases hdim : dimB dim with
  | false =>
    have HP := Lib.hid (polyOkB_dim (xs := xs) hdim)
    go_enter Tryz.func44, Tryz.ntmps44
    go_wp2_with (go_at_call 88; ((with_reducible refine (isDim_eq hdim _).mono ?_); rintro e w' ⟨rfl, rfl⟩))
    go_ret
    exact ⟨ret_bool HP.out.symm, Below.refl _ _⟩
  | true =>
  by_cases h12 : 12 < len
  · have HP := Lib.hid (polyOkB_len (xs := xs) (dim := dim) (by rw [HL.out]; exact h12))
    go_enter Tryz.func44, Tryz.ntmps44
    go_wp2_with (go_at_call 88; ((with_reducible refine (isDim_eq hdim _).mono ?_); rintro e w' ⟨rfl, rfl⟩))
    go_ret
    exact ⟨ret_bool HP.out.symm, Below.refl _ _⟩
  have hle : (len : Int) ≤ 12 := by omega
  have hle' : decide (12 < (len : Int)) = false := by simp; omega
  have HP := Lib.hid (polyOkB_all (xs := xs) hdim (by rw [HL.out]; omega))
  clear h12
  go_enter Tryz.func44, Tryz.ntmps44
  go_wp2_with (go_at_call 88; ((with_reducible refine (isDim_eq hdim _).mono ?_); rintro e w' ⟨rfl, rfl⟩))
  go_loopw [18] (fun i wr => ∃ k : Nat, k ≤ len ∧ i = .int .i64 k ∧ (List.range k).all (stepOkB dim xs) = true ∧ Below w.heap.size w wr) (fun i _ => len - (intOf i).toNat)
  case atStart => exact ⟨0, Nat.zero_le _, rfl, by simp, Below.refl _ _⟩
  case round =>
    obtain ⟨k, hk, rfl, ha, hbw⟩ := hrel
    have HA := Lib.hid ha
    clear ha
    have h'r := rdMs_mono hbw h'
    by_cases hlt : k < len
    case neg =>
      go_wp2
      go_ret
      obtain rfl : k = len := by omega
      exact ⟨ret_bool (by rw [HP.out, HL.out, HA.out]), hbw⟩
    obtain ⟨b, off, ad', len', cap', m, rfl, hm, hc0, hc1, hI, h6, h7, h8, h9, hbs⟩ := rdMs_get h'r hlt
    have hba := hbw.alloc hbw.size (.cells #[.int .i64 m.coef, .slice ad' len' cap'] 56)
    have hal : Below wr.heap.size wr (wr.alloc (.cells #[.int .i64 m.coef, .slice ad' len' cap'] 56)) := (Below.refl _ _).alloc (Nat.le_refl _) _
    have h9a := rdI_mono hal h9
    have hfm : m.pows.length ≤ 1048576 := HF.out m (List.mem_of_getElem? hm)
    have HM := Lib.hid hm
    have H6 := Lib.hid h6
    obtain ⟨d, hd⟩ : ∃ d, degZ m.pows = d := ⟨_, rfl⟩
    have HD := Lib.hid hd
    have hdeg : ∀ W : World, RdI W (.slice ad' len' cap') m.pows → Calls Tryz.prog 105 #[.slice ad' len' cap'] W fun e w' => e = .returned (.int .i64 d) ∧ W = w' := fun W hW => HD.out ▸ degree_any _ _ _ hW hfm
    have HDG := Lib.hid hdeg
    clear hm h6 hd hdeg
    have hkl : k < xs.length := by rw [HL.out]; exact hlt
    have HKL := Lib.hid hkl
    clear hkl
    by_cases hz : m.coef = 0
    · have HB := Lib.hid (range_bad HKL.out (stepOk_mon HM.out (monOk_coef (dim := dim) hz)))
      have hzb : (m.coef == 0) = true := by simp [hz]
      clear hz
      go_wp2_with (go_at_call 105; ((with_reducible refine (HDG.out _ h9a).mono ?_); rintro e w' ⟨rfl, rfl⟩))
      go_quiet (fail)
      go_wp2
      go_ret
      exact ⟨ret_bool (by rw [HP.out, HB.out]), blw_drewN hba _⟩
    have hzb : (m.coef == 0) = false := by simpa using hz
    have HZ := Lib.hid hz
    clear hz
    cases hnum : isNumB m.coef with
    | false =>
      have HB := Lib.hid (range_bad HKL.out (stepOk_mon HM.out (monOk_num (dim := dim) hnum)))
      go_wp2_with (go_at_call 105; ((with_reducible refine (HDG.out _ h9a).mono ?_); rintro e w' ⟨rfl, rfl⟩))
      go_quiet ((go_at_call 106; exact quiet_same (isNumber_eq hnum _)))
      go_wp2
      go_ret
      exact ⟨ret_bool (by rw [HP.out, HB.out]), blw_drewN hba _⟩
    | true =>
    by_cases hld : (len' : Int) = dim
    case neg =>
      have HB := Lib.hid (range_bad HKL.out (stepOk_mon HM.out (monOk_len (dim := dim) (by rw [H6.out]; exact hld))))
      have hldb : ((len' : Int) != dim) = true := by simpa using hld
      clear hld
      go_wp2_with (go_at_call 105; ((with_reducible refine (HDG.out _ h9a).mono ?_); rintro e w' ⟨rfl, rfl⟩))
      go_quiet ((go_at_call 106; exact quiet_same (isNumber_eq hnum _)))
      go_wp2
      go_ret
      exact ⟨ret_bool (by rw [HP.out, HB.out]), blw_drewN hba _⟩
    have hldb : ((len' : Int) != dim) = false := by simpa using hld
    have HLD := Lib.hid hld
    clear hld
    by_cases hd0 : d < 0
    · have HB := Lib.hid (range_bad HKL.out (stepOk_mon HM.out (monOk_deg (dim := dim) (by rw [HD.out]; omega))))
      go_wp2_with (go_at_call 105; ((with_reducible refine (HDG.out _ h9a).mono ?_); rintro e w' ⟨rfl, rfl⟩))
      go_quiet ((go_at_call 106; exact quiet_same (isNumber_eq hnum _)))
      go_wp2
      go_ret
      exact ⟨ret_bool (by rw [HP.out, HB.out]), blw_drewN hba _⟩
    have hd0' : decide (d < 0) = false := by simpa using hd0
    have hd0i : 0 ≤ d := by omega
    clear hd0
    by_cases hd5 : 5 < d
    · have HB := Lib.hid (range_bad HKL.out (stepOk_mon HM.out (monOk_deg (dim := dim) (by rw [HD.out]; omega))))
      go_wp2_with (go_at_call 105; ((with_reducible refine (HDG.out _ h9a).mono ?_); rintro e w' ⟨rfl, rfl⟩))
      go_quiet ((go_at_call 106; exact quiet_same (isNumber_eq hnum _)))
      go_wp2
      go_ret
      exact ⟨ret_bool (by rw [HP.out, HB.out]), blw_drewN hba _⟩
    have hd5' : decide (5 < d) = false := by simpa using hd5
    have hd5i : d ≤ 5 := by omega
    clear hd5
    have HMO := Lib.hid (monOk_yes (dim := dim) HZ.out hnum (by rw [H6.out]; exact HLD.out) (by rw [HD.out]; exact ⟨hd0i, hd5i⟩))
    by_cases hk0 : k = 0
    · subst hk0
      simp only [Nat.zero_mul, Nat.add_zero, Nat.zero_add] at hc0 hc1
      have HSO := Lib.hid (stepOk_zero HM.out HMO.out)
      go_wp2_with (go_at_call 105; ((with_reducible refine (HDG.out _ h9a).mono ?_); rintro e w' ⟨rfl, rfl⟩))
      go_quiet ((go_at_call 106; exact quiet_same (isNumber_eq hnum _)))
      go_wp2
      go_roundw
      case rel => exact ⟨1, by omega, by go_num, range_snoc HA.out HSO.out, blw_drewN hba _⟩
      case measure => simp [intOf]; omega
    · obtain ⟨b2, off2, ad2, len2, cap2, m2, hbe, hm2, hd0c, hd1c, hI2, h62, h72, h82, h92, _⟩ := rdMs_get h'r (k := k - 1) (by omega)
      simp only [Option.some.injEq, Addr.mk.injEq] at hbe
      obtain ⟨rfl, rfl, _⟩ := hbe
      have h92a := rdI_mono hal h92
      have HSO := Lib.hid (show stepOkB dim xs k = ltL m.pows m2.pows by
        obtain ⟨j, rfl⟩ : ∃ j, k = j + 1 := ⟨k - 1, by omega⟩
        exact stepOk_succ HM.out hm2 HMO.out)
      obtain ⟨c, hcc⟩ : ∃ c, cmpL m2.pows m.pows = c := ⟨_, rfl⟩
      have hk1 : 1 ≤ k := by omega
      have hk0n : 0 < k := by omega
      have hk1i : (0 : Int) ≤ (k : Int) - 1 := by omega
      have hk2i : (k : Int) - 1 < len := by omega
      have hk3 : ((k : Int) - 1).toNat = k - 1 := by omega
      have hk5 : k - 1 < len := by omega
      have hk4 : IntKind.i64.wrap ((k : Int) - 1) = (k : Int) - 1 := IntWalk.i64_in _ (by omega)
      clear hm2 h62 hk0
      by_cases hc0' : c ≤ 0
      · have HB := Lib.hid (range_bad HKL.out (HSO.out.trans ((cmp_lt _ _).1 (by rw [hcc]; exact hc0'))))
        go_wp2_with (go_at_call 105; ((with_reducible refine (HDG.out _ h9a).mono ?_); rintro e w' ⟨rfl, rfl⟩))
        go_quiet ((first | (go_at_call 106; exact quiet_same (isNumber_eq hnum _)) | (go_at_call 107; exact quiet_same (compare_eq _ _ m2.pows m.pows _ (rdI_drewN _ h92a) (rdI_drewN _ h9a) hcc))))
        go_wp2
        go_ret
        exact ⟨ret_bool (by rw [HP.out, HB.out]), blw_drewN hba _⟩
      · have HB := Lib.hid (show stepOkB dim xs k = true by
          rw [HSO.out]
          cases hlt : ltL m.pows m2.pows with
          | true => rfl
          | false => exact absurd ((cmp_lt _ _).2 hlt) (by rw [hcc]; exact hc0'))
        have hc0'' : decide (c ≤ 0) = false := by simpa using hc0'
        go_wp2_with (go_at_call 105; ((with_reducible refine (HDG.out _ h9a).mono ?_); rintro e w' ⟨rfl, rfl⟩))
        go_quiet ((first | (go_at_call 106; exact quiet_same (isNumber_eq hnum _)) | (go_at_call 107; exact quiet_same (compare_eq _ _ m2.pows m.pows _ (rdI_drewN _ h92a) (rdI_drewN _ h9a) hcc))))
        go_wp2
        go_roundw
        case rel => exact ⟨k + 1, by omega, by go_num, range_snoc HA.out HB.out, blw_drewN hba _⟩
        case measure => simp [intOf]; omega
end Go.Proofs.YtbcjhpgkodeoeaaGreatDoor

/- The reference's tests on polynomials: what they return. Conditions: powers of at most 1048576 elements. -/
namespace Go.Proofs.YtbcjhpgkodeoeaaGreatDoor
open Go.RowKit Go.Sort

theorem l1In_eq {n lo hi : Int} {b : Bool} (h : inB n lo hi = b) (w : World) : Calls Tryz.prog 131 #[.int .i64 n, .int .i64 lo, .int .i64 hi] w fun e w' => e = .returned (.bool b) ∧ w = w' := h ▸ l1In_any n lo hi w
theorem sIsNumber_eq {n : Int} {b : Bool} (h : isNumB n = b) (w : World) : Calls Tryz.prog 132 #[.int .i64 n] w fun e w' => e = .returned (.bool b) ∧ w = w' := h ▸ sIsNumber_any n w
theorem l2Less_eq {c : Bool} (va vb : Value) (xs ys : List Int) (w : World) (ha : RdI w va xs) (hb : RdI w vb ys) (h : ltL xs ys = c) :
    Calls Tryz.prog 133 #[va, vb] w (Qt (.bool c) w) := h ▸ l2Less_any va vb xs ys w ha hb
theorem stepOk_less {dim : Int} {xs : List MonZ} {k : Nat} {m m' : MonZ} (hm : xs[k]? = some m) (hk : 0 < k) (hm' : xs[k - 1]? = some m') (h : ltL m.pows m'.pows = false) : stepOkB dim xs k = false := by
  have : ¬ k = 0 := by omega
  simp [stepOkB, hm, h, hm', this]
theorem degZ_bad {ps : List Int} {k : Nat} {x : Int} (h : ps[k]? = some x) (hx : powIn x = false) : degZ ps = -1 := by
  rw [degZ, if_neg]; rw [all_false h hx]; simp

set_option maxRecDepth 100000 in
set_option maxHeartbeats 3200000 in
theorem sPolyOk_any (v : Value) (xs : List MonZ) (dim : Int) (w : World) (h : RdMs w v xs) :
    Calls Tryz.prog 79 #[v, .int .i64 dim] w (Qt (.bool (polyOkB xs dim)) w) := by
  obtain ⟨ad, len, cap, rfl, hl, hlc, hcm, h'⟩ := rdS_open h
  have HL := Lib.hid hl
  clear h hl
  cases hdim : dimB dim with
  | false =>
    have hdimI : inB dim 1 6 = false := hdim
    have HP := Lib.hid (polyOkB_dim (xs := xs) hdim)
    go_enter Tryz.func79, Tryz.ntmps79
    go_wp2_with (go_at_call 131; ((with_reducible refine (l1In_eq hdimI _).mono ?_); rintro e w' ⟨rfl, rfl⟩))
    go_ret
    exact ⟨ret_bool HP.out.symm, 0, rfl⟩
  | true =>
  have hdimI : inB dim 1 6 = true := hdim
  by_cases h12 : 12 < len
  · have HP := Lib.hid (polyOkB_len (xs := xs) (dim := dim) (by rw [HL.out]; exact h12))
    go_enter Tryz.func79, Tryz.ntmps79
    go_wp2_with (go_at_call 131; ((with_reducible refine (l1In_eq hdimI _).mono ?_); rintro e w' ⟨rfl, rfl⟩))
    go_ret
    exact ⟨ret_bool HP.out.symm, 0, rfl⟩
  have hle : (len : Int) ≤ 12 := by omega
  have hle' : decide (12 < (len : Int)) = false := by simp; omega
  have HP := Lib.hid (polyOkB_all (xs := xs) hdim (by rw [HL.out]; omega))
  have hdd : 1 ≤ dim ∧ dim ≤ 6 := by simpa [dimB] using hdim
  have hdd0 := hdd.1
  have hdd1 := hdd.2
  clear h12 hdd
  go_enter Tryz.func79, Tryz.ntmps79
  go_wp2_with (go_at_call 131; ((with_reducible refine (l1In_eq hdimI _).mono ?_); rintro e w' ⟨rfl, rfl⟩))
  go_loopw [5] (fun i wr => ∃ k : Nat, k ≤ len ∧ i = .int .i64 k ∧ (List.range k).all (stepOkB dim xs) = true ∧ ∃ m, wr = w.drewN m) (fun i _ => len - (intOf i).toNat)
  case atStart => exact ⟨0, Nat.zero_le _, rfl, by simp, 0, rfl⟩
  case round =>
    obtain ⟨k, hk, rfl, ha, nd, hwr⟩ := hrel
    have HA := Lib.hid ha
    have h'r : RdMs wr (.slice ad len cap) xs := by rw [hwr]; exact rdMs_mono (blw_drewN (Below.refl _ _) nd) h'
    have HW := Lib.hid hwr
    clear ha hwr
    by_cases hlt : k < len
    case neg =>
      go_wp2
      go_ret
      obtain rfl : k = len := by omega
      exact ⟨ret_bool (by rw [HP.out, HL.out, HA.out]), _, HW.out⟩
    obtain ⟨b, off, ad', len', cap', m, rfl, hm, hc0, hc1, hI, h6, h7, h8, h9, hbs⟩ := rdMs_get h'r hlt
    have HM := Lib.hid hm
    have H6 := Lib.hid h6
    clear hm h6
    have hkl : k < xs.length := by rw [HL.out]; exact hlt
    have HKL := Lib.hid hkl
    clear hkl
    cases hnum : isNumB m.coef with
    | false =>
      have HB := Lib.hid (range_bad HKL.out (stepOk_mon HM.out (monOk_num (dim := dim) hnum)))
      go_wp2
      go_quiet ((go_at_call 132; exact quiet_same (sIsNumber_eq hnum _)))
      go_wp2
      go_ret
      exact ⟨ret_bool (by rw [HP.out, HB.out]), _, by rw [HW.out, World.drewN_drewN]⟩
    | true =>
    by_cases hz : m.coef = 0
    · have HB := Lib.hid (range_bad HKL.out (stepOk_mon HM.out (monOk_coef (dim := dim) hz)))
      have hzb : (m.coef == 0) = true := by simp [hz]
      clear hz
      go_wp2
      go_quiet ((go_at_call 132; exact quiet_same (sIsNumber_eq hnum _)))
      go_wp2
      go_ret
      exact ⟨ret_bool (by rw [HP.out, HB.out]), _, by rw [HW.out, World.drewN_drewN]⟩
    have hzb : (m.coef == 0) = false := by simpa using hz
    have HZ := Lib.hid hz
    clear hz
    by_cases hld : (len' : Int) = dim
    case neg =>
      have HB := Lib.hid (range_bad HKL.out (stepOk_mon HM.out (monOk_len (dim := dim) (by rw [H6.out]; exact hld))))
      have hldb : ((len' : Int) != dim) = true := by simpa using hld
      clear hld
      go_wp2
      go_quiet ((go_at_call 132; exact quiet_same (sIsNumber_eq hnum _)))
      go_wp2
      go_ret
      exact ⟨ret_bool (by rw [HP.out, HB.out]), _, by rw [HW.out, World.drewN_drewN]⟩
    have hldb : ((len' : Int) != dim) = false := by simpa using hld
    have hldle : (len' : Int) ≤ 6 := by omega
    have HLD := Lib.hid hld
    clear hld
    by_cases hk0 : k = 0
    · have HMO := Lib.hid (show 0 ≤ degZ m.pows ∧ degZ m.pows ≤ 5 → stepOkB dim xs k = true from fun hd => by
        have hm0 := HM.out
        rw [hk0] at hm0 ⊢
        exact stepOk_zero hm0 (monOk_yes (dim := dim) HZ.out hnum (by rw [H6.out]; exact HLD.out) hd))
      have hk0b : decide (0 < k) = false := by simp; omega
      clear hk0
      go_wp2
      go_quiet ((go_at_call 132; exact quiet_same (sIsNumber_eq hnum _)))
      clear hk0b
      go_wp2
      go_loopw [6, 7] (fun n j wq => ∃ (q : Nat) (s : Int), q ≤ len' ∧ j = .int .i64 q ∧ n = .int .i64 s ∧ 0 ≤ s ∧ s ≤ 5 * q ∧ s = (m.pows.take q).sum ∧ (m.pows.take q).all powIn = true ∧ ∃ m, wq = w.drewN m) (fun _ j _ => len' - (intOf j).toNat)
      case atStart => exact ⟨0, 0, Nat.zero_le _, rfl, rfl, by omega, by omega, by simp, by simp, _, by rw [HW.out, World.drewN_drewN]⟩
      case round =>
        obtain ⟨q, s, hq, rfl, rfl, hs0, hs1, hs, hpa, nd2, hwq⟩ := hrel
        have h'q : RdMs wr (.slice (some ⟨b, off, none⟩) len cap) xs := by rw [hwq]; exact rdMs_mono (blw_drewN (Below.refl _ _) nd2) h'
        have HS := Lib.hid hs
        have HPA := Lib.hid hpa
        have HWQ := Lib.hid hwq
        clear hs hpa hwq hc0 hc1 h9
        obtain ⟨b4, off4, ad4, len4, cap4, m4, hbe, hm4, hc0, hc1, _, h64, _, _, h94, _⟩ := rdMs_get h'q hlt
        simp only [Option.some.injEq, Addr.mk.injEq] at hbe
        obtain ⟨rfl, rfl, _⟩ := hbe
        obtain rfl : m = m4 := Option.some.inj (HM.out.symm.trans hm4)
        obtain rfl : len' = len4 := by have := H6.out; omega
        clear hm4 h64
        by_cases hql : q < len'
        · obtain ⟨b3, off3, x, rfl, hx, hcx, hIx, _⟩ := rdI_get h94 hql
          have HX := Lib.hid hx
          clear hx
          have hqd : (q : Int) < dim := by rw [← HLD.out]; omega
          cases hpx : powIn x with
          | true =>
            have hpxI : inB x 0 5 = true := hpx
            have hx5 : 0 ≤ x ∧ x ≤ 5 := by simpa [powIn] using hpx
            have hx50 := hx5.1
            have hx51 := hx5.2
            clear hx5
            go_wp2_with (go_at_call 131; ((with_reducible refine (l1In_eq hpxI _).mono ?_); rintro e w' ⟨rfl, rfl⟩))
            go_roundw
            case rel => exact ⟨q + 1, s + x, by omega, by go_num, rfl, by omega, by omega, by rw [sum_snoc HX.out, ← HS.out], all_snoc HX.out HPA.out hpx, _, HWQ.out⟩
            case measure => simp [intOf]; omega
          | false =>
            have hpxI : inB x 0 5 = false := hpx
            have HB := Lib.hid (range_bad HKL.out (stepOk_mon HM.out (monOk_deg (dim := dim) (by rw [degZ_bad HX.out hpx]; omega))))
            go_wp2_with (go_at_call 131; ((with_reducible refine (l1In_eq hpxI _).mono ?_); rintro e w' ⟨rfl, rfl⟩))
            go_ret
            exact ⟨ret_bool (by rw [HP.out, HB.out]), _, HWQ.out⟩
        · obtain rfl : q = len' := by omega
          have e1 := all_done (by rw [H6.out]; exact Nat.le_refl _) HPA.out
          have e2 := HS.out
          rw [List.take_of_length_le (by rw [H6.out]; exact Nat.le_refl _)] at e2
          have HDZ := Lib.hid (show degZ m.pows = s by rw [degZ, if_pos e1, e2])
          have hqd : ¬ (q : Int) < dim := by rw [← HLD.out]; omega
          clear e1 e2
          by_cases hs5 : s ≤ 5
          · have HB := Lib.hid (HMO.out (by rw [HDZ.out]; exact ⟨hs0, hs5⟩))
            go_wp2
            go_roundw
            case rel => exact ⟨k + 1, by omega, by go_num, range_snoc HA.out HB.out, _, HWQ.out⟩
            case measure => simp [intOf]; omega
          · have HB := Lib.hid (range_bad HKL.out (stepOk_mon HM.out (monOk_deg (dim := dim) (by rw [HDZ.out]; omega))))
            go_wp2
            go_ret
            exact ⟨ret_bool (by rw [HP.out, HB.out]), _, HWQ.out⟩
    · obtain ⟨b2, off2, ad2, len2, cap2, m2, hbe, hm2, hd0c, hd1c, hI2, h62, h72, h82, h92, _⟩ := rdMs_get h'r (k := k - 1) (by omega)
      simp only [Option.some.injEq, Addr.mk.injEq] at hbe
      obtain ⟨rfl, rfl, _⟩ := hbe
      have HM2 := Lib.hid hm2
      have hk1 : 1 ≤ k := by omega
      have hk0n : 0 < k := by omega
      have hk1i : (0 : Int) ≤ (k : Int) - 1 := by omega
      have hk2i : (k : Int) - 1 < len := by omega
      have hk3 : ((k : Int) - 1).toNat = k - 1 := by omega
      have hk5 : k - 1 < len := by omega
      have hk4 : IntKind.i64.wrap ((k : Int) - 1) = (k : Int) - 1 := IntWalk.i64_in _ (by omega)
      clear hm2 h62 hk0
      cases hlt2 : ltL m.pows m2.pows with
      | false =>
        have HB := Lib.hid (range_bad HKL.out (stepOk_less (dim := dim) HM.out hk0n HM2.out hlt2))
        go_wp2
        go_quiet ((first | (go_at_call 132; exact quiet_same (sIsNumber_eq hnum _)) | (go_at_call 133; exact quiet_qt (l2Less_eq _ _ m.pows m2.pows _ (rdI_drewN _ h9) (rdI_drewN _ h92) hlt2))))
        go_wp2
        go_ret
        exact ⟨ret_bool (by rw [HP.out, HB.out]), _, by rw [HW.out, World.drewN_drewN]⟩
      | true =>
        have HMO := Lib.hid (show 0 ≤ degZ m.pows ∧ degZ m.pows ≤ 5 → stepOkB dim xs k = true from fun hd => by
          obtain ⟨j, rfl⟩ : ∃ j, k = j + 1 := ⟨k - 1, by omega⟩
          rw [stepOk_succ HM.out HM2.out (monOk_yes (dim := dim) HZ.out hnum (by rw [H6.out]; exact HLD.out) hd)]
          exact hlt2)
        go_wp2
        go_quiet ((first | (go_at_call 132; exact quiet_same (sIsNumber_eq hnum _)) | (go_at_call 133; exact quiet_qt (l2Less_eq _ _ m.pows m2.pows _ (rdI_drewN _ h9) (rdI_drewN _ h92) hlt2))))
        clear hk4 hk3 hk1i hk2i hk5 h92 hd0c hd1c
        go_wp2
        go_loopw [6, 7] (fun n j wq => ∃ (q : Nat) (s : Int), q ≤ len' ∧ j = .int .i64 q ∧ n = .int .i64 s ∧ 0 ≤ s ∧ s ≤ 5 * q ∧ s = (m.pows.take q).sum ∧ (m.pows.take q).all powIn = true ∧ ∃ m, wq = w.drewN m) (fun _ j _ => len' - (intOf j).toNat)
        case atStart => exact ⟨0, 0, Nat.zero_le _, rfl, rfl, by omega, by omega, by simp, by simp, _, by rw [HW.out, World.drewN_drewN]⟩
        case round =>
          obtain ⟨q, s, hq, rfl, rfl, hs0, hs1, hs, hpa, nd2, hwq⟩ := hrel
          have h'q : RdMs wr (.slice (some ⟨b, off, none⟩) len cap) xs := by rw [hwq]; exact rdMs_mono (blw_drewN (Below.refl _ _) nd2) h'
          have HS := Lib.hid hs
          have HPA := Lib.hid hpa
          have HWQ := Lib.hid hwq
          clear hs hpa hwq hc0 hc1 h9
          obtain ⟨b4, off4, ad4, len4, cap4, m4, hbe, hm4, hc0, hc1, _, h64, _, _, h94, _⟩ := rdMs_get h'q hlt
          simp only [Option.some.injEq, Addr.mk.injEq] at hbe
          obtain ⟨rfl, rfl, _⟩ := hbe
          obtain rfl : m = m4 := Option.some.inj (HM.out.symm.trans hm4)
          obtain rfl : len' = len4 := by have := H6.out; omega
          clear hm4 h64
          by_cases hql : q < len'
          · obtain ⟨b3, off3, x, rfl, hx, hcx, hIx, _⟩ := rdI_get h94 hql
            have HX := Lib.hid hx
            clear hx
            have hqd : (q : Int) < dim := by rw [← HLD.out]; omega
            cases hpx : powIn x with
            | true =>
              have hpxI : inB x 0 5 = true := hpx
              have hx5 : 0 ≤ x ∧ x ≤ 5 := by simpa [powIn] using hpx
              have hx50 := hx5.1
              have hx51 := hx5.2
              clear hx5
              go_wp2_with (go_at_call 131; ((with_reducible refine (l1In_eq hpxI _).mono ?_); rintro e w' ⟨rfl, rfl⟩))
              go_roundw
              case rel => exact ⟨q + 1, s + x, by omega, by go_num, rfl, by omega, by omega, by rw [sum_snoc HX.out, ← HS.out], all_snoc HX.out HPA.out hpx, _, HWQ.out⟩
              case measure => simp [intOf]; omega
            | false =>
              have hpxI : inB x 0 5 = false := hpx
              have HB := Lib.hid (range_bad HKL.out (stepOk_mon HM.out (monOk_deg (dim := dim) (by rw [degZ_bad HX.out hpx]; omega))))
              go_wp2_with (go_at_call 131; ((with_reducible refine (l1In_eq hpxI _).mono ?_); rintro e w' ⟨rfl, rfl⟩))
              go_ret
              exact ⟨ret_bool (by rw [HP.out, HB.out]), _, HWQ.out⟩
          · obtain rfl : q = len' := by omega
            have e1 := all_done (by rw [H6.out]; exact Nat.le_refl _) HPA.out
            have e2 := HS.out
            rw [List.take_of_length_le (by rw [H6.out]; exact Nat.le_refl _)] at e2
            have HDZ := Lib.hid (show degZ m.pows = s by rw [degZ, if_pos e1, e2])
            have hqd : ¬ (q : Int) < dim := by rw [← HLD.out]; omega
            clear e1 e2
            by_cases hs5 : s ≤ 5
            · have HB := Lib.hid (HMO.out (by rw [HDZ.out]; exact ⟨hs0, hs5⟩))
              go_wp2
              go_roundw
              case rel => exact ⟨k + 1, by omega, by go_num, range_snoc HA.out HB.out, _, HWQ.out⟩
              case measure => simp [intOf]; omega
            · have HB := Lib.hid (range_bad HKL.out (stepOk_mon HM.out (monOk_deg (dim := dim) (by rw [HDZ.out]; omega))))
              go_wp2
              go_ret
              exact ⟨ret_bool (by rw [HP.out, HB.out]), _, HWQ.out⟩
end Go.Proofs.YtbcjhpgkodeoeaaGreatDoor
