/- PathAt, of the program and of the reference: both give the value of the path's polynomials. Conditions: none. -/
import Derived.Test.YtkmcpcbfoiflbaaPath
namespace Go.Proofs.Ytkmcpcbfoiflbaa
open Go.RowKit

/-- The value of the polynomial of the coordinate i, whose coefficients are those of the rows, at h. -/
def hornZ (h : Int) (i : Nat) : List (List Int) → Int
  | [] => 0
  | y :: ys => plusZ (timesZ (hornZ h i ys) h) (y[i]?.getD 0)

/-- .. and the sum of the first terms. -/
def sumZ (h : Int) (i : Nat) (xs : List (List Int)) : Nat → Int
  | 0 => 0
  | k + 1 => plusZ (sumZ h i xs k) (timesZ ((xs[k]?.getD [])[i]?.getD 0) (powZ h k))

def pathAtZ (h : Int) (xs : List (List Int)) (n : Nat) : List Int := (List.range n).map fun i => hornZ h i xs

theorem sum_horn (h : Int) (i : Nat) (xs : List (List Int)) : ∀ k, k ≤ xs.length → (sumZ h i xs k + hornZ h i (xs.drop k) * h ^ k) % 1000000271 = hornZ h i xs % 1000000271 := by
  intro k
  induction k with
  | zero => intro _; simp [sumZ]
  | succ k ih =>
    intro hk
    rw [← ih (by omega)]
    have hd : xs.drop k = xs[k] :: xs.drop (k + 1) := List.drop_eq_getElem_cons (by omega)
    rw [hd]
    simp only [sumZ, hornZ, List.getElem?_eq_getElem (show k < xs.length by omega), Option.getD_some]
    generalize hornZ h i (xs.drop (k + 1)) = a
    generalize sumZ h i xs k = b
    generalize (xs[k])[i]?.getD 0 = c
    have hp : powZ h k = h ^ k % 1000000271 := by
      unfold powZ; rw [if_neg (by omega)]; simp
    simp only [plusZ, timesZ, hp]
    have e1 : (c * (h ^ k % 1000000271)) % 1000000271 = (c * h ^ k) % 1000000271 := by rw [Int.mul_emod, Int.emod_emod, ← Int.mul_emod]
    have e2 : ((a * h % 1000000271 + c) % 1000000271 * h ^ k) % 1000000271 = ((a * h + c) * h ^ k) % 1000000271 := by
      rw [Int.mul_emod, Int.emod_emod, ← Int.mul_emod, Int.mul_emod, Int.add_emod, Int.emod_emod, ← Int.add_emod, ← Int.mul_emod]
    have e3 : (a * h + c) * h ^ k = a * h ^ (k + 1) + c * h ^ k := by rw [Int.add_mul, Int.pow_succ, Int.mul_assoc, Int.mul_comm h]
    rw [e1]
    rw [e3] at e2
    omega

theorem horn_bd (h : Int) (i : Nat) (xs : List (List Int)) : 0 ≤ hornZ h i xs ∧ hornZ h i xs ≤ 1000000270 := by
  cases xs with
  | nil => simp [hornZ]
  | cons y ys => exact plusZ_bd _ _
theorem sum_bd (h : Int) (i : Nat) (xs : List (List Int)) (k : Nat) : 0 ≤ sumZ h i xs k ∧ sumZ h i xs k ≤ 1000000270 := by
  cases k with
  | zero => simp [sumZ]
  | succ k => exact plusZ_bd _ _
theorem sum_full (h : Int) (i : Nat) (xs : List (List Int)) : sumZ h i xs xs.length = hornZ h i xs := by
  have := sum_horn h i xs xs.length (Nat.le_refl _)
  simp [hornZ] at this
  have := sum_bd h i xs xs.length
  have := horn_bd h i xs
  omega


theorem pathAtZ_len (h : Int) (xs : List (List Int)) (n : Nat) : (pathAtZ h xs n).length = n := by simp [pathAtZ]
theorem pathAtZ_i64 (h : Int) (xs : List (List Int)) (n : Nat) : ∀ x ∈ pathAtZ h xs n, I64 x := by
  intro x hx
  simp only [pathAtZ, List.mem_map] at hx
  obtain ⟨i, _, rfl⟩ := hx
  exact i64_of_bd (horn_bd h i xs)

/-- Where PathAt is defined: the dimension of the path, else none. -/
def pathDimB (xs : List (List Int)) : Bool := match xs with
  | [] => false
  | y :: _ => decide (1 ≤ y.length ∧ y.length ≤ 6) && pathOkB xs y.length
def pathAtL (xs : List (List Int)) (h : Int) : List Int := if pathDimB xs = true then pathAtZ h xs (xs.head?.getD []).length else []

theorem rowIn {xs : List (List Int)} {y : List Int} {i k : Nat} {dim : Int} (ho : pathOkB xs dim = true) (hx : xs[k]? = some y) (hi : (i : Int) < dim) : ∃ z, y[i]? = some z := by
  simp only [pathOkB, Bool.and_eq_true, List.all_eq_true] at ho
  have := ho.2 y (List.mem_of_getElem? hx)
  simp only [rowOkB, Bool.and_eq_true, decide_eq_true_eq] at this
  exact ⟨_, List.getElem?_eq_getElem (by omega)⟩

/-- The row while the coordinate k is summed up: j terms so far. -/
def midRow (h : Int) (xs : List (List Int)) (n k j : Nat) : List Value := ((pathAtZ h xs n).take k).map (Value.int .i64) ++ .int .i64 (sumZ h k xs j) :: List.replicate (n - (k + 1)) (.int .i64 0)
theorem midRow_start (h : Int) (xs : List (List Int)) {n k : Nat} (hk : k < n) : ((pathAtZ h xs n).take k).map (Value.int .i64) ++ List.replicate (n - k) (.int .i64 0) = midRow h xs n k 0 := by
  obtain ⟨m, hm⟩ : ∃ m, n - k = m + 1 := ⟨n - k - 1, by omega⟩
  have h2 : n - (k + 1) = m := by omega
  unfold midRow
  rw [hm, h2, List.replicate_succ]
  rfl
theorem midRow_end (h : Int) (xs : List (List Int)) {n k : Nat} (hk : k < n) : midRow h xs n k xs.length = ((pathAtZ h xs n).take (k + 1)).map (Value.int .i64) ++ List.replicate (n - (k + 1)) (.int .i64 0) := by
  unfold midRow
  have : (pathAtZ h xs n)[k]? = some (hornZ h k xs) := by simp [pathAtZ, hk]
  rw [take_snoc this, sum_full]
  simp

set_option maxHeartbeats 1600000 in
theorem pathAt_any (v : Value) (xs : List (List Int)) (h0 : Int) (w : World) (h : RdII w v xs) :
    Calls Try.prog 27 #[v, .int .i64 h0] w (Gives (fun w' v fp => OwnI 3 w' v (pathAtL xs h0) fp) w) := by
  have hnone : pathDimB xs = false → Gives (fun w' v fp => OwnI 3 w' v (pathAtL xs h0) fp) w (.returned (.slice none 0 0)) w := by
    intro hd
    refine ⟨_, [], rfl, ?_, by simp, Below.refl _ _⟩
    rw [pathAtL, hd]
    exact ⟨World.ownsRow_nil _ _ _ _, rfl, by simp⟩
  have hrd := h
  obtain ⟨ad, len, cap, rfl, hl, hlc, hcm, h'⟩ := rdS_open h
  have hlen := Lib.hid hl
  clear h
  by_cases hz : len = 0
  · subst hz
    have HN := Lib.hid (hnone (by rw [List.eq_nil_of_length_eq_zero hl]; rfl))
    clear hnone hl
    go_enter Try.func27, Try.ntmps27
    go_wp2
    go_ret
    exact HN.out
  obtain ⟨b, off, ad', n, cap', x0, rfl, hx0, hcc, h6, h7, h8, h9, hbs⟩ := rdII_get h' (k := 0) (by omega)
  have hdd : pathDimB xs = (dimB n && pathOkB xs n) := by
    cases xs with
    | nil => simp at hx0
    | cons y ys =>
      simp only [List.getElem?_cons_zero, Option.some.injEq] at hx0
      subst hx0
      simp only [pathDimB, h6, dimB]
      congr 1
      rw [decide_eq_decide]
      omega
  have hhd : (xs.head?.getD []).length = n := by
    cases xs with
    | nil => simp at hx0
    | cons y ys =>
      simp only [List.getElem?_cons_zero, Option.some.injEq] at hx0
      subst hx0
      exact h6
  have hzb : ((len : Int) == 0) = false := by simp; omega
  have hzp : (0 : Int) < len := by omega
  have HX0 := Lib.hid hx0
  have HDD := Lib.hid hdd
  have HHD := Lib.hid hhd
  clear hx0 h6 hl hdd hhd
  simp only [Nat.add_zero] at hcc
  cases hdim : dimB (n : Int) with
  | false =>
    have HN := Lib.hid (hnone (by rw [HDD.out, hdim]; rfl))
    clear hnone
    go_enter Try.func27, Try.ntmps27
    go_wp2_with (go_at_call 55; ((with_reducible refine (isDim_any _ _).mono ?_); rintro e w' ⟨rfl, rfl⟩; rw [hdim]))
    go_ret
    exact HN.out
  | true =>
  cases hok : pathOkB xs n with
  | false =>
    have HN := Lib.hid (hnone (by rw [HDD.out, hdim, hok]; rfl))
    clear hnone
    go_enter Try.func27, Try.ntmps27
    go_wp2_with (first
      | (go_at_call 55; ((with_reducible refine (isDim_any _ _).mono ?_); rintro e w' ⟨rfl, rfl⟩; rw [hdim]))
      | (go_at_call 12; ((with_reducible refine (pathOk_any _ xs _ _ h').mono ?_); rintro e w' ⟨rfl, rfl⟩; rw [hok])))
    go_ret
    exact HN.out
  | true =>
  have HL := Lib.hid (show pathAtL xs h0 = pathAtZ h0 xs n by rw [pathAtL, if_pos (by rw [HDD.out, hdim, hok]; rfl), HHD.out])
  clear hnone
  have hn6 : n ≤ 6 := by simp [dimB] at hdim; omega
  obtain ⟨i0, hi, hz0, hz1, hz2⟩ := info_parts Try.info_int
  have hib : i0.bytes * n ≤ 281474976710656 := by rw [hz2]; omega
  go_enter Try.func27, Try.ntmps27
  go_wp2_with (first
    | (go_at_call 55; ((with_reducible refine (isDim_any _ _).mono ?_); rintro e w' ⟨rfl, rfl⟩; rw [hdim]))
    | (go_at_call 12; ((with_reducible refine (pathOk_any _ xs _ _ h').mono ?_); rintro e w' ⟨rfl, rfl⟩; rw [hok]))
    | (at_make; refine wpList_make_full _ rfl _ _ 27 rfl 0 3 i0 (.int .i64 0) 1 Try.underlying27 hi hz0 hz1 .i64 .i64 _ _ n rfl rfl rfl rfl hib (by unfold maxLen; omega) (Nat.zero_le _) ?_; intro w1 hown1 hgrow1))
  have hm0 : (madeCells (Value.int .i64 0).cells (n * 1)).toList = List.replicate n (.int .i64 0) := by
    rw [Nat.mul_one]; exact toList_madeCells_one _ _
  rw [hm0] at hown1
  have hbl : Below w.heap.size w w1 := (Below.refl _ _).grown hgrow1 (Nat.le_refl _) (fun k hk => by cases hk)
  clear hm0 hgrow1 hi hz0 hz1 hz2 hib h7 h8 h9 hcc
  go_loopw [36] (fun i wr => ∃ k : Nat, k ≤ n ∧ i = .int .i64 k ∧ wr.ownsRow 0 3 1 (.slice (some ⟨w.heap.size, 0, none⟩) n n) n (((pathAtZ h0 xs n).take k).map (Value.int .i64) ++ List.replicate (n - k) (.int .i64 0)) ∧ Below w.heap.size w wr)
    (fun i _ => n - (intOf i).toNat)
  case atStart => exact ⟨0, Nat.zero_le _, rfl, by simpa using hown1, hbl⟩
  case round =>
    obtain ⟨k, hk, rfl, hown, hb⟩ := hrel
    clear hown1 hbl
    by_cases hlt : k < n
    · rw [midRow_start h0 xs hlt] at hown
      have HO := Lib.hid hown
      clear hown
      go_wp2
      go_loopw [41] (fun j wq => ∃ j' : Nat, j' ≤ len ∧ j = .int .i64 j' ∧ wq.ownsRow 0 3 1 (.slice (some ⟨w.heap.size, 0, none⟩) n n) n (midRow h0 xs n k j') ∧ Below w.heap.size w wq)
        (fun j _ => len - (intOf j).toNat)
      case atStart => exact ⟨0, Nat.zero_le _, rfl, HO.out, hb⟩
      case round =>
        obtain ⟨j, hj, rfl, hown, hb2⟩ := hrel
        have h'r := rdII_mono hb2 h'
        by_cases hjl : j < len
        · obtain ⟨b', off', ad2, len2, cap2, y, hbe, hy, hcc, h6, h7, h8, h9, _⟩ := rdII_get h'r hjl
          simp only [Option.some.injEq, Addr.mk.injEq] at hbe
          obtain ⟨rfl, rfl, _⟩ := hbe
          obtain ⟨z, hz'⟩ := rowIn hok hy (by omega : (k : Int) < n)
          obtain ⟨b3, off3, z', rfl, hz2, hcz, hIz, hb3⟩ := rdI_get h9 (k := k) (by have := (List.getElem?_eq_some_iff.1 hz').1; omega)
          obtain rfl : z = z' := Option.some.inj (hz'.symm.trans hz2)
          have hk2 : k < len2 := by have := (List.getElem?_eq_some_iff.1 hz').1; omega
          have hsum : sumZ h0 k xs (j + 1) = plusZ (sumZ h0 k xs j) (timesZ z (powZ h0 j)) := by simp [sumZ, hy, hz']
          unfold midRow at hown
          obtain ⟨hcN, hfN, hs⟩ := own_put hown (k := k) (by simp [pathAtZ_len]; omega) (.int .i64 (plusZ (sumZ h0 k xs j) (timesZ z (powZ h0 j))))
          have HS := Lib.hid hs
          have HSUM := Lib.hid hsum
          clear hs hown hz' hz2 hy h6 hsum HO
          go_wp2
          (refine wp_region_still_tail 16 (by kernel_rfl) (by kernel_rfl) ?_; simp only [List.take_succ_cons, List.take_zero, List.drop_succ_cons, List.drop_zero]; (repeat (first | still_step | still_call (still_of (power_any _ _ _ (by omega))) | still_call (still_of (times_any _ _ _)) | still_call (still_of (plus_any _ _ _)))); refine wpStill_nil ?_; change wpList _ _ _ _ _ (World.drew _))
          go_wp2
          go_roundw
          case rel => exact ⟨j + 1, by omega, by go_num, World.ownsRow.drew (by unfold midRow; rw [HSUM.out]; simpa using HS.out), (hb2.setCell (by simp) _).drew⟩
          case measure => simp [intOf]; omega
        · obtain rfl : j = len := by omega
          have hl2 := hlen.out
          subst hl2
          rw [midRow_end h0 xs hlt] at hown
          have HO2 := Lib.hid hown
          clear hown HO
          go_wp2
          go_roundw
          case rel => exact ⟨k + 1, by omega, by go_num, HO2.out, hb2⟩
          case measure => simp [intOf]; omega
    · go_wp2
      go_ret
      have HO := own_i64 hown (pathAtZ_len _ _ _) (by omega) (pathAtZ_i64 _ _ _)
      exact ⟨_, [w.heap.size], rfl, by rw [HL.out]; exact HO, by simp, hb⟩

/-- The row while a step of Horner's runs: the first k coordinates have the row p too. -/
def hornMid (h : Int) (xs : List (List Int)) (n p k : Nat) : List Value := ((pathAtZ h (xs.drop p) n).take k).map (Value.int .i64) ++ ((pathAtZ h (xs.drop (p + 1)) n).drop k).map (Value.int .i64)
theorem hornMid_zero (h : Int) (xs : List (List Int)) (n p : Nat) : hornMid h xs n p 0 = (pathAtZ h (xs.drop (p + 1)) n).map (Value.int .i64) := by simp [hornMid]
theorem hornMid_full (h : Int) (xs : List (List Int)) {n p k : Nat} (hk : n ≤ k) : hornMid h xs n p k = (pathAtZ h (xs.drop p) n).map (Value.int .i64) := by
  unfold hornMid
  rw [List.take_of_length_le (show (pathAtZ h (xs.drop p) n).length ≤ k by rw [pathAtZ_len]; exact hk), List.drop_of_length_le (show (pathAtZ h (xs.drop (p + 1)) n).length ≤ k by rw [pathAtZ_len]; exact hk)]
  simp
theorem pathAtZ_get (h : Int) (xs : List (List Int)) {n k : Nat} (hk : k < n) : (pathAtZ h xs n)[k]? = some (hornZ h k xs) := by simp [pathAtZ, hk]
theorem hornMid_cons (h : Int) (xs : List (List Int)) {n p k : Nat} (hk : k < n) : hornMid h xs n p k =
    ((pathAtZ h (xs.drop p) n).take k).map (Value.int .i64) ++ .int .i64 (hornZ h k (xs.drop (p + 1))) :: ((pathAtZ h (xs.drop (p + 1)) n).drop (k + 1)).map (Value.int .i64) := by
  unfold hornMid
  have hg := pathAtZ_get h (xs.drop (p + 1)) hk
  obtain ⟨hl, he⟩ := List.getElem?_eq_some_iff.1 hg
  rw [List.drop_eq_getElem_cons hl, List.map_cons, he]
theorem hornMid_succ (h : Int) (xs : List (List Int)) {n p k : Nat} (hk : k < n) : hornMid h xs n p (k + 1) =
    ((pathAtZ h (xs.drop p) n).take k).map (Value.int .i64) ++ [.int .i64 (hornZ h k (xs.drop p))] ++ ((pathAtZ h (xs.drop (p + 1)) n).drop (k + 1)).map (Value.int .i64) := by
  unfold hornMid
  rw [take_snoc (pathAtZ_get h (xs.drop p) hk)]
  simp

set_option maxHeartbeats 1600000 in
theorem sPathAt_any (v : Value) (xs : List (List Int)) (h0 : Int) (w : World) (h : RdII w v xs) :
    Calls Try.prog 26 #[v, .int .i64 h0] w (Gives (fun w' v fp => OwnI 3 w' v (pathAtL xs h0) fp) w) := by
  have hnone : pathDimB xs = false → Gives (fun w' v fp => OwnI 3 w' v (pathAtL xs h0) fp) w (.returned (.slice none 0 0)) w := by
    intro hd
    refine ⟨_, [], rfl, ?_, by simp, Below.refl _ _⟩
    rw [pathAtL, hd]
    exact ⟨World.ownsRow_nil _ _ _ _, rfl, by simp⟩
  have hrd := h
  obtain ⟨ad, len, cap, rfl, hl, hlc, hcm, h'⟩ := rdS_open h
  have hlen := Lib.hid hl
  clear h
  by_cases hz : len = 0
  · subst hz
    have HN := Lib.hid (hnone (by rw [List.eq_nil_of_length_eq_zero hl]; rfl))
    clear hnone hl
    go_enter Try.func26, Try.ntmps26
    go_wp2
    go_ret
    exact HN.out
  obtain ⟨b, off, ad', n, cap', x0, rfl, hx0, hcc, h6, h7, h8, h9, hbs⟩ := rdII_get h' (k := 0) (by omega)
  have hdd : pathDimB xs = (inB n 1 6 && pathOkB xs n) := by
    cases xs with
    | nil => simp at hx0
    | cons y ys =>
      simp only [List.getElem?_cons_zero, Option.some.injEq] at hx0
      subst hx0
      simp only [pathDimB, h6, inB]
      congr 1
      rw [decide_eq_decide]
      omega
  have hhd : (xs.head?.getD []).length = n := by
    cases xs with
    | nil => simp at hx0
    | cons y ys =>
      simp only [List.getElem?_cons_zero, Option.some.injEq] at hx0
      subst hx0
      exact h6
  have hzb : ((len : Int) == 0) = false := by simp; omega
  have hzp : (0 : Int) < len := by omega
  have HX0 := Lib.hid hx0
  have HDD := Lib.hid hdd
  have HHD := Lib.hid hhd
  clear hx0 h6 hl hdd hhd
  simp only [Nat.add_zero] at hcc
  cases hdim : inB n 1 6 with
  | false =>
    have HN := Lib.hid (hnone (by rw [HDD.out, hdim]; rfl))
    clear hnone
    go_enter Try.func26, Try.ntmps26
    go_wp2_with (go_at_call 38; ((with_reducible refine (l1In_any _ _ _ _).mono ?_); rintro e w' ⟨rfl, rfl⟩; rw [hdim]))
    go_ret
    exact HN.out
  | true =>
  cases hok : pathOkB xs n with
  | false =>
    have HN := Lib.hid (hnone (by rw [HDD.out, hdim, hok]; rfl))
    clear hnone
    go_enter Try.func26, Try.ntmps26
    go_wp2_with (first
      | (go_at_call 38; ((with_reducible refine (l1In_any _ _ _ _).mono ?_); rintro e w' ⟨rfl, rfl⟩; rw [hdim]))
      | (go_at_call 10; ((with_reducible refine (sPathOk_any _ xs _ _ h').mono ?_); rintro e w' ⟨rfl, rfl⟩; rw [hok])))
    go_ret
    exact HN.out
  | true =>
  have HL := Lib.hid (show pathAtL xs h0 = pathAtZ h0 xs n by rw [pathAtL, if_pos (by rw [HDD.out, hdim, hok]; rfl), HHD.out])
  clear hnone
  have hn6 : n ≤ 6 := by simp [inB] at hdim; omega
  obtain ⟨i0, hi, hz0, hz1, hz2⟩ := info_parts Try.info_int
  have hib : i0.bytes * n ≤ 281474976710656 := by rw [hz2]; omega
  go_enter Try.func26, Try.ntmps26
  go_wp2_with (first
    | (go_at_call 38; ((with_reducible refine (l1In_any _ _ _ _).mono ?_); rintro e w' ⟨rfl, rfl⟩; rw [hdim]))
    | (go_at_call 10; ((with_reducible refine (sPathOk_any _ xs _ _ h').mono ?_); rintro e w' ⟨rfl, rfl⟩; rw [hok]))
    | (at_make; refine wpList_make_full _ rfl _ _ 27 rfl 0 3 i0 (.int .i64 0) 1 Try.underlying27 hi hz0 hz1 .i64 .i64 _ _ n rfl rfl rfl rfl hib (by unfold maxLen; omega) (Nat.zero_le _) ?_; intro w1 hown1 hgrow1))
  have hm0 : (madeCells (Value.int .i64 0).cells (n * 1)).toList = List.replicate n (.int .i64 0) := by
    rw [Nat.mul_one]; exact toList_madeCells_one _ _
  rw [hm0] at hown1
  have hbl : Below w.heap.size w w1 := (Below.refl _ _).grown hgrow1 (Nat.le_refl _) (fun k hk => by cases hk)
  clear hm0 hgrow1 hi hz0 hz1 hz2 hib h7 h8 h9 hcc
  go_loopw [6] (fun i wr => ∃ q : Nat, q ≤ len ∧ i = .int .i64 ((q : Int) - 1) ∧ wr.ownsRow 0 3 1 (.slice (some ⟨w.heap.size, 0, none⟩) n n) n ((pathAtZ h0 (xs.drop q) n).map (Value.int .i64)) ∧ Below w.heap.size w wr)
    (fun i _ => (intOf i + 1).toNat)
  case atStart =>
    refine ⟨len, Nat.le_refl _, rfl, ?_, hbl⟩
    rw [List.drop_of_length_le (by rw [hlen.out]; exact Nat.le_refl _)]
    have : (pathAtZ h0 [] n).map (Value.int .i64) = List.replicate n (.int .i64 0) := by
      simp [pathAtZ, hornZ, List.eq_replicate_iff]
    rw [this]
    exact hown1
  case round =>
    obtain ⟨q, hq, rfl, hown, hb⟩ := hrel
    clear hown1 hbl
    cases q with
    | zero =>
      go_wp2
      go_ret
      refine ⟨_, [w.heap.size], rfl, ?_, by simp, hb⟩
      rw [HL.out]
      simp only [List.drop_zero] at hown
      exact ⟨by rw [pathAtZ_len]; exact hown, rfl, pathAtZ_i64 _ _ _⟩
    | succ p =>
      have ep : ((p + 1 : Nat) : Int) - 1 = p := by omega
      have hpl : p < len := by omega
      rw [ep]
      rw [← hornMid_zero] at hown
      have HO := Lib.hid hown
      clear hown ep
      go_wp2
      go_loopw [7] (fun j wq => ∃ k : Nat, k ≤ n ∧ j = .int .i64 k ∧ wq.ownsRow 0 3 1 (.slice (some ⟨w.heap.size, 0, none⟩) n n) n (hornMid h0 xs n p k) ∧ Below w.heap.size w wq)
        (fun j _ => n - (intOf j).toNat)
      case atStart => exact ⟨0, Nat.zero_le _, rfl, HO.out, hb⟩
      case round =>
        obtain ⟨k, hk, rfl, hown, hb2⟩ := hrel
        have h'r := rdII_mono hb2 h'
        by_cases hlt : k < n
        · obtain ⟨b', off', ad2, len2, cap2, y, hbe, hy, hcc, h6, h7, h8, h9, _⟩ := rdII_get h'r (k := p) (by omega)
          simp only [Option.some.injEq, Addr.mk.injEq] at hbe
          obtain ⟨rfl, rfl, _⟩ := hbe
          obtain ⟨z, hz'⟩ := rowIn hok hy (by omega : (k : Int) < n)
          obtain ⟨b3, off3, z', rfl, hz2, hcz, hIz, hb3⟩ := rdI_get h9 (k := k) (by have := (List.getElem?_eq_some_iff.1 hz').1; omega)
          obtain rfl : z = z' := Option.some.inj (hz'.symm.trans hz2)
          have hk2 : k < len2 := by have := (List.getElem?_eq_some_iff.1 hz').1; omega
          have hsum : hornZ h0 k (xs.drop p) = plusZ (timesZ (hornZ h0 k (xs.drop (p + 1))) h0) z := by
            have hd : xs.drop p = y :: xs.drop (p + 1) := by
              obtain ⟨hl, rfl⟩ := List.getElem?_eq_some_iff.1 hy
              exact List.drop_eq_getElem_cons hl
            rw [hd]
            simp [hornZ, hz']
          rw [hornMid_cons h0 xs hlt] at hown
          obtain ⟨hcN, hfN, hs⟩ := own_put hown (k := k) (by simp [pathAtZ_len]; omega) (.int .i64 (plusZ (timesZ (hornZ h0 k (xs.drop (p + 1))) h0) z))
          rw [← hsum, ← hornMid_succ h0 xs hlt, hsum] at hs
          have HS := Lib.hid hs
          clear hs hown hz' hz2 hy h6 hsum HO
          go_wp2
          (refine wp_region_still_tail 17 (by kernel_rfl) (by kernel_rfl) ?_; simp only [List.take_succ_cons, List.take_zero, List.drop_succ_cons, List.drop_zero]; (repeat (first | still_step | still_call (still_of (sTimes_any _ _ _)) | still_call (still_of (sPlus_any _ _ _)))); refine wpStill_nil ?_; change wpList _ _ _ _ _ (World.drew _))
          go_wp2
          go_roundw
          case rel => exact ⟨k + 1, by omega, by go_num, World.ownsRow.drew HS.out, (hb2.setCell (by simp) _).drew⟩
          case measure => simp [intOf]; omega
        · obtain rfl : k = n := by omega
          rw [hornMid_full h0 xs (Nat.le_refl _)] at hown
          have HO2 := Lib.hid hown
          clear hown HO
          go_wp2
          go_roundw
          case rel => exact ⟨p, by omega, by go_num, HO2.out, hb2⟩
          case measure => simp [intOf]
end Go.Proofs.Ytkmcpcbfoiflbaa
