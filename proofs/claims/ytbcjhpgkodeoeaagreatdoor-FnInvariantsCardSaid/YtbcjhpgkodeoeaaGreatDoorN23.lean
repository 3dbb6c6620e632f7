/- The texts SolR, SolP, GauP, GauI in one: each says at its head what it proves. Conditions: as said there. -/
import Derived.Test.YtbcjhpgkodeoeaaGreatDoorN05
import Derived.Test.YtbcjhpgkodeoeaaGreatDoorN04
import Derived.Test.YtbcjhpgkodeoeaaGreatDoorN20
import Derived.Test.YtbcjhpgkodeoeaaGreatDoorN21
import Derived.Test.YtbcjhpgkodeoeaaGreatDoorN02
set_option linter.unusedSimpArgs false
set_option linter.unusedVariables false
/- The reference's test of the rows of a system; their copy. Conditions: none. -/
namespace Go.Proofs.YtbcjhpgkodeoeaaGreatDoor
open Go.RowKit

def rowB (n : Nat) (r : List Int) : Bool := decide (r.length = n) && r.all isNumB
def rowsB (rows : List (List Int)) : Bool := inB rows.length 1 40 && (inB (atL rows 0).length 1 40 && rows.all (rowB (atL rows 0).length))
end Go.Proofs.YtbcjhpgkodeoeaaGreatDoor

/- Systems solved by reduction, as a function. Plain: no program's step stands here. -/
namespace Go.Proofs.YtbcjhpgkodeoeaaGreatDoor

/-- the answer, filled in row by row -/
def outS (S : List (List Int) × List Nat) (n : Nat) : Nat → List Int
  | 0 => List.replicate n 0
  | i + 1 => if i < S.2.length then (outS S n i).set (S.2[i]?.getD 0) (atZ (atL S.1 i) n) else outS S n i
theorem outS_len (S : List (List Int) × List Nat) (n i : Nat) : (outS S n i).length = n := by
  induction i with
  | zero => simp [outS]
  | succ i ih =>
    rw [outS]
    split
    · rw [List.length_set, ih]
    · exact ih
def badB (S : List (List Int) × List Nat) (n N : Nat) : Bool := (List.range N).any fun i => decide (S.2.length ≤ i) && decide (atZ (atL S.1 i) n ≠ 0)
theorem badB_yes {S : List (List Int) × List Nat} {n N i : Nat} (h1 : S.2.length ≤ i) (h2 : i < N) (h3 : atZ (atL S.1 i) n ≠ 0) : badB S n N = true := by
  rw [badB, List.any_eq_true]
  exact ⟨i, by simpa using h2, by simp [h1, h3]⟩
theorem badB_no {S : List (List Int) × List Nat} {n N : Nat} (h : ∀ i, S.2.length ≤ i → i < N → atZ (atL S.1 i) n = 0) : badB S n N = false := by
  rw [badB, List.any_eq_false]
  intro i hi
  have hi : i < N := by simpa using hi
  simp only [Bool.and_eq_true, decide_eq_true_eq, not_and, ne_eq, Decidable.not_not]
  exact fun h1 => h i h1 hi
def sysB (rows : List (List Int)) (right : List Int) : Bool := rowsB rows && (decide (right.length = rows.length) && right.all isNumB)
def solS (rows : List (List Int)) (right : List Int) : List (List Int) × List Nat := redS (augZ rows right) (atL rows 0).length
def solB (rows : List (List Int)) (right : List Int) : Bool := sysB rows right && !badB (solS rows right) (atL rows 0).length rows.length
def solL (rows : List (List Int)) (right : List Int) : List Int := if solB rows right = true then outS (solS rows right) (atL rows 0).length rows.length else []
theorem solB_sys {rows : List (List Int)} {right : List Int} (h : sysB rows right = false) : solB rows right = false ∧ solL rows right = [] := by
  have : solB rows right = false := by rw [solB, h]; rfl
  exact ⟨this, by rw [solL, this]; rfl⟩
theorem solB_bad {rows : List (List Int)} {right : List Int} (h : badB (solS rows right) (atL rows 0).length rows.length = true) : solB rows right = false ∧ solL rows right = [] := by
  have : solB rows right = false := by rw [solB, h]; simp
  exact ⟨this, by rw [solL, this]; rfl⟩
theorem solB_yes {rows : List (List Int)} {right : List Int} (h1 : sysB rows right = true) (h : badB (solS rows right) (atL rows 0).length rows.length = false) : solB rows right = true ∧ solL rows right = outS (solS rows right) (atL rows 0).length rows.length := by
  have : solB rows right = true := by rw [solB, h1, h]; rfl
  exact ⟨this, by rw [solL, this]; rfl⟩
theorem nums_all {l : List Int} (h : l.all isNumB = true) : Nums l := fun x hx => by
  have := List.all_eq_true.1 h x hx
  simp only [isNumB, decide_eq_true_eq] at this
  omega
theorem all_nums {l : List Int} (h : Nums l) : l.all isNumB = true := List.all_eq_true.2 fun x hx => by
  have := h x hx
  simp only [isNumB, decide_eq_true_eq]
  omega
theorem rowsB_ok {rows : List (List Int)} (h : rowsB rows = true) : RowsOk (atL rows 0).length rows ∧ 1 ≤ rows.length ∧ rows.length ≤ 40 ∧ 1 ≤ (atL rows 0).length ∧ (atL rows 0).length ≤ 40 := by
  simp only [rowsB, inB, Bool.and_eq_true, decide_eq_true_eq, List.all_eq_true, rowB] at h
  obtain ⟨h1, h2, h3⟩ := h
  refine ⟨fun i hi => ?_, by omega, by omega, by omega, by omega⟩
  have hx := List.getElem?_eq_getElem hi
  rw [atL_get hx]
  obtain ⟨h4, h5⟩ := h3 _ (List.getElem_mem hi)
  exact ⟨h4, nums_all (List.all_eq_true.2 h5)⟩
theorem aug_ok {rows : List (List Int)} {right : List Int} {n : Nat} (h : RowsOk n rows) (hr : Nums right) : RowsOk (n + 1) (augZ rows right) := fun i hi => by
  rw [augZ_len] at hi
  rw [augZ_at hi]
  obtain ⟨h1, h2⟩ := h i hi
  refine ⟨by simp [h1], fun x hx => ?_⟩
  rcases List.mem_append.1 hx with hx | hx
  · exact h2 x hx
  · rw [List.mem_singleton.1 hx]; exact nums_atZ hr i
end Go.Proofs.YtbcjhpgkodeoeaaGreatDoor

/- Powers by squaring; the numbers of Gauss's nodes; systems solved in the kernel. Plain: no program's step stands here. -/
namespace Go.Proofs.YtbcjhpgkodeoeaaGreatDoor

/-- powers by squaring -/
def pbS (a : Nat) : Nat → Nat → Nat
  | 0, _ => 1
  | f + 1, k => if k = 0 then 1 else (fun h => (h * h % 1000000271) * (if k % 2 = 1 then a else 1) % 1000000271) (pbS a f (k / 2))
theorem pbS_eq (a : Nat) : ∀ f k, k < 2 ^ f → pbS a f k = a ^ k % 1000000271
  | 0, k, h => by
    obtain rfl : k = 0 := by simpa using h
    rfl
  | f + 1, k, h => by
    rw [pbS]
    by_cases h0 : k = 0
    · subst h0; rfl
    · rw [if_neg h0, pbS_eq a f (k / 2) (by rw [Nat.pow_succ] at h; omega)]
      show (a ^ (k / 2) % 1000000271 * (a ^ (k / 2) % 1000000271) % 1000000271) * (if k % 2 = 1 then a else 1) % 1000000271 = _
      rw [← Nat.mul_mod, Nat.mod_mul_mod, ← Nat.pow_add]
      by_cases h1 : k % 2 = 1
      · rw [if_pos h1, ← Nat.pow_succ, Nat.succ_eq_add_one, show k / 2 + k / 2 + 1 = k by omega]
      · rw [if_neg h1, Nat.mul_one, show k / 2 + k / 2 = k by omega]
/-- the power of an integer -/
def powB (a : Int) (k : Nat) : Int := ((pbS (a % 1000000271).toNat 31 k : Nat) : Int)
theorem pow_mod_int (a : Int) : ∀ k : Nat, (a % 1000000271) ^ k % 1000000271 = a ^ k % 1000000271
  | 0 => by rw [Int.pow_zero, Int.pow_zero]
  | k + 1 => by rw [Int.pow_succ, Int.pow_succ, Int.mul_emod, pow_mod_int a k, Int.emod_emod, ← Int.mul_emod]
theorem powZ_B (a : Int) (k : Nat) (hk : k < 2147483648) : powZ a (k : Int) = powB a k := by
  unfold powB powZ
  rw [pbS_eq _ _ _ (by simpa using hk), if_neg (by omega), Int.toNat_natCast]
  have h0 : ((a % 1000000271).toNat : Int) = a % 1000000271 := Int.toNat_of_nonneg (by omega)
  rw [Int.natCast_emod, Int.natCast_pow, h0]
  exact (pow_mod_int a k).symm
/-- the inverse -/
def invB (a : Int) : Int := powB a 1000000269
theorem inv_B (a : Int) : powZ a 1000000269 = invB a := powZ_B a 1000000269 (by omega)
def fracB (a b : Int) : Int := timesZ a (invB b)
theorem fracZ_B (a b : Int) : fracZ a b = fracB a b := by rw [fracZ, inv_B, fracB]
theorem half_n : fracZ 1 2 = 500000136 := by rw [fracZ_B]; decide +kernel
theorem root3_n : powZ 3 250000068 = 590934106 := by rw [show (250000068 : Int) = ((250000068 : Nat) : Int) from rfl, powZ_B _ _ (by omega)]; decide +kernel
theorem root15_n : powZ 15 250000068 = 548693291 := by rw [show (250000068 : Int) = ((250000068 : Nat) : Int) from rfl, powZ_B _ _ (by omega)]; decide +kernel
theorem d2_n : fracZ 409066165 6 = 234844406 := by rw [fracZ_B]; decide +kernel
theorem d3_n : fracZ 451306980 10 = 45130698 := by rw [fracZ_B]; decide +kernel

/-- one step of a reduction -/
def stepB (m : List (List Int)) (i r k : Nat) : List (List Int) := (fun s => elimA (s.set r (scaleR (atL s r) (invB (atZ (atL s r) k)))) r k m.length) (swapR m i r)
theorem stepR_B (m : List (List Int)) (i r k : Nat) : stepR m i r k = stepB m i r k := by
  unfold stepR scaleA stepB
  rw [inv_B]
def redB (m : List (List Int)) : Nat → List (List Int) × List Nat
  | 0 => (m, [])
  | k + 1 => (fun S => match pivO S.1 S.2.length k with
    | none => S
    | some i => (stepB S.1 i S.2.length k, S.2 ++ [k])) (redB m k)
theorem redS_B (m : List (List Int)) : ∀ k, redS m k = redB m k
  | 0 => rfl
  | k + 1 => by
    rw [redS, redB, redS_B m k]
    simp only [stepR_B]
    cases pivO (redB m k).1 (redB m k).2.length k <;> rfl
def solX (rows : List (List Int)) (right : List Int) : Bool × List Int := (fun S => (sysB rows right && !badB S (atL rows 0).length rows.length, outS S (atL rows 0).length rows.length)) (redB (augZ rows right) (atL rows 0).length)
theorem solX_B {rows : List (List Int)} {right L : List Int} (h : solX rows right = (true, L)) : solB rows right = true ∧ solL rows right = L := by
  have h1 : solS rows right = redB (augZ rows right) (atL rows 0).length := redS_B _ _
  have h2 : solB rows right = true := by
    rw [solB, h1]
    exact congrArg Prod.fst h
  refine ⟨h2, ?_⟩
  rw [solL, if_pos h2, h1]
  exact congrArg Prod.snd h
/-- Gauss's nodes -/
def gauN : Nat → List Int
  | 1 => [500000136]
  | 2 => [265155730, 734844542]
  | 3 => [454869438, 500000136, 545130834]
  | _ => []
def gauA : Nat → List (List Int)
  | 1 => [[500000136]]
  | 2 => [[250000068, 15155662], [484844474, 250000068]]
  | 3 => [[805555774, 858801998, 790512208], [324360096, 888889130, 286751181], [820599340, 918976262, 805555774]]
  | _ => []
def gauB : Nat → List Int
  | 1 => [1]
  | 2 => [500000136, 500000136]
  | 3 => [611111277, 777777989, 611111277]
  | _ => []
/-- powers of nodes, computed -/
def powsB (cs : List Int) : List (List Int) := (List.range cs.length).map fun k => cs.map fun c => powB c k
theorem powRows_B (cs : List Int) (h : cs.length ≤ 8) : powRows cs = powsB cs := by
  unfold powRows powsB powR
  refine List.map_congr_left fun k hk => ?_
  have hk' : k < cs.length := by simpa using hk
  exact List.map_congr_left fun c _ => powZ_B c k (by omega)
/-- the right sides for a node, and for the weights -/
def rgtA (c : Int) (n : Nat) : List Int := (List.range n).map fun (k : Nat) => fracZ (powZ c ((k : Int) + 1)) ((k : Int) + 1)
def rgtB (n : Nat) : List Int := (List.range n).map fun (k : Nat) => fracZ 1 ((k : Int) + 1)
def rgtAB (c : Int) (n : Nat) : List Int := (List.range n).map fun (k : Nat) => fracB (powB c (k + 1)) ((k : Int) + 1)
def rgtBB (n : Nat) : List Int := (List.range n).map fun (k : Nat) => fracB 1 ((k : Int) + 1)
theorem rgtA_B (c : Int) (n : Nat) (h : n ≤ 8) : rgtA c n = rgtAB c n := by
  unfold rgtA rgtAB
  refine List.map_congr_left fun k hk => ?_
  have hk' : k < n := by simpa using hk
  rw [fracZ_B, show (k : Int) + 1 = ((k + 1 : Nat) : Int) by omega, powZ_B c (k + 1) (by omega)]
theorem rgtB_B (n : Nat) : rgtB n = rgtBB n := by
  unfold rgtB rgtBB
  exact List.map_congr_left fun k _ => fracZ_B _ _
theorem gau_chk : ([1, 2, 3].all fun s => (List.range s).all (fun i => decide (solX (powsB (gauN s)) (rgtAB (atZ (gauN s) i) s) = (true, atL (gauA s) i))) && decide (solX (powsB (gauN s)) (rgtBB s) = (true, gauB s))) = true := by decide +kernel
theorem gau_len {s : Nat} (h1 : 1 ≤ s) (h3 : s ≤ 3) : (gauN s).length = s := by
  have : s = 1 ∨ s = 2 ∨ s = 3 := by omega
  rcases this with rfl | rfl | rfl <;> rfl
theorem gau_row {s i : Nat} (h1 : 1 ≤ s) (h3 : s ≤ 3) (hi : i < s) : solL (powRows (gauN s)) (rgtA (atZ (gauN s) i) s) = atL (gauA s) i := by
  have h := gau_chk
  simp only [List.all_eq_true, Bool.and_eq_true, decide_eq_true_eq] at h
  have hs : s ∈ [1, 2, 3] := by
    have : s = 1 ∨ s = 2 ∨ s = 3 := by omega
    simpa using this
  have h2 := (h s hs).1 i (by simpa using hi)
  rw [powRows_B _ (by rw [gau_len h1 h3]; omega), rgtA_B _ _ (by omega)]
  exact (solX_B h2).2
theorem gau_wts {s : Nat} (h1 : 1 ≤ s) (h3 : s ≤ 3) : solL (powRows (gauN s)) (rgtB s) = gauB s := by
  have h := gau_chk
  simp only [List.all_eq_true, Bool.and_eq_true, decide_eq_true_eq] at h
  have hs : s ∈ [1, 2, 3] := by
    have : s = 1 ∨ s = 2 ∨ s = 3 := by omega
    simpa using this
  rw [powRows_B _ (by rw [gau_len h1 h3]; omega), rgtB_B]
  exact (solX_B (h s hs).2).2
end Go.Proofs.YtbcjhpgkodeoeaaGreatDoor

/- The program's nodes of Gauss. Conditions: one to three nodes. -/
namespace Go.Proofs.YtbcjhpgkodeoeaaGreatDoor
open Go.RowKit

theorem power_eq {a k y : Int} (h : powZ a k = y) (hk : k ≤ 9223372036854775807) (w : World) : Calls Tryz.prog 97 #[.int .i64 a, .int .i64 k] w fun e w' => e = .returned (.int .i64 y) ∧ w = w' := h ▸ power_any a k w hk
theorem residue_eq {a y : Int} (h : a % 1000000271 = y) (w : World) : Calls Tryz.prog 84 #[.int .i64 a] w fun e w' => e = .returned (.int .i64 y) ∧ w = w' := h ▸ residue_any a w
theorem fraction_eq {a b y : Int} (h : fracZ a b = y) (w : World) : Calls Tryz.prog 65 #[.int .i64 a, .int .i64 b] w fun e w' => e = .returned (.int .i64 y) ∧ w = w' := h ▸ fraction_any a b w
theorem plus_eq' {a b y : Int} (h : plusZ a b = y) (w : World) : Calls Tryz.prog 96 #[.int .i64 a, .int .i64 b] w fun e w' => e = .returned (.int .i64 y) ∧ w = w' := h ▸ plus_any a b w
theorem minus_eq' {a b y : Int} (h : minusZ a b = y) (w : World) : Calls Tryz.prog 123 #[.int .i64 a, .int .i64 b] w fun e w' => e = .returned (.int .i64 y) ∧ w = w' := h ▸ minus_any a b w
/-- A root that is found. -/
theorem squareI_any (n r y : Int) (hn : 0 ≤ n ∧ n < 1000000271) (hr : powZ n 250000068 = r) (hq : r * r % 1000000271 = n) (hy : min r (1000000271 - r) = y) (h0 : 0 < r ∧ r < 1000000271) (w : World) :
    Calls Tryz.prog 160 #[.int .i64 n] w fun e w' => e = .returned (.tuple #[.int .i64 y, .bool true]) ∧ w = w' := by
  have C1 := Lib.hid hr
  have C2 := Lib.hid (show n % 1000000271 = n from by omega)
  have C3 := Lib.hid (show (-r) % 1000000271 = 1000000271 - r from by omega)
  obtain ⟨P, hP⟩ : ∃ P, r * r = P := ⟨_, rfl⟩
  have hPb : 0 ≤ P ∧ P ≤ 1000000271 * 1000000271 := by
    rw [← hP]
    exact ⟨Int.mul_nonneg (by omega) (by omega), Int.mul_le_mul (by omega) (by omega) (by omega) (by omega)⟩
  have hw : IntKind.i64.wrap (r * r) = P := by rw [hP]; exact IntWalk.i64_in _ (by omega)
  have hm : P.tmod 1000000271 = n := by rw [Int.tmod_eq_emod_of_nonneg (by omega), ← hP]; exact hq
  have hwn : IntKind.i64.wrap (-r) = -r := IntWalk.i64_in _ (by omega)
  have HY := Lib.hid hy
  clear hr hq hP hy
  go_enter Tryz.func160, Tryz.ntmps160
  go_wp2_with (first | (go_at_call 97; ((with_reducible refine (power_eq C1.out (by omega) _).mono ?_); rintro e w' ⟨rfl, rfl⟩)) | (go_at_call 84; ((with_reducible refine (residue_eq C2.out _).mono ?_); rintro e w' ⟨rfl, rfl⟩)) | (go_at_call 84; ((with_reducible refine (residue_eq C3.out _).mono ?_); rintro e w' ⟨rfl, rfl⟩)))
  · obtain rfl : y = 1000000271 - r := by have := HY.out; omega
    go_ret2
    exact ⟨rfl, rfl⟩
  · obtain rfl : y = r := by have := HY.out; omega
    go_ret2
    exact ⟨rfl, rfl⟩
/-- The roots of 3 and of 15. -/
theorem rootI_any (n r y : Int) (hn : 0 ≤ n ∧ n < 1000000271) (hr : powZ n 250000068 = r) (hq : r * r % 1000000271 = n) (hy : min r (1000000271 - r) = y) (h0 : 0 < r ∧ r < 1000000271) (w : World) :
    Calls Tryz.prog 122 #[.int .i64 n] w fun e w' => e = .returned (.int .i64 y) ∧ w = w' := by
  have H := Lib.hid (squareI_any n r y hn hr hq hy h0 w)
  clear hr hq hy hn h0
  go_enter Tryz.func122, Tryz.ntmps122
  go_wp2_with fail
  refine H.out.mono ?_
  rintro e w' ⟨rfl, rfl⟩
  go_wp2
  go_ret
  exact ⟨rfl, rfl⟩
/-- Nodes of the call's own. -/
def GivesRow (xs : List Int) (w : World) : Ending → World → Prop := Gives (fun w' v fp => OwnI 3 w' v xs fp) w
theorem lit_rowG (w : World) (xs : List Int) (hx : ∀ x ∈ xs, NumZ x) (hl : xs.length ≤ 4) (cs : Array Value) (hcs : cs = (xs.map (Value.int .i64)).toArray) (n : Nat) (hn : n = xs.length) :
    GivesRow xs w (.returned (.slice (some ⟨w.heap.size, 0, none⟩) n n)) (w.alloc (.cells cs 3)) :=
  ⟨_, _, rfl, lit_own w xs (fun x h => numZ_i64 (hx x h)) (by omega) cs hcs n hn, by simp, (Below.refl _ _).alloc (Nat.le_refl _) _⟩
set_option maxHeartbeats 800000 in
theorem gaussI_any (s : Nat) (sz : Int) (hz : sz = s) (h1 : 1 ≤ s) (h3 : s ≤ 3) (w : World) : Calls Tryz.prog 53 #[.int .i64 sz] w (GivesRow (gauN s) w) := by
  have CH := Lib.hid half_n
  have HL := Lib.hid (fun xs hx hl cs hcs n hn => lit_rowG w xs hx hl cs hcs n hn)
  have hs : s = 1 ∨ s = 2 ∨ s = 3 := by omega
  rcases hs with rfl | rfl | rfl
  · obtain rfl : sz = 1 := hz
    go_enter Tryz.func53, Tryz.ntmps53
    go_wp2_with (first | (go_at_call 65; ((with_reducible refine (fraction_eq CH.out _).mono ?_); rintro e w' ⟨rfl, rfl⟩)))
    go_ret
    exact HL.out (gauN 1) (by simp [gauN, NumZ]) (by simp [gauN]) _ rfl _ rfl
  · obtain rfl : sz = 2 := hz
    have C1 := Lib.hid (rootI_any 3 590934106 409066165 (by omega) root3_n (by decide +kernel) (by decide) (by omega) w)
    have C2 := Lib.hid d2_n
    have C3 := Lib.hid (show minusZ 500000136 234844406 = 265155730 from by decide +kernel)
    have C4 := Lib.hid (show plusZ 500000136 234844406 = 734844542 from by decide +kernel)
    go_enter Tryz.func53, Tryz.ntmps53
    go_wp2_with (first | (go_at_call 65; ((with_reducible refine (fraction_eq CH.out _).mono ?_); rintro e w' ⟨rfl, rfl⟩)) | (go_at_call 122; ((with_reducible refine (C1.out).mono ?_); rintro e w' ⟨rfl, rfl⟩)) | (go_at_call 65; ((with_reducible refine (fraction_eq C2.out _).mono ?_); rintro e w' ⟨rfl, rfl⟩)) | (go_at_call 123; ((with_reducible refine (minus_eq' C3.out _).mono ?_); rintro e w' ⟨rfl, rfl⟩)) | (go_at_call 96; ((with_reducible refine (plus_eq' C4.out _).mono ?_); rintro e w' ⟨rfl, rfl⟩)))
    go_ret
    exact HL.out (gauN 2) (by simp [gauN, NumZ]) (by simp [gauN]) _ rfl _ rfl
  · obtain rfl : sz = 3 := hz
    have C1 := Lib.hid (rootI_any 15 548693291 451306980 (by omega) root15_n (by decide +kernel) (by decide) (by omega) w)
    have C2 := Lib.hid d3_n
    have C3 := Lib.hid (show minusZ 500000136 45130698 = 454869438 from by decide +kernel)
    have C4 := Lib.hid (show plusZ 500000136 45130698 = 545130834 from by decide +kernel)
    go_enter Tryz.func53, Tryz.ntmps53
    go_wp2_with (first | (go_at_call 65; ((with_reducible refine (fraction_eq CH.out _).mono ?_); rintro e w' ⟨rfl, rfl⟩)) | (go_at_call 122; ((with_reducible refine (C1.out).mono ?_); rintro e w' ⟨rfl, rfl⟩)) | (go_at_call 65; ((with_reducible refine (fraction_eq C2.out _).mono ?_); rintro e w' ⟨rfl, rfl⟩)) | (go_at_call 123; ((with_reducible refine (minus_eq' C3.out _).mono ?_); rintro e w' ⟨rfl, rfl⟩)) | (go_at_call 96; ((with_reducible refine (plus_eq' C4.out _).mono ?_); rintro e w' ⟨rfl, rfl⟩)))
    go_ret
    exact HL.out (gauN 3) (by simp [gauN, NumZ]) (by simp [gauN]) _ rfl _ rfl
end Go.Proofs.YtbcjhpgkodeoeaaGreatDoor
