/- The texts TxtN, FmtL in one: each says at its head what it proves. Conditions: as said there. -/
import Derived.Lib.Join
import Derived.Deep.AppendLies
import Derived.Deep.RegionLaw
import Derived.Test.YtbcjhpgkodeoeaaG24
import Derived.Test.YtbcjhpgkodeoeaaG12
set_option linter.unusedSimpArgs false
set_option linter.unusedVariables false
/- Field numbers as texts. Conditions: none. -/
namespace Go.Proofs.Ytbcjhpgkodeoeaa
open Go.RowKit Go.Sort

/-- A fraction as a text. -/
def fracL (a b : Int) : List UInt8 := if b = 1 then decZ a else decZ a ++ 47 :: decZ b
/-- The first short fraction from a denominator on. -/
def fmtGo (n : Int) : Nat → Int → List UInt8
  | 0, _ => 35 :: decZ n
  | k + 1, b =>
    if n * b % 1000000271 ≤ 9999 then fracL (n * b % 1000000271) b
    else if 999990272 ≤ n * b % 1000000271 then fracL (n * b % 1000000271 - 1000000271) b
    else fmtGo n k (b + 1)
def fmtN (n : Int) : List UInt8 := fmtGo n 9999 1
/-- FormatNumber. -/
def fmtT (n : Int) : List UInt8 := if isNumB n = true then fmtN n else []
theorem decZ_pos {z : Int} (h : 0 ≤ z) : decZ z = decL z.toNat := by rw [decZ, if_neg (by omega)]
theorem decZ_neg {z : Int} (h : z < 0) : decZ z = 45 :: decL (-z).toNat := by rw [decZ, if_pos h]
theorem decZ_len {z : Int} (h0 : -2000000000 < z) (h1 : z < 2000000000) : (decZ z).length ≤ 11 := by
  unfold decZ
  split
  · have := decL_len (-z).toNat 9 (by omega)
    simp; omega
  · have := decL_len z.toNat 9 (by omega)
    omega
theorem mod_step (n b : Int) : (n * (b - 1) % 1000000271 + n) % 1000000271 = n * b % 1000000271 := by
  rw [Int.emod_add_emod]
  congr 1
  rw [Int.mul_sub, Int.mul_one]
  omega

theorem timesZ_mul (n b : Int) : timesZ n b = n * b % 1000000271 := rfl

set_option maxRecDepth 100000 in
set_option maxHeartbeats 1600000 in
theorem sFmtNum_any (n : Int) (w : World) : Calls Try.prog 81 #[.int .i64 n] w fun e w' => e = .returned (txt (fmtT n)) ∧ Below w.heap.size w w' := by
  have HBR := Lib.hid (Below.refl w.heap.size w)
  cases hn : isNumB n with
  | false =>
    have N1 := Lib.hid (sIsNumber_eq hn w)
    have HE := Lib.hid (show Value.string (ByteArray.mk #[]) = txt (fmtT n) from by rw [fmtT, hn]; rfl)
    clear hn
    go_enter Try.func81, Try.ntmps81
    go_wp2_with fail
    refine N1.out.mono ?_
    rintro e w' ⟨rfl, rfl⟩
    go_wp2
    go_ret
    exact ⟨ret_eq HE.out, HBR.out⟩
  | true =>
    have N1 := Lib.hid (sIsNumber_eq hn w)
    have HT := Lib.hid (show fmtT n = fmtN n from by rw [fmtT, hn]; rfl)
    simp only [isNumB, decide_eq_true_eq] at hn
    obtain ⟨hn0, hn1⟩ := hn
    go_enter Try.func81, Try.ntmps81
    go_wp2_with fail
    refine N1.out.mono ?_
    rintro e w' ⟨rfl, rfl⟩
    go_wp2
    go_loopw [3] (fun sb wr => ∃ (b : Int), sb = .int .i64 b ∧ 1 ≤ b ∧ b ≤ 10000 ∧ fmtN n = fmtGo n (10000 - b).toNat b ∧ Below w.heap.size w wr) (fun sb _ => 10000 - (intOf sb).toNat)
    case atStart => exact ⟨1, rfl, by omega, by omega, rfl, HBR.out⟩
    case round =>
      obtain ⟨wk, rfl⟩ : ∃ W, W = wr := ⟨_, rfl⟩
      clear HBR
      obtain ⟨b, rfl, hb1, hb2, hf, hb9w⟩ := hrel
      by_cases hb9 : b ≤ 9999
      · obtain ⟨a1, ha1⟩ : ∃ a1, timesZ n b = a1 := ⟨_, rfl⟩
        have T1 := Lib.hid (fun W : World => show Calls Try.prog 11 #[.int .i64 n, .int .i64 b] W fun e w' => e = .returned (.int .i64 a1) ∧ W = w' from ha1 ▸ sTimes_any n b W)
        have hfu : fmtGo n (10000 - b).toNat b = if a1 ≤ 9999 then fracL a1 b else if 999990272 ≤ a1 then fracL (a1 - 1000000271) b else fmtGo n (10000 - (b + 1)).toNat (b + 1) := by
          rw [show (10000 - b).toNat = (10000 - (b + 1)).toNat + 1 by omega, fmtGo, ← timesZ_mul, ha1]
        have g0 : 0 ≤ a1 := by have := timesZ_bd n b; omega
        have g1 : a1 ≤ 1000000270 := by have := timesZ_bd n b; omega
        by_cases c1 : a1 ≤ 9999
        · rw [if_pos c1] at hfu
          by_cases hb : b = 1
          · subst hb
            have HR := Lib.hid (show txt (decZ a1) = txt (fmtT n) from by rw [HT.out, hf, hfu, fracL, if_pos rfl])
            have D1 := Lib.hid (fun W : World => show Calls Try.prog 44 #[.int .i64 a1] W fun e w' => e = .returned (txt (fmtT n)) ∧ Below W.heap.size W w' from by
              have := sDecimal_any a1 (by omega) (by omega) W
              rwa [HR.out] at this)
            clear hf hfu ha1 HR
            obtain ⟨x, hx⟩ : ∃ x, txt (fmtT n) = .string x := ⟨_, rfl⟩
            rw [hx] at D1
            go_wp2_with ((go_at_call 11; (with_reducible refine (T1.out _).mono ?_); rintro e w' ⟨rfl, rfl⟩))
            refine (D1.out _).mono ?_
            rintro e w' ⟨rfl, hbd⟩
            have hbz := hb9w.trans (hbd.mono hb9w.size)
            go_wp2
            go_ret
            exact ⟨ret_eq hx.symm, hbz⟩
          · obtain ⟨s, hs⟩ : ∃ s, s = ByteArray.mk (decZ a1).toArray := ⟨_, rfl⟩
            obtain ⟨y, hy⟩ : ∃ y, y = ByteArray.mk (decZ a1 ++ [47]).toArray := ⟨_, rfl⟩
            obtain ⟨s2, hs2⟩ : ∃ s, s = ByteArray.mk (decZ b).toArray := ⟨_, rfl⟩
            obtain ⟨u, hu⟩ : ∃ u, u = ByteArray.mk (decZ a1 ++ [47] ++ decZ b).toArray := ⟨_, rfl⟩
            have hal := decZ_len (z := a1) (by omega) (by omega)
            have hbl := decZ_len (z := b) (by omega) (by omega)
            have hc2 : ∀ w : World, (Op.stringOp .add s (ByteArray.mk #[47])).run Try.prog w = .ok (.string y) w := fun w => by
              rw [hs, hy]
              exact cat_run (decZ a1) [47] (by simp; omega) w
            have hc3 : ∀ w : World, (Op.stringOp .add y s2).run Try.prog w = .ok (.string u) w := fun w => by
              rw [hy, hs2, hu]
              exact cat_run (decZ a1 ++ [47]) (decZ b) (by simp; omega) w
            have D1 := Lib.hid (fun W : World => show Calls Try.prog 44 #[.int .i64 a1] W fun e w' => e = .returned (.string s) ∧ Below W.heap.size W w' from by
              rw [hs]
              exact sDecimal_any a1 (by omega) (by omega) W)
            have D2 := Lib.hid (fun W : World => show Calls Try.prog 44 #[.int .i64 b] W fun e w' => e = .returned (.string s2) ∧ Below W.heap.size W w' from by
              rw [hs2]
              exact sDecimal_any b (by omega) (by omega) W)
            have HR := Lib.hid (show Value.string u = txt (fmtT n) from by rw [HT.out, hf, hfu, fracL, if_neg hb, hu]; simp [txt])
            have hbq : (b == 1) = false := by simpa using hb
            clear hf hfu ha1 hs hy hs2 hu hal hbl hb
            go_wp2_with ((go_at_call 11; (with_reducible refine (T1.out _).mono ?_); rintro e w' ⟨rfl, rfl⟩))
            refine (D1.out _).mono ?_
            rintro e w' ⟨rfl, hbd⟩
            have hbz := hb9w.trans (hbd.mono hb9w.size)
            go_wp2_with fail
            refine (D2.out _).mono ?_
            rintro e w2 ⟨rfl, hbd2⟩
            have hby := hbz.trans (hbd2.mono hbz.size)
            go_wp2
            go_ret
            exact ⟨ret_eq HR.out, hby⟩
        · rw [if_neg c1] at hfu
          by_cases c2 : 999990272 ≤ a1
          · rw [if_pos c2] at hfu
            by_cases hb : b = 1
            · subst hb
              have HR := Lib.hid (show txt (decZ (a1 - 1000000271)) = txt (fmtT n) from by rw [HT.out, hf, hfu, fracL, if_pos rfl])
              have D1 := Lib.hid (fun W : World => show Calls Try.prog 44 #[.int .i64 (a1 - 1000000271)] W fun e w' => e = .returned (txt (fmtT n)) ∧ Below W.heap.size W w' from by
                have := sDecimal_any (a1 - 1000000271) (by omega) (by omega) W
                rwa [HR.out] at this)
              clear hf hfu ha1 HR
              obtain ⟨x, hx⟩ : ∃ x, txt (fmtT n) = .string x := ⟨_, rfl⟩
              rw [hx] at D1
              go_wp2_with ((go_at_call 11; (with_reducible refine (T1.out _).mono ?_); rintro e w' ⟨rfl, rfl⟩))
              refine (D1.out _).mono ?_
              rintro e w' ⟨rfl, hbd⟩
              have hbz := hb9w.trans (hbd.mono hb9w.size)
              go_wp2
              go_ret
              exact ⟨ret_eq hx.symm, hbz⟩
            · obtain ⟨s, hs⟩ : ∃ s, s = ByteArray.mk (decZ (a1 - 1000000271)).toArray := ⟨_, rfl⟩
              obtain ⟨y, hy⟩ : ∃ y, y = ByteArray.mk (decZ (a1 - 1000000271) ++ [47]).toArray := ⟨_, rfl⟩
              obtain ⟨s2, hs2⟩ : ∃ s, s = ByteArray.mk (decZ b).toArray := ⟨_, rfl⟩
              obtain ⟨u, hu⟩ : ∃ u, u = ByteArray.mk (decZ (a1 - 1000000271) ++ [47] ++ decZ b).toArray := ⟨_, rfl⟩
              have hal := decZ_len (z := (a1 - 1000000271)) (by omega) (by omega)
              have hbl := decZ_len (z := b) (by omega) (by omega)
              have hc2 : ∀ w : World, (Op.stringOp .add s (ByteArray.mk #[47])).run Try.prog w = .ok (.string y) w := fun w => by
                rw [hs, hy]
                exact cat_run (decZ (a1 - 1000000271)) [47] (by simp; omega) w
              have hc3 : ∀ w : World, (Op.stringOp .add y s2).run Try.prog w = .ok (.string u) w := fun w => by
                rw [hy, hs2, hu]
                exact cat_run (decZ (a1 - 1000000271) ++ [47]) (decZ b) (by simp; omega) w
              have D1 := Lib.hid (fun W : World => show Calls Try.prog 44 #[.int .i64 (a1 - 1000000271)] W fun e w' => e = .returned (.string s) ∧ Below W.heap.size W w' from by
                rw [hs]
                exact sDecimal_any (a1 - 1000000271) (by omega) (by omega) W)
              have D2 := Lib.hid (fun W : World => show Calls Try.prog 44 #[.int .i64 b] W fun e w' => e = .returned (.string s2) ∧ Below W.heap.size W w' from by
                rw [hs2]
                exact sDecimal_any b (by omega) (by omega) W)
              have HR := Lib.hid (show Value.string u = txt (fmtT n) from by rw [HT.out, hf, hfu, fracL, if_neg hb, hu]; simp [txt])
              have hbq : (b == 1) = false := by simpa using hb
              clear hf hfu ha1 hs hy hs2 hu hal hbl hb
              go_wp2_with ((go_at_call 11; (with_reducible refine (T1.out _).mono ?_); rintro e w' ⟨rfl, rfl⟩))
              refine (D1.out _).mono ?_
              rintro e w' ⟨rfl, hbd⟩
              have hbz := hb9w.trans (hbd.mono hb9w.size)
              go_wp2_with fail
              refine (D2.out _).mono ?_
              rintro e w2 ⟨rfl, hbd2⟩
              have hby := hbz.trans (hbd2.mono hbz.size)
              go_wp2
              go_ret
              exact ⟨ret_eq HR.out, hby⟩
          · rw [if_neg c2] at hfu
            have HF := Lib.hid (hf.trans hfu)
            clear hf hfu ha1
            go_wp2_with ((go_at_call 11; (with_reducible refine (T1.out _).mono ?_); rintro e w' ⟨rfl, rfl⟩))
            go_roundw
            case rel => exact ⟨b + 1, rfl, by omega, by omega, HF.out, hb9w⟩
            case measure => (simp [intOf]; omega)
      · obtain rfl : b = 10000 := by omega
        have hml := decZ_len (z := n) (by omega) (by omega)
        obtain ⟨s, hs⟩ : ∃ s, s = ByteArray.mk (decZ n).toArray := ⟨_, rfl⟩
        obtain ⟨x, hx⟩ : ∃ x, x = ByteArray.mk (35 :: decZ n).toArray := ⟨_, rfl⟩
        have hc1 : ∀ w : World, (Op.stringOp .add (ByteArray.mk #[35]) s).run Try.prog w = .ok (.string x) w := fun w => by
          rw [hs, hx]
          exact cat_run [35] (decZ n) (by simp; omega) w
        have D1 := Lib.hid (fun W : World => show Calls Try.prog 44 #[.int .i64 n] W fun e w' => e = .returned (.string s) ∧ Below W.heap.size W w' from by
          rw [hs]
          exact sDecimal_any n (by omega) (by omega) W)
        have HR := Lib.hid (show Value.string x = txt (fmtT n) from by rw [HT.out, hf, show ((10000 : Int) - 10000).toNat = 0 by omega, fmtGo, hx]; rfl)
        clear hs hx hml hf
        go_wp2_with fail
        refine (D1.out _).mono ?_
        rintro e w' ⟨rfl, hbd⟩
        have hbz := hb9w.trans (hbd.mono hb9w.size)
        go_wp2
        go_ret
        exact ⟨ret_eq HR.out, hbz⟩
end Go.Proofs.Ytbcjhpgkodeoeaa

/- Fields as texts, in plain lists; rows of texts. Conditions: none. -/
namespace Go.Proofs.Ytbcjhpgkodeoeaa
open Go.RowKit Go.Sort

/-- A power of a variable as a text. -/
def powL (i : Nat) (n : Int) : List UInt8 := if 0 < n then 42 :: UInt8.ofNat (97 + i) :: (if 1 < n then decL n.toNat else []) else []
def powsT : Nat → List Int → List UInt8
  | _, [] => []
  | i, n :: ps => powL i n ++ powsT (i + 1) ps
theorem powsT_snoc (n : Int) : ∀ (ps : List Int) (i : Nat), powsT i (ps ++ [n]) = powsT i ps ++ powL (i + ps.length) n
  | [], i => by simp [powsT]
  | m :: ps, i => by
    rw [List.cons_append, powsT, powsT, powsT_snoc n ps (i + 1), List.append_assoc, List.length_cons, show i + 1 + ps.length = i + (ps.length + 1) by omega]
theorem powL_len {i : Nat} {n : Int} (h : n ≤ 5) : (powL i n).length ≤ 3 := by
  unfold powL
  split
  · split
    · rw [decL_small (by omega)]; simp
    · simp
  · simp
theorem powsT_len : ∀ (ps : List Int) (i : Nat), (∀ n ∈ ps, n ≤ 5) → (powsT i ps).length ≤ 3 * ps.length
  | [], i, _ => by simp [powsT]
  | n :: ps, i, h => by
    have h1 := powL_len (i := i) (h n (by simp))
    have h2 := powsT_len ps (i + 1) (fun m hm => h m (by simp [hm]))
    rw [powsT, List.length_append, List.length_cons]
    omega
theorem fracL_len {a b : Int} (ha : -2000000000 < a) (ha2 : a < 2000000000) (hb : -2000000000 < b) (hb2 : b < 2000000000) : (fracL a b).length ≤ 23 := by
  have h1 := decZ_len ha ha2
  have h2 := decZ_len hb hb2
  unfold fracL
  split
  · omega
  · simp; omega
theorem fmtGo_len {n : Int} (h0 : 0 ≤ n) (h1 : n < 1000000271) : ∀ (k : Nat) (b : Int), 0 ≤ b → b + k ≤ 100000 → (fmtGo n k b).length ≤ 23
  | 0, b, _, _ => by
    have := decZ_len (z := n) (by omega) (by omega)
    rw [fmtGo]; simp; omega
  | k + 1, b, hb, hk => by
    have hb1 : 0 ≤ n * b % 1000000271 ∧ n * b % 1000000271 < 1000000271 := by omega
    rw [fmtGo]
    split
    · exact fracL_len (by omega) (by omega) (by omega) (by omega)
    · split
      · exact fracL_len (by omega) (by omega) (by omega) (by omega)
      · exact fmtGo_len h0 h1 k (b + 1) (by omega) (by omega)
theorem fmtT_len (n : Int) : (fmtT n).length ≤ 23 := by
  unfold fmtT
  split
  · rename_i h
    simp only [isNumB, decide_eq_true_eq] at h
    exact fmtGo_len h.1 h.2 9999 1 (by omega) (by omega)
  · simp
def monT (m : MonZ) : List UInt8 := fmtT m.coef ++ powsT 0 m.pows
def polyT (p : List MonZ) : List UInt8 := if p = [] then [48] else Lib.join (p.map monT) [32, 43, 32]
def fldT (f : FldZ) : List UInt8 := if fldOkB f = true then Lib.join (f.parts.map polyT) [59, 32] else []

theorem Try.info_str : (Try.prog.info? 9).map (fun i => (i.zero, i.size, i.bytes)) = some (some (.string ⟨#[]⟩), 1, 16) := by kernel_rfl
/-- A row of texts of the call's own. -/
structure RowT (w wr : World) (v : Value) (xs : List (List UInt8)) (n : Nat) : Prop where
  len : xs.length = n
  shape : ∃ g cap, v = .slice (some ⟨g, 0, none⟩) n cap ∧ w.heap.size ≤ g
  row : wr.ownsRow 0 9 1 v n (xs.map txt)
  below : Below w.heap.size w wr
theorem RowT.new (w : World) : RowT w (w.alloc (.cells #[] 9)) (.slice (some ⟨w.heap.size, 0, none⟩) 0 0) [] 0 :=
  ⟨rfl, ⟨_, _, rfl, Nat.le_refl _⟩, by simpa using World.ownsRow_lit (base := 0) (e := 9) (size := 1) w #[] 0 (Nat.zero_le _) (Nat.zero_le _) rfl, (Below.refl _ _).alloc (Nat.le_refl _) _⟩
theorem RowT.step {w wr wq : World} {v : Value} {xs : List (List UInt8)} {n : Nat} (h : RowT w wr v xs n) (hb : Below wr.heap.size wr wq) : RowT w wq v xs n :=
  ⟨h.len, h.shape, ownsRow_only h.row (Only.of_below (fp := []) hb) (by simp), h.below.trans (hb.mono h.below.size)⟩
theorem RowT.push {w wr wa wb : World} {xs : List (List UInt8)} {n g g2 cap capn : Nat} {y : List UInt8} (h : RowT w wr (.slice (some ⟨g, 0, none⟩) n cap) xs n) (hb : Below wr.heap.size wr wa)
    (hown : wb.ownsRow 0 9 1 (.slice (some ⟨g2, 0, none⟩) (n + 1) capn) (n + 1) (xs.map txt ++ [txt y])) (hgrow : wa.grownBy wb (some g)) (hat : g = g2 ∨ wr.heap.size ≤ g2) :
    RowT w wb (.slice (some ⟨g2, 0, none⟩) (n + 1) capn) (xs ++ [y]) (n + 1) := by
  obtain ⟨g', cap', hv, hg⟩ := h.shape
  simp only [Value.slice.injEq, Option.some.injEq, Addr.mk.injEq, and_true, true_and] at hv
  obtain ⟨rfl, rfl⟩ := hv
  have hbs := h.below.size
  have hs := hb.size
  refine ⟨by rw [List.length_append, h.len]; rfl, ⟨g2, capn, rfl, ?_⟩, by simpa using hown, (h.below.trans (hb.mono hbs)).grown hgrow (by omega) (fun b hb' => by simp at hb'; omega)⟩
  rcases hat with rfl | hat
  · exact hg
  · omega
theorem sum_le_mul {xs : List (List UInt8)} {k : Nat} (h : ∀ x ∈ xs, x.length ≤ k) : (xs.map List.length).sum ≤ xs.length * k := by
  induction xs with
  | nil => simp
  | cons x xs ih =>
    have h1 := h x (by simp)
    have h2 := ih (fun y hy => h y (by simp [hy]))
    simp only [List.map_cons, List.sum_cons, List.length_cons, Nat.succ_mul]
    omega
theorem joinTail_len {xs : List (List UInt8)} {sep : List UInt8} {k : Nat} (h : ∀ x ∈ xs, x.length ≤ k) : (Lib.joinTail sep xs).length ≤ xs.length * (k + sep.length) := by
  unfold Lib.joinTail
  induction xs with
  | nil => simp
  | cons x xs ih =>
    have h1 := h x (by simp)
    have h2 := ih (fun y hy => h y (by simp [hy]))
    simp only [List.map_cons, List.flatten_cons, List.length_append, List.length_cons, Nat.succ_mul]
    omega
theorem join_len {xs : List (List UInt8)} {sep : List UInt8} {k : Nat} (h : ∀ x ∈ xs, x.length ≤ k) : (Lib.join xs sep).length ≤ xs.length * (k + sep.length) := by
  cases xs with
  | nil => simp [Lib.join_nil]
  | cons x xs =>
    have h1 := h x (by simp)
    have h2 := joinTail_len (xs := xs) (sep := sep) (fun y hy => h y (by simp [hy]))
    rw [Lib.join_cons, List.length_append, List.length_cons, Nat.succ_mul]
    omega
end Go.Proofs.Ytbcjhpgkodeoeaa
