/- The texts RowT, TTxt, TPar in one: each says at its head what it proves. Conditions: as said there. -/
import Derived.Test.YtbcjhpgkodeoeaaG22
import Derived.Test.YtbcjhpgkodeoeaaG33
import Derived.Test.YtbcjhpgkodeoeaaG10
import Derived.Test.YtbcjhpgkodeoeaaG06
import Derived.Test.YtbcjhpgkodeoeaaG37
import Derived.Test.YtbcjhpgkodeoeaaG05
set_option linter.unusedSimpArgs false
set_option linter.unusedVariables false
/- A row of a tableau. Conditions: a valid tableau. -/
namespace Go.Proofs.Ytbcjhpgkodeoeaa
open Go.RowKit

/-- What a call returns that lies in what was there. -/
def GivesV {β : Type} (Rd : World → Value → β → Prop) (w : World) (x : β) : Ending → World → Prop := fun e w' =>
  ∃ v, e = .returned v ∧ Rd w' v x ∧ Below w.heap.size w w'
/-- a row of A -/
def rowZ (A : List Int) (n i : Nat) : List Int := (A.drop (i * n)).take n
theorem rowZ_at {A : List Int} {n i j : Nat} (hj : j < n) : atZ (rowZ A n i) j = atZ A (i * n + j) := by
  unfold rowZ atZ
  rw [List.getElem?_take_of_lt hj, List.getElem?_drop]
theorem rowZ_len {A : List Int} {n i : Nat} (hA : A.length = n * n) (hi : i < n) : (rowZ A n i).length = n := by
  have : (i + 1) * n ≤ n * n := Nat.mul_le_mul_right n hi
  rw [Nat.succ_mul] at this
  rw [rowZ, List.length_take, List.length_drop]
  omega
theorem rdI_part {w : World} {b off len cap : Nat} {xs : List Int} (h : RdI w (.slice (some ⟨b, off, none⟩) len cap) xs) {lo n : Nat} (hl : lo + n ≤ len) : RdI w (.slice (some ⟨b, off + lo, none⟩) n (cap - lo)) ((xs.drop lo).take n) := by
  obtain ⟨ad', cap', he, h1, h2, h3⟩ := h
  injection he with e1 e2 e3
  subst e2 e3
  have hlen : ((xs.drop lo).take n).length = n := by rw [List.length_take, List.length_drop]; omega
  refine ⟨_, _, by rw [hlen], by rw [hlen]; omega, by omega, fun hp => ⟨b, off + lo, rfl, fun i x hx => ?_⟩⟩
  obtain ⟨b', o', hb, hc⟩ := h3 (by rw [hlen] at hp; omega)
  rw [← e1] at hb
  simp only [Option.some.injEq, Addr.mk.injEq] at hb
  obtain ⟨rfl, rfl, _⟩ := hb
  have hi := (List.getElem?_eq_some_iff.1 hx).1
  rw [hlen] at hi
  rw [List.getElem?_take_of_lt hi, List.getElem?_drop] at hx
  obtain ⟨us, hs, hu, hE⟩ := hc (lo + i) x hx
  exact ⟨us, hs, fun j u hj => by have := hu j u hj; rwa [show off + lo + i * 1 + j = off + (lo + i) * 1 + j by omega], hE⟩
theorem row_bd {n i : Nat} (hi : i < n) (hn : n ≤ 8) : 0 ≤ (i : Int) * n ∧ (i : Int) * n ≤ 64 ∧ ((i : Int) * n).toNat = i * n ∧ ((i : Int) + 1) * n = (i : Int) * n + n ∧ i * n + n ≤ n * n ∧ ((n * n : Nat) : Int) ≤ 64 ∧ ((i * n : Nat) : Int) = (i : Int) * n := by
  have h1 : i * n ≤ 8 * 8 := Nat.mul_le_mul (by omega) hn
  have h2 : ((i * n : Nat) : Int) = (i : Int) * n := by simp
  have h3 : (i + 1) * n ≤ n * n := Nat.mul_le_mul_right n hi
  have h4 : n * n ≤ 8 * 8 := Nat.mul_le_mul hn hn
  rw [Nat.succ_mul] at h3
  refine ⟨by omega, by omega, by omega, ?_, h3, by omega, h2⟩
  rw [Int.add_mul, Int.one_mul]
set_option maxRecDepth 100000 in
set_option maxHeartbeats 1600000 in
theorem sRow_any (v : Value) (t : TabZ) (w : World) (h : RdTab w v t) (hok : tabOkB t = true) {i : Nat} (hi : i < t.B.length) :
    Calls Try.prog 50 #[v, .int .i64 i] w (GivesV RdI w (rowZ t.A t.B.length i)) := by
  obtain ⟨vA, vB, rfl, hI, hA, hB⟩ := h
  obtain ⟨hs, hAn, hn8⟩ := tabOk_num hok
  obtain ⟨n, hn⟩ : ∃ n, n = t.B.length := ⟨_, rfl⟩
  rw [← hn] at hs hAn hn8 hi ⊢
  have hb0 : Below w.heap.size w (w.alloc (.cells #[.int .i64 t.stages, vA, vB] 26)) := (Below.refl _ _).alloc (Nat.le_refl _) _
  rw [hs] at hb0 ⊢
  obtain ⟨p0, p1, p2, p3, p4, p5, p7⟩ := row_bd hi hn8
  obtain ⟨aA, nA, cA, rfl, lA, hlc, hcm, gA⟩ := rdS_open (rdI_mono hb0 hA)
  have hnA : nA = n * n := by omega
  obtain ⟨bA, oA, x, rfl, _⟩ := rdI_get gA (k := i * n) (by omega)
  have hP := rdI_part gA (lo := i * n) (n := n) (by omega)
  have HP := Lib.hid hP
  have q1 : (i : Int) * n + n ≤ cA := by omega
  have q2 : (i : Int) * n ≤ (i : Int) * n + n := by omega
  have q3 : ((i : Int) * n + n).toNat = i * n + n := by omega
  have q4 : 0 ≤ (i : Int) * n + n := by omega
  have q5 : ¬ cA - i * n = 0 := by omega
  have q6 : (i : Int) * n + n ≤ 72 := by omega
  have HB := Lib.hid hb0
  clear hs hAn hn lA hP hB gA hA hb0 hnA p7 p4 p5
  go_enter Try.func50, Try.ntmps50
  go_wp2
  go_ret
  exact ⟨_, rfl, HP.out, HB.out⟩
end Go.Proofs.Ytbcjhpgkodeoeaa

/- The reference's texts of rows of numbers, and of tableaus: some short text. Conditions: short rows. -/
namespace Go.Proofs.Ytbcjhpgkodeoeaa
open Go.RowKit Go.Sort

/-- Some text of at most m bytes. -/
def Texts (m : Nat) (w : World) : Ending → World → Prop := fun e w' => ∃ L : List UInt8, e = .returned (txt L) ∧ L.length ≤ m ∧ Below w.heap.size w w'

set_option maxRecDepth 100000 in
set_option maxHeartbeats 3200000 in
theorem sFmtNums_any (v : Value) (xs : List Int) (w : World) (h : RdI w v xs) (hl : xs.length ≤ 1000) : Calls Try.prog 76 #[v] w (Texts (24 * xs.length) w) := by
  obtain ⟨ad, len, cap, rfl, hl0, hlc, hcm, h'⟩ := rdS_open h
  rw [hl0] at hl ⊢
  clear h hl0
  go_enter Try.func76, Try.ntmps76
  go_wp2
  go_loopw [3, 4] (fun ss si wq => ∃ (i : Nat) (s : ByteArray) (L : List UInt8), i ≤ len ∧ si = .int .i64 i ∧ ss = .string s ∧ s = ByteArray.mk L.toArray ∧ L.length ≤ 24 * i ∧ Below w.heap.size w wq) (fun _ si _ => len - (intOf si).toNat)
  case atStart => exact ⟨0, _, [], Nat.zero_le _, rfl, rfl, rfl, by simp, Below.refl _ _⟩
  case round =>
    obtain ⟨wk, rfl⟩ : ∃ W, W = wr := ⟨_, rfl⟩
    obtain ⟨i, s, L, hi, rfl, rfl, hs, hL, hb⟩ := hrel
    by_cases hil : i < len
    case neg =>
      have HE := Lib.hid (show Value.string s = txt L from by rw [hs]; rfl)
      clear hs
      go_wp2
      go_ret
      exact ⟨L, ret_eq HE.out, by omega, hb⟩
    obtain ⟨b5, off5, x, rfl, hx, hcx, hIx, _⟩ := rdI_get (rdI_mono hb h') hil
    cases hn : isNumB x with
    | false =>
      have N1 := Lib.hid (sIsNumber_eq hn wk)
      have HE := Lib.hid (show Value.string (ByteArray.mk #[]) = txt [] from rfl)
      clear hn hs
      go_wp2_with fail
      refine N1.out.mono ?_
      rintro e w1 ⟨rfl, rfl⟩
      go_wp2
      go_ret
      exact ⟨[], ret_eq HE.out, by simp, hb⟩
    | true =>
      have N1 := Lib.hid (sIsNumber_eq hn wk)
      obtain ⟨f0, hf0⟩ : ∃ f0, f0 = ByteArray.mk (fmtT x).toArray := ⟨_, rfl⟩
      have FN := Lib.hid (show Calls Try.prog 81 #[.int .i64 x] wk fun e w' => e = .returned (.string f0) ∧ Below wk.heap.size wk w' from by rw [hf0]; exact sFmtNum_any x wk)
      have hfl := fmtT_len x
      by_cases h0 : 0 < i
      · obtain ⟨s1, hs1⟩ : ∃ s1, s1 = ByteArray.mk (L ++ [32]).toArray := ⟨_, rfl⟩
        obtain ⟨s2, hs2⟩ : ∃ s2, s2 = ByteArray.mk (L ++ [32] ++ fmtT x).toArray := ⟨_, rfl⟩
        have hc1 : ∀ w : World, (Op.stringOp .add s (ByteArray.mk #[32])).run Try.prog w = .ok (.string s1) w := fun w => by
          rw [hs, hs1]
          exact cat_run _ [32] (by simp only [List.length_cons, List.length_nil]; omega) w
        have hc2 : ∀ w : World, (Op.stringOp .add s1 f0).run Try.prog w = .ok (.string s2) w := fun w => by
          rw [hs1, hf0, hs2]
          exact cat_run _ _ (by rw [List.length_append]; simp only [List.length_cons, List.length_nil]; omega) w
        have HN := Lib.hid (show ∃ L' : List UInt8, s2 = ByteArray.mk L'.toArray ∧ L'.length ≤ 24 * (i + 1) from ⟨_, hs2, by simp; omega⟩)
        have h0I : (0 : Int) < i := by omega
        have hb' := hb
        clear hn hs hs1 hs2 hf0 hfl hx
        go_wp2_with fail
        refine N1.out.mono ?_
        rintro e w1 ⟨rfl, rfl⟩
        go_wp2_with fail
        refine FN.out.mono ?_
        rintro e w2 ⟨rfl, hb2⟩
        have HB := Lib.hid (hb'.trans (hb2.mono hb'.size))
        clear hb2 hb hb' hcx
        go_wp2
        go_roundw
        case rel =>
          obtain ⟨L', h1, h2⟩ := HN.out
          exact ⟨i + 1, s2, L', by omega, by go_num, rfl, h1, h2, HB.out⟩
        case measure => (simp [intOf]; try omega)
      · obtain ⟨s2, hs2⟩ : ∃ s2, s2 = ByteArray.mk (L ++ fmtT x).toArray := ⟨_, rfl⟩
        have hc2 : ∀ w : World, (Op.stringOp .add s f0).run Try.prog w = .ok (.string s2) w := fun w => by
          rw [hs, hf0, hs2]
          exact cat_run _ _ (by omega) w
        have HN := Lib.hid (show ∃ L' : List UInt8, s2 = ByteArray.mk L'.toArray ∧ L'.length ≤ 24 * (i + 1) from ⟨_, hs2, by simp; omega⟩)
        have h0I : ¬ (0 : Int) < i := by omega
        have hb' := hb
        clear hn hs hs2 hf0 hfl hx
        go_wp2_with fail
        refine N1.out.mono ?_
        rintro e w1 ⟨rfl, rfl⟩
        go_wp2_with fail
        refine FN.out.mono ?_
        rintro e w2 ⟨rfl, hb2⟩
        have HB := Lib.hid (hb'.trans (hb2.mono hb'.size))
        clear hb2 hb hb' hcx
        go_wp2
        go_roundw
        case rel =>
          obtain ⟨L', h1, h2⟩ := HN.out
          exact ⟨i + 1, s2, L', by omega, by go_num, rfl, h1, h2, HB.out⟩
        case measure => (simp [intOf]; try omega)

set_option maxRecDepth 100000 in
set_option maxHeartbeats 6400000 in
theorem sFmtTab_any (v : Value) (t : TabZ) (w : World) (h : RdTab w v t) : Calls Try.prog 66 #[v] w (Texts 2000 w) := by
  have h0 := h
  obtain ⟨vA, vB, rfl, hI, hA, hB⟩ := h
  obtain ⟨adA, lA, cA, rfl⟩ := rdI_slice hA
  obtain ⟨adB, lB, cB, rfl, hlB, _, _, hB'⟩ := rdS_open hB
  obtain ⟨W0, hW0⟩ : ∃ W, W = w.alloc (.cells #[.int .i64 t.stages, .slice adA lA cA, .slice adB lB cB] 26) := ⟨_, rfl⟩
  have hb0 : Below w.heap.size w W0 := hW0 ▸ (Below.refl _ _).alloc (Nat.le_refl _) _
  have hc0 : W0.cell? ⟨w.heap.size, 0, none⟩ = some (.int .i64 t.stages) := by rw [hW0]; simp
  have hc1 : W0.cell? ⟨w.heap.size, 1, none⟩ = some (.slice adA lA cA) := by rw [hW0]; simp
  have hc2 : W0.cell? ⟨w.heap.size, 2, none⟩ = some (.slice adB lB cB) := by rw [hW0]; simp
  have hT := rdTab_mono hb0 h0
  have HW0 := Lib.hid hW0
  have HE : Hid (Value.string (ByteArray.mk #[]) = txt []) := Lib.hid rfl
  have HN : Hid (Value.string (ByteArray.mk #[110, 111, 110, 101]) = txt [110, 111, 110, 101]) := Lib.hid rfl
  have HLB := Lib.hid hlB
  clear hW0 hA hB h0 hlB
  cases hok : tabOkB t with
  | false =>
    have HK := Lib.hid (sTabOk_eq _ t W0 hT hok)
    have HB0 := Lib.hid hb0
    clear hok hT hb0
    go_enter Try.func66, Try.ntmps66
    go_wp2_with fail
    rw [← HW0.out]
    refine HK.out.mono ?_
    rintro e w1 ⟨rfl, hb1⟩
    have HB1 := Lib.hid (HB0.out.trans (hb1.mono HB0.out.size))
    clear hb1
    go_wp2
    go_ret
    exact ⟨[], ret_eq HE.out, by simp, HB1.out⟩
  | true =>
    have HK := Lib.hid (sTabOk_eq _ t W0 hT hok)
    obtain ⟨hs, hAn, hn8⟩ := tabOk_num hok
    obtain ⟨n, hn⟩ : ∃ n, n = t.B.length := ⟨_, rfl⟩
    have HOK := Lib.hid hok
    have HNB := Lib.hid hn
    have HSN := Lib.hid (show t.stages = (n : Int) from by omega)
    have HT := Lib.hid hT
    have HB0 := Lib.hid hb0
    rw [← hn] at hn8
    clear hok hb0 hs hAn hT hn
    by_cases hn0 : n = 0
    · have hzb : (t.stages == 0) = true := by rw [HSN.out, hn0]; rfl
      clear hn0
      go_enter Try.func66, Try.ntmps66
      go_wp2_with fail
      rw [← HW0.out]
      refine HK.out.mono ?_
      rintro e w1 ⟨rfl, hb1⟩
      have HB1 := Lib.hid (HB0.out.trans (hb1.mono HB0.out.size))
      have d0 := cell_below hb1 hc0
      clear hb1
      go_wp2
      go_ret
      exact ⟨_, ret_eq HN.out, by simp, HB1.out⟩
    have hzb : (t.stages == 0) = false := by rw [HSN.out]; simp; omega
    go_enter Try.func66, Try.ntmps66
    go_wp2_with fail
    rw [← HW0.out]
    refine HK.out.mono ?_
    rintro e w1 ⟨rfl, hb1⟩
    have HB1 := Lib.hid hb1
    have d0 := cell_below hb1 hc0
    clear hb1
    go_wp2
    go_loopw [3, 4] (fun ss si wq => ∃ (i : Nat) (s : ByteArray) (L : List UInt8), i ≤ n ∧ si = .int .i64 i ∧ ss = .string s ∧ s = ByteArray.mk L.toArray ∧ L.length ≤ 195 * i ∧ Below W0.heap.size W0 wq) (fun _ si _ => n - (intOf si).toNat)
    case atStart => exact ⟨0, _, [], Nat.zero_le _, rfl, rfl, rfl, by simp, HB1.out⟩
    case round =>
      obtain ⟨wk, rfl⟩ : ∃ W, W = wr := ⟨_, rfl⟩
      obtain ⟨i, s, L, hi, rfl, rfl, hs, hL, hb⟩ := hrel
      have HS := Lib.hid hs
      clear hs
      clear HB1 d0
      have e0 := cell_below hb hc0
      have e1 := cell_below hb hc1
      have e2 := cell_below hb hc2
      by_cases hil : i < n
      case neg =>
        obtain rfl : i = n := by omega
        have hiI : ¬ ((i : Int) < t.stages) := by rw [HSN.out]; omega
        have hlen : t.B.length ≤ 1000 := by have := HNB.out; omega
        have HF := Lib.hid (sFmtNums_any _ t.B wk (rdI_mono (HB0.out.trans (hb.mono HB0.out.size)) hB') hlen)
        have hLb : 24 * t.B.length ≤ 192 := by have := HNB.out; omega
        have hb' := HB0.out.trans (hb.mono HB0.out.size)
        clear hb
        go_wp2_with fail
        refine HF.out.mono ?_
        rintro e w2 ⟨L2, rfl, hL2, hb2⟩
        obtain ⟨f0, hf0⟩ : ∃ f0, f0 = ByteArray.mk L2.toArray := ⟨_, rfl⟩
        obtain ⟨s2, hs2⟩ : ∃ s2, s2 = ByteArray.mk (L ++ L2).toArray := ⟨_, rfl⟩
        have hc2 : ∀ w : World, (Op.stringOp .add s f0).run Try.prog w = .ok (.string s2) w := fun w => by
          rw [HS.out, hf0, hs2]
          exact cat_run _ _ (by omega) w
        have HV := Lib.hid (show Value.string s2 = txt (L ++ L2) from by rw [hs2]; rfl)
        have HB2 := Lib.hid (hb'.trans (hb2.mono hb'.size))
        have HT2 : Hid (txt L2 = .string f0) := Lib.hid (by rw [hf0]; rfl)
        rw [HT2.out]
        clear hf0 hs2 hb2
        go_wp2
        go_ret
        exact ⟨_, ret_eq HV.out, by simp; omega, HB2.out⟩
      have hiI : ((i : Int) < t.stages) := by rw [HSN.out]; omega
      have HR := Lib.hid (sRow_any _ t wk (rdTab_mono hb HT.out) HOK.out (i := i) (by have := HNB.out; omega))
      have hrl := rowZ_len (A := t.A) (n := n) (i := i) (by have := (tabOk_num HOK.out).2.1; rw [← HNB.out] at this; exact this) hil
      have HRL := Lib.hid hrl
      have HBK := Lib.hid hb
      clear hb hrl
      go_wp2_with fail
      refine HR.out.mono ?_
      rintro e w2 ⟨vr, rfl, hvr, hb2⟩
      have HB2 := Lib.hid (HBK.out.trans (hb2.mono HBK.out.size))
      obtain ⟨ar, lr, cr, rfl⟩ := rdI_slice hvr
      rw [← HNB.out] at hvr
      have HF := Lib.hid (sFmtNums_any _ _ w2 hvr (by rw [HRL.out]; omega))
      have hL24 : 24 * (rowZ t.A n i).length ≤ 192 := by rw [HRL.out]; omega
      clear hb2 hvr
      go_wp2_with fail
      refine HF.out.mono ?_
      rintro e w3 ⟨L2, rfl, hL2, hb3⟩
      obtain ⟨f0, hf0⟩ : ∃ f0, f0 = ByteArray.mk L2.toArray := ⟨_, rfl⟩
      obtain ⟨s2, hs2⟩ : ∃ s2, s2 = ByteArray.mk (L ++ L2).toArray := ⟨_, rfl⟩
      obtain ⟨s3, hs3⟩ : ∃ s3, s3 = ByteArray.mk (L ++ L2 ++ [32, 124, 32]).toArray := ⟨_, rfl⟩
      have hc2 : ∀ w : World, (Op.stringOp .add s f0).run Try.prog w = .ok (.string s2) w := fun w => by
        rw [HS.out, hf0, hs2]
        exact cat_run _ _ (by omega) w
      have hc3 : ∀ w : World, (Op.stringOp .add s2 (ByteArray.mk #[32, 124, 32])).run Try.prog w = .ok (.string s3) w := fun w => by
        rw [hs2, hs3]
        exact cat_run _ [32, 124, 32] (by simp only [List.length_cons, List.length_nil, List.length_append]; omega) w
      have HV := Lib.hid hs3
      have HLL := Lib.hid (show (L ++ L2 ++ [32, 124, 32]).length ≤ 195 * (i + 1) from by simp; omega)
      have HB3 := Lib.hid (HB2.out.trans (hb3.mono HB2.out.size))
      have HT2 : Hid (txt L2 = .string f0) := Lib.hid (by rw [hf0]; rfl)
      rw [HT2.out]
      clear hf0 hs2 hs3 hb3 hL hL2
      go_wp2
      go_roundw
      case rel => exact ⟨i + 1, s3, _, by omega, by go_num, rfl, HV.out, HLL.out, HB3.out⟩
      case measure => (simp [intOf]; try omega)
end Go.Proofs.Ytbcjhpgkodeoeaa

/- The reference reads rows of numbers from texts: some row. Conditions: short texts. -/
namespace Go.Proofs.Ytbcjhpgkodeoeaa
open Go.RowKit Go.Sort

/-- Some row of at most m numbers, with a yes or a no. -/
def GivesRow (m : Nat) (w : World) : Ending → World → Prop := fun e w' => ∃ v xs f b, e = .returned (.tuple #[v, .bool b]) ∧ OwnI 3 w' v xs f ∧ xs.length ≤ m ∧ (∀ g ∈ f, w.heap.size ≤ g) ∧ Below w.heap.size w w'

set_option maxRecDepth 100000 in
set_option maxHeartbeats 6400000 in
theorem sParNums_any (l : List UInt8) (s : ByteArray) (hs : s = ByteArray.mk l.toArray) (hl : l.length ≤ 1000) (w : World) : Calls Try.prog 65 #[.string s] w (GivesRow (l.length + 2) w) := by
  obtain ⟨ji, hji, hji0, hji1, hji2⟩ := info_parts Try.info_int
  obtain ⟨W0, hW0⟩ : ∃ W, W = w.alloc (.cells #[] 3) := ⟨_, rfl⟩
  have hb0 : Below w.heap.size w W0 := hW0 ▸ (Below.refl _ _).alloc (Nat.le_refl _) _
  have hsz : W0.heap.size = w.heap.size + 1 := by rw [hW0]; simp
  have ho0 : OwnI 3 W0 (.slice (some ⟨w.heap.size, 0, none⟩) 0 0) [] [w.heap.size] := hW0 ▸ own_lit (e := 3) w
  have CU := Lib.hid (sCut_any l 32 32 (by rfl) s hs (by omega) W0)
  have HW0 := Lib.hid hW0
  clear hW0 hs
  go_enter Try.func65, Try.ntmps65
  go_wp2_with fail
  rw [← HW0.out]
  refine CU.out.mono ?_
  rintro e w1 ⟨g, cap, n, rfl, hR⟩
  have hnl : n ≤ l.length + 2 := by have := hR.len; have := split_len l [32]; omega
  have hws : ∀ x ∈ Lib.split l [32], x.length ≤ l.length := split_small (by simp) l.length l (Nat.le_refl _)
  obtain ⟨g', cap', hv, hgW⟩ := hR.shape
  simp only [Value.slice.injEq, Option.some.injEq, Addr.mk.injEq, and_true, true_and] at hv
  obtain ⟨rfl, rfl⟩ := hv
  have hgl := (hR.row.lt g (by simp [Value.ownBlock])).2
  have HST := Lib.hid (show OwnI 3 w1 (.slice (some ⟨w.heap.size, 0, none⟩) 0 0) [] [w.heap.size] ∧ g ∉ [w.heap.size] ∧ w1.ownsRow 0 9 1 (.slice (some ⟨g, 0, none⟩) n cap) n ((Lib.split l [32]).map txt) ∧ Below w.heap.size w w1 from
    ⟨ownI_only ho0 (Only.of_below (fp := []) hR.below) (by simp), by simp; omega, hR.row, hb0.trans (hR.below.mono hb0.size)⟩)
  have HLEN := Lib.hid hR.len
  have HWS := Lib.hid hws
  clear hR hws ho0 hb0 CU hgW hgl hsz
  go_wp2
  go_loopw [4, 6] (fun so si wq => ∃ (i : Nat) (ys : List Int) (f : List Nat), i ≤ n ∧ si = .int .i64 i ∧ OwnI 3 wq so ys f ∧ ys.length = i ∧ g ∉ f ∧ (∀ b ∈ f, w.heap.size ≤ b) ∧ wq.ownsRow 0 9 1 (.slice (some ⟨g, 0, none⟩) n cap) n ((Lib.split l [32]).map txt) ∧ Below w.heap.size w wq) (fun _ si _ => n - (intOf si).toNat)
  case atStart => exact ⟨0, [], [w.heap.size], Nat.zero_le _, rfl, HST.out.1, rfl, HST.out.2.1, by simp, HST.out.2.2.1, HST.out.2.2.2⟩
  case round =>
    obtain ⟨wk, rfl⟩ : ∃ W, W = wr := ⟨_, rfl⟩
    obtain ⟨i, ys, f, hi, rfl, ho, hyl, hgf, hfn, hrow, hb⟩ := hrel
    clear HST
    obtain ⟨ada, la, ca, rfl, _, _, _, _, _, _⟩ := ownI_open ho
    by_cases hil : i < n
    case neg =>
      have HO := Lib.hid ho
      clear ho
      go_wp2
      go_ret2
      exact ⟨_, ys, f, true, rfl, HO.out, by omega, hfn, hb⟩
    obtain ⟨x, hx⟩ : ∃ x, (Lib.split l [32])[i]? = some x := ⟨_, List.getElem?_eq_getElem (by have := HLEN.out; omega)⟩
    obtain ⟨y, hy⟩ : ∃ y, y = ByteArray.mk x.toArray := ⟨_, rfl⟩
    have hcx : wk.cell? ⟨g, i, none⟩ = some (.string y) := by
      rw [hrow.cellAt i (by simp; have := HLEN.out; omega), List.getElem?_map, hx, hy]
      rfl
    have hxl := HWS.out x (List.mem_of_getElem? hx)
    have PN := Lib.hid (sParseNum_any x y hy (by omega) wk)
    have hgl := (hrow.lt g (by simp [Value.ownBlock])).2
    have HO := Lib.hid ho
    have HROW := Lib.hid hrow
    have HB := Lib.hid hb
    clear hx hy ho hrow hb
    cases hok : okI x with
    | false =>
      have HK := Lib.hid hok
      clear hok
      go_wp2_with fail
      refine PN.out.mono ?_
      rw [HK.out]
      rintro e w2 ⟨rfl, hb2⟩
      have HB2 := Lib.hid (HB.out.trans (hb2.mono HB.out.size))
      clear hb2
      go_wp2
      go_ret2
      exact ⟨.slice none 0 0, [], [], false, rfl, ⟨World.ownsRow_nil _ _ _ _, rfl, by simp⟩, by simp, by simp, HB2.out⟩
    | true =>
      have HK := Lib.hid hok
      clear hok
      go_wp2_with fail
      refine PN.out.mono ?_
      rw [HK.out]
      rintro e w2 ⟨rfl, hb2⟩
      have hal := below_lit1 w2 3 (numV x)
      have h2al := hb2.trans (hal.mono hb2.size)
      have hs2 := h2al.size
      have HOA := Lib.hid (ownI_only HO.out (Only.of_below (fp := []) h2al) (by simp))
      have HRA := Lib.hid (ownsRow_only HROW.out (Only.of_below (fp := []) h2al) (by simp))
      have HBA := Lib.hid (HB.out.trans (h2al.mono HB.out.size))
      have HSRC := Lib.hid (src_lit (e := 3) w2 (numV x) (numV_i64 x))
      have hlen : ys.length + 1 ≤ 1000000 := by omega
      have HAL := Lib.hid hlen
      clear hb2 hal h2al hlen
      go_wp2_with (first | (at_builtin; refine wpList_append_I _ (by rfl) _ _ 24 3 (by rfl) ji Try.underlying24 hji hji0 hji1 hji2 (v := .slice ada la ca) (vx := .slice (some ⟨w2.heap.size, 0, none⟩) 1 1) (by rfl) (by rfl) HOA.out HSRC.out HAL.out ?_; intro v' w' f' hv1 hv2 hv3; obtain ⟨adv, lv, cv, rfl, _⟩ := ownI_open hv1; have HV1 := Lib.hid hv1; have HV2 := Lib.hid hv2; have HV3 := Lib.hid hv3; clear hv1 hv2 hv3))
      all_goals (
        go_roundw
        case rel =>
          refine ⟨i + 1, _, f', by omega, by go_num, HV1.out, by simp; omega, fun hm => ?_, fun b hb => ?_, ownsRow_only HRA.out HV3.out (fun b hb hm => ?_), HBA.out.trans (HV3.out.below HBA.out.size (fun b hb => hfn b hb))⟩
          · rcases HV2.out g hm with h | h
            · exact hgf h
            · omega
          · rcases HV2.out b hb with h | h
            · exact hfn b h
            · have := HBA.out.size; omega
          · simp [Value.ownBlock] at hb
            subst hb
            exact hgf hm
        case measure => simp [intOf]; omega)
end Go.Proofs.Ytbcjhpgkodeoeaa
