/- The texts TTxt, TPar, TParT, KnoT in one: each says at its head what it proves. Conditions: as said there. -/
import Derived.Deep.Cut
import Derived.Deep.CutRange
import Derived.Test.YtbcjhpgkodeoeaaGreatDoorG25
import Derived.Test.YtbcjhpgkodeoeaaGreatDoorG07
import Derived.Test.YtbcjhpgkodeoeaaGreatDoorG15
import Derived.Test.YtbcjhpgkodeoeaaGreatDoorG04
import Derived.Test.YtbcjhpgkodeoeaaGreatDoorG28
import Derived.Test.YtbcjhpgkodeoeaaGreatDoorG03
import Derived.Test.YtbcjhpgkodeoeaaGreatDoorG17
set_option linter.unusedSimpArgs false
set_option linter.unusedVariables false
/- The reference's texts of rows of numbers, and of tableaus: some short text. Conditions: short rows. -/
namespace Go.Proofs.YtbcjhpgkodeoeaaGreatDoor
open Go.RowKit Go.Sort

/-- Some text of at most m bytes. -/
def Texts (m : Nat) (w : World) : Ending → World → Prop := fun e w' => ∃ L : List UInt8, e = .returned (txt L) ∧ L.length ≤ m ∧ Below w.heap.size w w'

set_option maxRecDepth 100000 in
set_option maxHeartbeats 3200000 in
theorem sFmtNums_any (v : Value) (xs : List Int) (w : World) (h : RdI w v xs) (hl : xs.length ≤ 1000) : Calls Tryz.prog 213 #[v] w (Texts (24 * xs.length) w) := by
  obtain ⟨ad, len, cap, rfl, hl0, hlc, hcm, h'⟩ := rdS_open h
  rw [hl0] at hl ⊢
  clear h hl0
  go_enter Tryz.func213, Tryz.ntmps213
  go_wp2
  go_loopw [3, 4] (fun ss si wq => ∃ (i : Nat) (s : ByteArray) (L : List UInt8), i ≤ len ∧ si = .int .i64 i ∧ ss = .string s ∧ s = ByteArray.mk L.toArray ∧ L.length ≤ 24 * i ∧ Below w.heap.size w wq) (fun _ si _ => len - (intOf si).toNat)
  case atStart => exact ⟨0, _, [], Nat.zero_le _, rfl, rfl, rfl, by simp, Below.refl _ _⟩
  case round =>
    obtain ⟨wk, rfl⟩ : ∃ W, W = wr := ⟨_, rfl⟩
    obtain ⟨i, s, L, hi, rfl, rfl, hs, hL, hb⟩ := hrel
    by_cases hil : i < len
    case neg =>
      have HE := Lib.hid (show Value.string s = txt L from by rw [hs]; rfl)
      clear hs
      go_wp2
      go_ret
      exact ⟨L, ret_eq HE.out, by omega, hb⟩
    obtain ⟨b5, off5, x, rfl, hx, hcx, hIx, _⟩ := rdI_get (rdI_mono hb h') hil
    cases hn : isNumB x with
    | false =>
      have N1 := Lib.hid (sIsNumber_eq hn wk)
      have HE := Lib.hid (show Value.string (ByteArray.mk #[]) = txt [] from rfl)
      clear hn hs
      go_wp2_with fail
      refine N1.out.mono ?_
      rintro e w1 ⟨rfl, rfl⟩
      go_wp2
      go_ret
      exact ⟨[], ret_eq HE.out, by simp, hb⟩
    | true =>
      have N1 := Lib.hid (sIsNumber_eq hn wk)
      obtain ⟨f0, hf0⟩ : ∃ f0, f0 = ByteArray.mk (fmtT x).toArray := ⟨_, rfl⟩
      have FN := Lib.hid (show Calls Tryz.prog 149 #[.int .i64 x] wk fun e w' => e = .returned (.string f0) ∧ Below wk.heap.size wk w' from by rw [hf0]; exact sFmtNum_any x wk)
      have hfl := fmtT_len x
      by_cases h0 : 0 < i
      · obtain ⟨s1, hs1⟩ : ∃ s1, s1 = ByteArray.mk (L ++ [32]).toArray := ⟨_, rfl⟩
        obtain ⟨s2, hs2⟩ : ∃ s2, s2 = ByteArray.mk (L ++ [32] ++ fmtT x).toArray := ⟨_, rfl⟩
        have hc1 : ∀ w : World, (Op.stringOp .add s (ByteArray.mk #[32])).run Tryz.prog w = .ok (.string s1) w := fun w => by
          rw [hs, hs1]
          exact cat_run _ [32] (by simp only [List.length_cons, List.length_nil]; omega) w
        have hc2 : ∀ w : World, (Op.stringOp .add s1 f0).run Tryz.prog w = .ok (.string s2) w := fun w => by
          rw [hs1, hf0, hs2]
          exact cat_run _ _ (by rw [List.length_append]; simp only [List.length_cons, List.length_nil]; omega) w
        have HN := Lib.hid (show ∃ L' : List UInt8, s2 = ByteArray.mk L'.toArray ∧ L'.length ≤ 24 * (i + 1) from ⟨_, hs2, by simp; omega⟩)
        have h0I : (0 : Int) < i := by omega
        have hb' := hb
        clear hn hs hs1 hs2 hf0 hfl hx
        go_wp2_with fail
        refine N1.out.mono ?_
        rintro e w1 ⟨rfl, rfl⟩
        go_wp2_with fail
        refine FN.out.mono ?_
        rintro e w2 ⟨rfl, hb2⟩
        have HB := Lib.hid (hb'.trans (hb2.mono hb'.size))
        clear hb2 hb hb' hcx
        go_wp2
        go_roundw
        case rel =>
          obtain ⟨L', h1, h2⟩ := HN.out
          exact ⟨i + 1, s2, L', by omega, by go_num, rfl, h1, h2, HB.out⟩
        case measure => (simp [intOf]; try omega)
      · obtain ⟨s2, hs2⟩ : ∃ s2, s2 = ByteArray.mk (L ++ fmtT x).toArray := ⟨_, rfl⟩
        have hc2 : ∀ w : World, (Op.stringOp .add s f0).run Tryz.prog w = .ok (.string s2) w := fun w => by
          rw [hs, hf0, hs2]
          exact cat_run _ _ (by omega) w
        have HN := Lib.hid (show ∃ L' : List UInt8, s2 = ByteArray.mk L'.toArray ∧ L'.length ≤ 24 * (i + 1) from ⟨_, hs2, by simp; omega⟩)
        have h0I : ¬ (0 : Int) < i := by omega
        have hb' := hb
        clear hn hs hs2 hf0 hfl hx
        go_wp2_with fail
        refine N1.out.mono ?_
        rintro e w1 ⟨rfl, rfl⟩
        go_wp2_with fail
        refine FN.out.mono ?_
        rintro e w2 ⟨rfl, hb2⟩
        have HB := Lib.hid (hb'.trans (hb2.mono hb'.size))
        clear hb2 hb hb' hcx
        go_wp2
        go_roundw
        case rel =>
          obtain ⟨L', h1, h2⟩ := HN.out
          exact ⟨i + 1, s2, L', by omega, by go_num, rfl, h1, h2, HB.out⟩
        case measure => (simp [intOf]; try omega)

set_option maxRecDepth 100000 in
set_option maxHeartbeats 6400000 in
theorem sFmtTab_any (v : Value) (t : TabZ) (w : World) (h : RdTab w v t) : Calls Tryz.prog 201 #[v] w (Texts 2000 w) := by
  have h0 := h
  obtain ⟨vA, vB, rfl, hI, hA, hB⟩ := h
  obtain ⟨adA, lA, cA, rfl⟩ := rdI_slice hA
  obtain ⟨adB, lB, cB, rfl, hlB, _, _, hB'⟩ := rdS_open hB
  obtain ⟨W0, hW0⟩ : ∃ W, W = w.alloc (.cells #[.int .i64 t.stages, .slice adA lA cA, .slice adB lB cB] 37) := ⟨_, rfl⟩
  have hb0 : Below w.heap.size w W0 := hW0 ▸ (Below.refl _ _).alloc (Nat.le_refl _) _
  have hc0 : W0.cell? ⟨w.heap.size, 0, none⟩ = some (.int .i64 t.stages) := by rw [hW0]; simp
  have hc1 : W0.cell? ⟨w.heap.size, 1, none⟩ = some (.slice adA lA cA) := by rw [hW0]; simp
  have hc2 : W0.cell? ⟨w.heap.size, 2, none⟩ = some (.slice adB lB cB) := by rw [hW0]; simp
  have hT := rdTab_mono hb0 h0
  have HW0 := Lib.hid hW0
  have HE : Hid (Value.string (ByteArray.mk #[]) = txt []) := Lib.hid rfl
  have HN : Hid (Value.string (ByteArray.mk #[110, 111, 110, 101]) = txt [110, 111, 110, 101]) := Lib.hid rfl
  have HLB := Lib.hid hlB
  clear hW0 hA hB h0 hlB
  cases hok : tabOkB t with
  | false =>
    have HK := Lib.hid (sTabOk_eq _ t W0 hT hok)
    have HB0 := Lib.hid hb0
    clear hok hT hb0
    go_enter Tryz.func201, Tryz.ntmps201
    go_wp2_with fail
    rw [← HW0.out]
    refine HK.out.mono ?_
    rintro e w1 ⟨rfl, hb1⟩
    have HB1 := Lib.hid (HB0.out.trans (hb1.mono HB0.out.size))
    clear hb1
    go_wp2
    go_ret
    exact ⟨[], ret_eq HE.out, by simp, HB1.out⟩
  | true =>
    have HK := Lib.hid (sTabOk_eq _ t W0 hT hok)
    obtain ⟨hs, hAn, hn8⟩ := tabOk_num hok
    obtain ⟨n, hn⟩ : ∃ n, n = t.B.length := ⟨_, rfl⟩
    have HOK := Lib.hid hok
    have HNB := Lib.hid hn
    have HSN := Lib.hid (show t.stages = (n : Int) from by omega)
    have HT := Lib.hid hT
    have HB0 := Lib.hid hb0
    rw [← hn] at hn8
    clear hok hb0 hs hAn hT hn
    by_cases hn0 : n = 0
    · have hzb : (t.stages == 0) = true := by rw [HSN.out, hn0]; rfl
      clear hn0
      go_enter Tryz.func201, Tryz.ntmps201
      go_wp2_with fail
      rw [← HW0.out]
      refine HK.out.mono ?_
      rintro e w1 ⟨rfl, hb1⟩
      have HB1 := Lib.hid (HB0.out.trans (hb1.mono HB0.out.size))
      have d0 := cell_below hb1 hc0
      clear hb1
      go_wp2
      go_ret
      exact ⟨_, ret_eq HN.out, by simp, HB1.out⟩
    have hzb : (t.stages == 0) = false := by rw [HSN.out]; simp; omega
    go_enter Tryz.func201, Tryz.ntmps201
    go_wp2_with fail
    rw [← HW0.out]
    refine HK.out.mono ?_
    rintro e w1 ⟨rfl, hb1⟩
    have HB1 := Lib.hid hb1
    have d0 := cell_below hb1 hc0
    clear hb1
    go_wp2
    go_loopw [3, 4] (fun ss si wq => ∃ (i : Nat) (s : ByteArray) (L : List UInt8), i ≤ n ∧ si = .int .i64 i ∧ ss = .string s ∧ s = ByteArray.mk L.toArray ∧ L.length ≤ 195 * i ∧ Below W0.heap.size W0 wq) (fun _ si _ => n - (intOf si).toNat)
    case atStart => exact ⟨0, _, [], Nat.zero_le _, rfl, rfl, rfl, by simp, HB1.out⟩
    case round =>
      obtain ⟨wk, rfl⟩ : ∃ W, W = wr := ⟨_, rfl⟩
      obtain ⟨i, s, L, hi, rfl, rfl, hs, hL, hb⟩ := hrel
      have HS := Lib.hid hs
      clear hs
      clear HB1 d0
      have e0 := cell_below hb hc0
      have e1 := cell_below hb hc1
      have e2 := cell_below hb hc2
      by_cases hil : i < n
      case neg =>
        obtain rfl : i = n := by omega
        have hiI : ¬ ((i : Int) < t.stages) := by rw [HSN.out]; omega
        have hlen : t.B.length ≤ 1000 := by have := HNB.out; omega
        have HF := Lib.hid (sFmtNums_any _ t.B wk (rdI_mono (HB0.out.trans (hb.mono HB0.out.size)) hB') hlen)
        have hLb : 24 * t.B.length ≤ 192 := by have := HNB.out; omega
        have hb' := HB0.out.trans (hb.mono HB0.out.size)
        clear hb
        go_wp2_with fail
        refine HF.out.mono ?_
        rintro e w2 ⟨L2, rfl, hL2, hb2⟩
        obtain ⟨f0, hf0⟩ : ∃ f0, f0 = ByteArray.mk L2.toArray := ⟨_, rfl⟩
        obtain ⟨s2, hs2⟩ : ∃ s2, s2 = ByteArray.mk (L ++ L2).toArray := ⟨_, rfl⟩
        have hc2 : ∀ w : World, (Op.stringOp .add s f0).run Tryz.prog w = .ok (.string s2) w := fun w => by
          rw [HS.out, hf0, hs2]
          exact cat_run _ _ (by omega) w
        have HV := Lib.hid (show Value.string s2 = txt (L ++ L2) from by rw [hs2]; rfl)
        have HB2 := Lib.hid (hb'.trans (hb2.mono hb'.size))
        have HT2 : Hid (txt L2 = .string f0) := Lib.hid (by rw [hf0]; rfl)
        rw [HT2.out]
        clear hf0 hs2 hb2
        go_wp2
        go_ret
        exact ⟨_, ret_eq HV.out, by simp; omega, HB2.out⟩
      have hiI : ((i : Int) < t.stages) := by rw [HSN.out]; omega
      have HR := Lib.hid (sRow_any _ t wk (rdTab_mono hb HT.out) HOK.out (i := i) (by have := HNB.out; omega))
      have hrl := rowZ_len (A := t.A) (n := n) (i := i) (by have := (tabOk_num HOK.out).2.1; rw [← HNB.out] at this; exact this) hil
      have HRL := Lib.hid hrl
      have HBK := Lib.hid hb
      clear hb hrl
      go_wp2_with fail
      refine HR.out.mono ?_
      rintro e w2 ⟨vr, rfl, hvr, hb2⟩
      have HB2 := Lib.hid (HBK.out.trans (hb2.mono HBK.out.size))
      obtain ⟨ar, lr, cr, rfl⟩ := rdI_slice hvr
      rw [← HNB.out] at hvr
      have HF := Lib.hid (sFmtNums_any _ _ w2 hvr (by rw [HRL.out]; omega))
      have hL24 : 24 * (rowZ t.A n i).length ≤ 192 := by rw [HRL.out]; omega
      clear hb2 hvr
      go_wp2_with fail
      refine HF.out.mono ?_
      rintro e w3 ⟨L2, rfl, hL2, hb3⟩
      obtain ⟨f0, hf0⟩ : ∃ f0, f0 = ByteArray.mk L2.toArray := ⟨_, rfl⟩
      obtain ⟨s2, hs2⟩ : ∃ s2, s2 = ByteArray.mk (L ++ L2).toArray := ⟨_, rfl⟩
      obtain ⟨s3, hs3⟩ : ∃ s3, s3 = ByteArray.mk (L ++ L2 ++ [32, 124, 32]).toArray := ⟨_, rfl⟩
      have hc2 : ∀ w : World, (Op.stringOp .add s f0).run Tryz.prog w = .ok (.string s2) w := fun w => by
        rw [HS.out, hf0, hs2]
        exact cat_run _ _ (by omega) w
      have hc3 : ∀ w : World, (Op.stringOp .add s2 (ByteArray.mk #[32, 124, 32])).run Tryz.prog w = .ok (.string s3) w := fun w => by
        rw [hs2, hs3]
        exact cat_run _ [32, 124, 32] (by simp only [List.length_cons, List.length_nil, List.length_append]; omega) w
      have HV := Lib.hid hs3
      have HLL := Lib.hid (show (L ++ L2 ++ [32, 124, 32]).length ≤ 195 * (i + 1) from by simp; omega)
      have HB3 := Lib.hid (HB2.out.trans (hb3.mono HB2.out.size))
      have HT2 : Hid (txt L2 = .string f0) := Lib.hid (by rw [hf0]; rfl)
      rw [HT2.out]
      clear hf0 hs2 hs3 hb3 hL hL2
      go_wp2
      go_roundw
      case rel => exact ⟨i + 1, s3, _, by omega, by go_num, rfl, HV.out, HLL.out, HB3.out⟩
      case measure => (simp [intOf]; try omega)
end Go.Proofs.YtbcjhpgkodeoeaaGreatDoor

/- The reference reads rows of numbers from texts: some row. Conditions: short texts. -/
namespace Go.Proofs.YtbcjhpgkodeoeaaGreatDoor
open Go.RowKit Go.Sort

/-- Some row of at most m numbers, with a yes or a no. -/
def GivesRow (m : Nat) (w : World) : Ending → World → Prop := fun e w' => ∃ v xs f b, e = .returned (.tuple #[v, .bool b]) ∧ OwnI 3 w' v xs f ∧ xs.length ≤ m ∧ (∀ g ∈ f, w.heap.size ≤ g) ∧ Below w.heap.size w w'

set_option maxRecDepth 100000 in
set_option maxHeartbeats 6400000 in
theorem sParNums_any (l : List UInt8) (s : ByteArray) (hs : s = ByteArray.mk l.toArray) (hl : l.length ≤ 1000) (w : World) : Calls Tryz.prog 200 #[.string s] w (GivesRow (l.length + 2) w) := by
  obtain ⟨ji, hji, hji0, hji1, hji2⟩ := info_parts Tryz.info_int
  obtain ⟨W0, hW0⟩ : ∃ W, W = w.alloc (.cells #[] 3) := ⟨_, rfl⟩
  have hb0 : Below w.heap.size w W0 := hW0 ▸ (Below.refl _ _).alloc (Nat.le_refl _) _
  have hsz : W0.heap.size = w.heap.size + 1 := by rw [hW0]; simp
  have ho0 : OwnI 3 W0 (.slice (some ⟨w.heap.size, 0, none⟩) 0 0) [] [w.heap.size] := hW0 ▸ own_lit (e := 3) w
  have CU := Lib.hid (sCut_any l 32 32 (by rfl) s hs (by omega) W0)
  have HW0 := Lib.hid hW0
  clear hW0 hs
  go_enter Tryz.func200, Tryz.ntmps200
  go_wp2_with fail
  rw [← HW0.out]
  refine CU.out.mono ?_
  rintro e w1 ⟨g, cap, n, rfl, hR⟩
  have hnl : n ≤ l.length + 2 := by have := hR.len; have := split_len l [32]; omega
  have hws : ∀ x ∈ Lib.split l [32], x.length ≤ l.length := split_small (by simp) l.length l (Nat.le_refl _)
  obtain ⟨g', cap', hv, hgW⟩ := hR.shape
  simp only [Value.slice.injEq, Option.some.injEq, Addr.mk.injEq, and_true, true_and] at hv
  obtain ⟨rfl, rfl⟩ := hv
  have hgl := (hR.row.lt g (by simp [Value.ownBlock])).2
  have HST := Lib.hid (show OwnI 3 w1 (.slice (some ⟨w.heap.size, 0, none⟩) 0 0) [] [w.heap.size] ∧ g ∉ [w.heap.size] ∧ w1.ownsRow 0 9 1 (.slice (some ⟨g, 0, none⟩) n cap) n ((Lib.split l [32]).map txt) ∧ Below w.heap.size w w1 from
    ⟨ownI_only ho0 (Only.of_below (fp := []) hR.below) (by simp), by simp; omega, hR.row, hb0.trans (hR.below.mono hb0.size)⟩)
  have HLEN := Lib.hid hR.len
  have HWS := Lib.hid hws
  clear hR hws ho0 hb0 CU hgW hgl hsz
  go_wp2
  go_loopw [4, 6] (fun so si wq => ∃ (i : Nat) (ys : List Int) (f : List Nat), i ≤ n ∧ si = .int .i64 i ∧ OwnI 3 wq so ys f ∧ ys.length = i ∧ g ∉ f ∧ (∀ b ∈ f, w.heap.size ≤ b) ∧ wq.ownsRow 0 9 1 (.slice (some ⟨g, 0, none⟩) n cap) n ((Lib.split l [32]).map txt) ∧ Below w.heap.size w wq) (fun _ si _ => n - (intOf si).toNat)
  case atStart => exact ⟨0, [], [w.heap.size], Nat.zero_le _, rfl, HST.out.1, rfl, HST.out.2.1, by simp, HST.out.2.2.1, HST.out.2.2.2⟩
  case round =>
    obtain ⟨wk, rfl⟩ : ∃ W, W = wr := ⟨_, rfl⟩
    obtain ⟨i, ys, f, hi, rfl, ho, hyl, hgf, hfn, hrow, hb⟩ := hrel
    clear HST
    obtain ⟨ada, la, ca, rfl, _, _, _, _, _, _⟩ := ownI_open ho
    by_cases hil : i < n
    case neg =>
      have HO := Lib.hid ho
      clear ho
      go_wp2
      go_ret2
      exact ⟨_, ys, f, true, rfl, HO.out, by omega, hfn, hb⟩
    obtain ⟨x, hx⟩ : ∃ x, (Lib.split l [32])[i]? = some x := ⟨_, List.getElem?_eq_getElem (by have := HLEN.out; omega)⟩
    obtain ⟨y, hy⟩ : ∃ y, y = ByteArray.mk x.toArray := ⟨_, rfl⟩
    have hcx : wk.cell? ⟨g, i, none⟩ = some (.string y) := by
      rw [hrow.cellAt i (by simp; have := HLEN.out; omega), List.getElem?_map, hx, hy]
      rfl
    have hxl := HWS.out x (List.mem_of_getElem? hx)
    have PN := Lib.hid (sParseNum_any x y hy (by omega) wk)
    have hgl := (hrow.lt g (by simp [Value.ownBlock])).2
    have HO := Lib.hid ho
    have HROW := Lib.hid hrow
    have HB := Lib.hid hb
    clear hx hy ho hrow hb
    cases hok : okI x with
    | false =>
      have HK := Lib.hid hok
      clear hok
      go_wp2_with fail
      refine PN.out.mono ?_
      rw [HK.out]
      rintro e w2 ⟨rfl, hb2⟩
      have HB2 := Lib.hid (HB.out.trans (hb2.mono HB.out.size))
      clear hb2
      go_wp2
      go_ret2
      exact ⟨.slice none 0 0, [], [], false, rfl, ⟨World.ownsRow_nil _ _ _ _, rfl, by simp⟩, by simp, by simp, HB2.out⟩
    | true =>
      have HK := Lib.hid hok
      clear hok
      go_wp2_with fail
      refine PN.out.mono ?_
      rw [HK.out]
      rintro e w2 ⟨rfl, hb2⟩
      have hal := below_lit1 w2 3 (numV x)
      have h2al := hb2.trans (hal.mono hb2.size)
      have hs2 := h2al.size
      have HOA := Lib.hid (ownI_only HO.out (Only.of_below (fp := []) h2al) (by simp))
      have HRA := Lib.hid (ownsRow_only HROW.out (Only.of_below (fp := []) h2al) (by simp))
      have HBA := Lib.hid (HB.out.trans (h2al.mono HB.out.size))
      have HSRC := Lib.hid (src_lit (e := 3) w2 (numV x) (numV_i64 x))
      have hlen : ys.length + 1 ≤ 1000000 := by omega
      have HAL := Lib.hid hlen
      clear hb2 hal h2al hlen
      go_wp2_with (first | (at_builtin; refine wpList_append_I _ (by rfl) _ _ 35 3 (by rfl) ji Tryz.underlying35 hji hji0 hji1 hji2 (v := .slice ada la ca) (vx := .slice (some ⟨w2.heap.size, 0, none⟩) 1 1) (by rfl) (by rfl) HOA.out HSRC.out HAL.out ?_; intro v' w' f' hv1 hv2 hv3; obtain ⟨adv, lv, cv, rfl, _⟩ := ownI_open hv1; have HV1 := Lib.hid hv1; have HV2 := Lib.hid hv2; have HV3 := Lib.hid hv3; clear hv1 hv2 hv3))
      all_goals (
        go_roundw
        case rel =>
          refine ⟨i + 1, _, f', by omega, by go_num, HV1.out, by simp; omega, fun hm => ?_, fun b hb => ?_, ownsRow_only HRA.out HV3.out (fun b hb hm => ?_), HBA.out.trans (HV3.out.below HBA.out.size (fun b hb => hfn b hb))⟩
          · rcases HV2.out g hm with h | h
            · exact hgf h
            · omega
          · rcases HV2.out b hb with h | h
            · exact hfn b h
            · have := HBA.out.size; omega
          · simp [Value.ownBlock] at hb
            subst hb
            exact hgf hm
        case measure => simp [intOf]; omega)
end Go.Proofs.YtbcjhpgkodeoeaaGreatDoor

/- The reference reads tableaus from texts: some tableau. Conditions: short texts. -/
namespace Go.Proofs.YtbcjhpgkodeoeaaGreatDoor
open Go.RowKit Go.Sort

theorem TBox.setSt {e N : Nat} {w : World} {Bt : Nat} {st st' : Int} {vA vB : Value} {A B : List Int} {fA fB : List Nat} (h : TBox e N w Bt st vA vB A B fA fB) : TBox e N (w.setCell ⟨Bt, 0, none⟩ (.int .i64 st')) Bt st' vA vB A B fA fB := by
  have hS : Only [Bt] w (w.setCell ⟨Bt, 0, none⟩ (.int .i64 st')) := (Only.refl _ _).setCell (by simp) _
  refine ⟨ownI_only h.ownA hS (fun b hb hm => (h.newA b hb).2 (List.mem_singleton.1 hm)), ownI_only h.ownB hS (fun b hb hm => (h.newB b hb).2 (List.mem_singleton.1 hm)), h.newA, h.newB, h.dis, h.hB, World.cell?_setCell_same _ _ _ h.c0, ?_, ?_, ?_, ?_, ?_⟩
  · exact (World.cell?_setCell_other _ _ _ _ (by simp)).trans h.c1
  · exact (World.cell?_setCell_other _ _ _ _ (by simp)).trans h.c2
  · rw [World.frozen?_setCell]; exact h.f1
  · rw [World.frozen?_setCell]; exact h.f2
  · rw [World.frozen?_setCell]; exact h.f0
/-- The second row is another one. -/
theorem TBox.setB {e N : Nat} {w : World} {Bt : Nat} {st : Int} {vA vB v' : Value} {A B B' : List Int} {fA fB f' : List Nat} (h : TBox e N w Bt st vA vB A B fA fB) (hv : OwnI e w v' B' f') (hf : ∀ b ∈ f', N ≤ b ∧ b ≠ Bt ∧ b ∉ fA) : TBox e N (w.setCell ⟨Bt, 2, none⟩ v') Bt st vA v' A B' fA f' := by
  have hS : Only [Bt] w (w.setCell ⟨Bt, 2, none⟩ v') := (Only.refl _ _).setCell (by simp) _
  refine ⟨ownI_only h.ownA hS (fun b hb hm => (h.newA b hb).2 (List.mem_singleton.1 hm)), ownI_only hv hS (fun b hb hm => (hf b hb).2.1 (List.mem_singleton.1 hm)), h.newA, fun b hb => ⟨(hf b hb).1, (hf b hb).2.1⟩, fun b hb hm => (hf b hm).2.2 hb, h.hB, ?_, ?_, World.cell?_setCell_same _ _ _ h.c2, ?_, ?_, ?_⟩
  · exact (World.cell?_setCell_other _ _ _ _ (by simp)).trans h.c0
  · exact (World.cell?_setCell_other _ _ _ _ (by simp)).trans h.c1
  · rw [World.frozen?_setCell]; exact h.f1
  · rw [World.frozen?_setCell]; exact h.f2
  · rw [World.frozen?_setCell]; exact h.f0
theorem cut_txt {s : ByteArray} {l : List UInt8} (hs : s = ByteArray.mk l.toArray) (a b : Nat) : s.extract a b = ByteArray.mk ((l.drop a).take (b - a)).toArray := by
  have := str_cut hs a b
  unfold txt at this
  injection this
/-- What the loop keeps: the box, the words, the result's box. -/
structure PTab (W0 wq : World) (g n cap Bt : Nat) (ws : List (List UInt8)) (vA vB : Value) (A B : List Int) (fA fB : List Nat) (i : Nat) : Prop where
  box : TBox 3 W0.heap.size wq Bt ((n : Int) - 1) vA vB A B fA fB
  ga : g ∉ fA
  gb : g ∉ fB
  gt : g ≠ Bt
  row : wq.ownsRow 0 9 1 (.slice (some ⟨g, 0, none⟩) n cap) n (ws.map txt)
  len : A.length ≤ 110 * i
  below : Below W0.heap.size W0 wq
theorem PTab.bel {W0 wq wr : World} {g n cap Bt : Nat} {ws : List (List UInt8)} {vA vB : Value} {A B : List Int} {fA fB : List Nat} {i : Nat} (h : PTab W0 wq g n cap Bt ws vA vB A B fA fB i) (hb : Below wq.heap.size wq wr) : PTab W0 wr g n cap Bt ws vA vB A B fA fB i :=
  ⟨h.box.bel hb, h.ga, h.gb, h.gt, ownsRow_only h.row (Only.of_below (fp := []) hb) (by simp), h.len, h.below.trans (hb.mono h.below.size)⟩
theorem PTab.lt {W0 wq : World} {g n cap Bt : Nat} {ws : List (List UInt8)} {vA vB : Value} {A B : List Int} {fA fB : List Nat} {i : Nat} (h : PTab W0 wq g n cap Bt ws vA vB A B fA fB i) : g < wq.heap.size := (h.row.lt g (by simp [Value.ownBlock])).2

set_option maxRecDepth 100000 in
set_option maxHeartbeats 12800000 in
theorem sParTab_any (l : List UInt8) (s : ByteArray) (hs : s = ByteArray.mk l.toArray) (hl : l.length ≤ 100) (w : World) : Calls Tryz.prog 169 #[.string s] w (GivesTab 3 w) := by
  obtain ⟨ji, hji, hji0, hji1, hji2⟩ := info_parts Tryz.info_int
  obtain ⟨W0, hW0⟩ : ∃ W, W = w.alloc (.cells #[.int .i64 0, .slice none 0 0, .slice none 0 0] 37) := ⟨_, rfl⟩
  have hb0 : Below w.heap.size w W0 := hW0 ▸ (Below.refl _ _).alloc (Nat.le_refl _) _
  have hsz : W0.heap.size = w.heap.size + 1 := by rw [hW0]; simp
  obtain ⟨W1, hW1⟩ : ∃ W, W = W0.alloc (.cells #[.int .i64 0, .slice none 0 0, .slice none 0 0] 37) := ⟨_, rfl⟩
  have hb1 : Below W0.heap.size W0 W1 := hW1 ▸ (Below.refl _ _).alloc (Nat.le_refl _) _
  have hsz1 : W1.heap.size = W0.heap.size + 1 := by rw [hW1]; simp
  have hT0 : TBox 3 W0.heap.size W1 W0.heap.size 0 (.slice none 0 0) (.slice none 0 0) [] [] [] [] := hW1 ▸ TBox.new (Nat.le_refl _)
  have HR := Lib.hid (fun (W : World) (hW : Below W0.heap.size W0 W) => rbox (w := w) (e := 37) (W := W) (a := .int .i64 0) (b := .slice none 0 0) (c := .slice none 0 0) (hW0 ▸ hW))
  have HNO := Lib.hid (fun (W : World) (hW : Below w.heap.size w W) => show GivesTab 3 w (.returned (.tuple #[.agg #[.int .i64 0, .slice none 0 0, .slice none 0 0], .bool false])) W from ⟨_, ⟨0, [], []⟩, [], false, rfl, tab_nil _, by simp, hW⟩)
  have CU := Lib.hid (sCut_any l 124 124 (by rfl) s hs (by omega) W1)
  have HW : Hid (W1 = (w.alloc (.cells #[.int .i64 0, .slice none 0 0, .slice none 0 0] 37)).alloc (.cells #[.int .i64 0, .slice none 0 0, .slice none 0 0] 37)) := Lib.hid (by rw [hW1, hW0])
  have HSZ := Lib.hid hsz
  have HB0 := Lib.hid hb0
  have HS := Lib.hid hs
  clear hW0 hs
  go_enter Tryz.func169, Tryz.ntmps169
  go_wp2_with fail
  rw [← HW.out]
  refine CU.out.mono ?_
  rintro e w1 ⟨g, cap, n, rfl, hR⟩
  have hnl : n ≤ 102 := by have := hR.len; have := split_len l [124]; omega
  have hn1 : 1 ≤ n := by have := hR.len; have := List.length_pos_iff.2 (split_ne l [124]); omega
  have hws : ∀ x ∈ Lib.split l [124], x.length ≤ 100 := fun x hx => Nat.le_trans (split_small (by simp) l.length l (Nat.le_refl _) x hx) hl
  obtain ⟨g', cap', hv, hgW⟩ := hR.shape
  simp only [Value.slice.injEq, Option.some.injEq, Addr.mk.injEq, and_true, true_and] at hv
  obtain ⟨rfl, rfl⟩ := hv
  have hT1 := hT0.bel hR.below
  have hd0 := hT1.c0
  have hg0 := hT1.f0
  have hgt : g ≠ W0.heap.size := by omega
  have hw1 : IntKind.i64.wrap ((n : Int) - 1) = (n : Int) - 1 := IntWalk.i64_in _ (by omega)
  have hS : Only [W0.heap.size] w1 (w1.setCell ⟨W0.heap.size, 0, none⟩ (.int .i64 ((n : Int) - 1))) := (Only.refl _ _).setCell (by simp) _
  have HPT := Lib.hid (show PTab W0 (w1.setCell ⟨W0.heap.size, 0, none⟩ (.int .i64 ((n : Int) - 1))) g n cap W0.heap.size (Lib.split l [124]) (.slice none 0 0) (.slice none 0 0) [] [] [] [] 0 from
    ⟨hT1.setSt, by simp, by simp, hgt, ownsRow_only hR.row hS (by simp [Value.ownBlock]; exact hgt), by simp, (hb1.trans (hR.below.mono hb1.size)).setCell (Nat.le_refl _) _⟩)
  have HLEN := Lib.hid hR.len
  have HWS := Lib.hid hws
  rw [hsz] at hd0 hg0
  clear hR hws hT0 hT1 hb1 hgt hgW hS CU hsz1 hW1 hsz hb0
  obtain ⟨Bt, hBt⟩ : ∃ B, B = w.heap.size + 1 := ⟨_, rfl⟩
  rw [← hBt] at hd0 hg0
  have HBt := Lib.hid (show W0.heap.size = Bt from HSZ.out.trans hBt.symm)
  rw [← hBt]
  clear hBt
  go_upto_region 4 with fail
  have HPT' := HPT.out
  rw [HBt.out] at HPT'
  have HPT := Lib.hid HPT'
  have hBw : w.heap.size ≠ Bt := by have := HBt.out; have := HSZ.out; omega
  clear HPT' hd0 hg0 hw1
  obtain ⟨bn, hbn⟩ : ∃ b, (s.toList == [110, 111, 110, 101]) = b := ⟨_, rfl⟩
  go_wp2
  go_loopw [6] (fun si wq => ∃ (i : Nat) (vA vB : Value) (A B : List Int) (fA fB : List Nat), i ≤ n ∧ si = .int .i64 i ∧ PTab W0 wq g n cap Bt (Lib.split l [124]) vA vB A B fA fB i) (fun si _ => n - (intOf si).toNat)
  case atStart => exact ⟨0, _, _, [], [], [], [], Nat.zero_le _, rfl, HPT.out⟩
  case round =>
    obtain ⟨wk, rfl⟩ : ∃ W, W = wr := ⟨_, rfl⟩
    obtain ⟨i, vA, vB, A, B, fA, fB, hi, rfl, hP⟩ := hrel
    clear HPT
    obtain ⟨ad1, l1, c1', rfl, _, _, _, _, _, _⟩ := ownI_open hP.box.ownA
    obtain ⟨ad2, l2, c2', rfl, _, _, _, _, _, _⟩ := ownI_open hP.box.ownB
    have k0 := hP.box.c0
    have k1 := hP.box.c1
    have k2 := hP.box.c2
    have HP := Lib.hid hP
    clear hP
    by_cases hil : i < n
    case neg =>
      have hiI : ¬ ((i : Int) < n) := by omega
      cases he : l.isEmpty with
      | true =>
        have hse : s.toList.isEmpty = true := (str_empty HS.out).trans he
        obtain ⟨⟨x0, hr0⟩, ⟨x1, hr1⟩, ⟨x2, hr2⟩, hf0, hf1, hf2⟩ := HR.out wk HP.out.below
        have HB := Lib.hid (HB0.out.trans (HP.out.below.mono HB0.out.size))
        clear he
        go_wp2
        exact bodyPost_ret (v := .tuple #[.agg #[.int .i64 0, .slice none 0 0, .slice none 0 0], .bool false]) (by simp [results, Tryz.results169, go_sem, hr0, hr1, hr2]) rfl (HNO.out _ (((HB.out.setCell (by simp) _).setCell (by simp) _).setCell (by simp) _))
      | false =>
        have hse : s.toList.isEmpty = false := (str_empty HS.out).trans he
        have hTab := (HP.out.box.tab (w' := wk) (fp := []) ⟨by omega, by omega⟩ (Only.refl _ _) (by simp)).1
        have FT := Lib.hid (sFmtTab_any _ _ wk (ownTab_rd hTab))
        clear he hTab
        go_wp2_with fail
        refine FT.out.mono ?_
        rintro e w2 ⟨L2, rfl, _, hb2⟩
        obtain ⟨u, hu⟩ : ∃ u, txt L2 = .string u := ⟨_, rfl⟩
        rw [hu]
        have HP2 := Lib.hid (HP.out.bel hb2)
        obtain ⟨⟨x0, hr0⟩, ⟨x1, hr1⟩, ⟨x2, hr2⟩, hf0, hf1, hf2⟩ := HR.out w2 HP2.out.below
        have HB := Lib.hid (HB0.out.trans (HP2.out.below.mono HB0.out.size))
        have k0' := HP2.out.box.c0
        have k1' := HP2.out.box.c1
        have k2' := HP2.out.box.c2
        clear hu hb2 k0 k1 k2
        obtain ⟨bq, hbq⟩ : ∃ b, (u.toList == s.toList) = b := ⟨_, rfl⟩
        cases bq with
        | false =>
          go_wp2
          exact bodyPost_ret (v := .tuple #[.agg #[.int .i64 0, .slice none 0 0, .slice none 0 0], .bool false]) (by simp [results, Tryz.results169, go_sem, hr0, hr1, hr2]) rfl (HNO.out _ (((HB.out.setCell (by simp) _).setCell (by simp) _).setCell (by simp) _))
        | true =>
          go_wp2
          refine bodyPost_ret (v := .tuple #[.agg #[.int .i64 ((n : Int) - 1), .slice ad1 l1 c1', .slice ad2 l2 c2'], .bool true]) (by simp [results, Tryz.results169, go_sem, hr0, hr1, hr2]) rfl ?_
          have ho : Only [w.heap.size] w2 (((w2.setCell ⟨w.heap.size, 0, none⟩ (.int .i64 ((n : Int) - 1))).setCell ⟨w.heap.size, 1, none⟩ (.slice ad1 l1 c1')).setCell ⟨w.heap.size, 2, none⟩ (.slice ad2 l2 c2')) := (((Only.refl _ _).setCell (by simp) _).setCell (by simp) _).setCell (by simp) _
          have hsz := HSZ.out
          obtain ⟨t1, t2⟩ := HP2.out.box.tab ⟨by omega, by omega⟩ ho (by simp; omega)
          exact ⟨_, _, _, true, rfl, t1, fun b hb => by have := t2 b hb; omega, ((HB.out.setCell (Nat.le_refl _) _).setCell (Nat.le_refl _) _).setCell (Nat.le_refl _) _⟩
    have hiI : (i : Int) < n := by omega
    cases bn with
    | true =>
      cases he : l.isEmpty with
      | true =>
        have hse : s.toList.isEmpty = true := (str_empty HS.out).trans he
        obtain ⟨⟨x0, hr0⟩, ⟨x1, hr1⟩, ⟨x2, hr2⟩, hf0, hf1, hf2⟩ := HR.out wk HP.out.below
        have HB := Lib.hid (HB0.out.trans (HP.out.below.mono HB0.out.size))
        clear he
        go_wp2
        exact bodyPost_ret (v := .tuple #[.agg #[.int .i64 0, .slice none 0 0, .slice none 0 0], .bool false]) (by simp [results, Tryz.results169, go_sem, hr0, hr1, hr2]) rfl (HNO.out _ (((HB.out.setCell (by simp) _).setCell (by simp) _).setCell (by simp) _))
      | false =>
        have hse : s.toList.isEmpty = false := (str_empty HS.out).trans he
        have hTab := (HP.out.box.tab (w' := wk) (fp := []) ⟨by omega, by omega⟩ (Only.refl _ _) (by simp)).1
        have FT := Lib.hid (sFmtTab_any _ _ wk (ownTab_rd hTab))
        clear he hTab
        go_wp2_with fail
        refine FT.out.mono ?_
        rintro e w2 ⟨L2, rfl, _, hb2⟩
        obtain ⟨u, hu⟩ : ∃ u, txt L2 = .string u := ⟨_, rfl⟩
        rw [hu]
        have HP2 := Lib.hid (HP.out.bel hb2)
        obtain ⟨⟨x0, hr0⟩, ⟨x1, hr1⟩, ⟨x2, hr2⟩, hf0, hf1, hf2⟩ := HR.out w2 HP2.out.below
        have HB := Lib.hid (HB0.out.trans (HP2.out.below.mono HB0.out.size))
        have k0' := HP2.out.box.c0
        have k1' := HP2.out.box.c1
        have k2' := HP2.out.box.c2
        clear hu hb2 k0 k1 k2
        obtain ⟨bq, hbq⟩ : ∃ b, (u.toList == s.toList) = b := ⟨_, rfl⟩
        cases bq with
        | false =>
          go_wp2
          exact bodyPost_ret (v := .tuple #[.agg #[.int .i64 0, .slice none 0 0, .slice none 0 0], .bool false]) (by simp [results, Tryz.results169, go_sem, hr0, hr1, hr2]) rfl (HNO.out _ (((HB.out.setCell (by simp) _).setCell (by simp) _).setCell (by simp) _))
        | true =>
          go_wp2
          refine bodyPost_ret (v := .tuple #[.agg #[.int .i64 ((n : Int) - 1), .slice ad1 l1 c1', .slice ad2 l2 c2'], .bool true]) (by simp [results, Tryz.results169, go_sem, hr0, hr1, hr2]) rfl ?_
          have ho : Only [w.heap.size] w2 (((w2.setCell ⟨w.heap.size, 0, none⟩ (.int .i64 ((n : Int) - 1))).setCell ⟨w.heap.size, 1, none⟩ (.slice ad1 l1 c1')).setCell ⟨w.heap.size, 2, none⟩ (.slice ad2 l2 c2')) := (((Only.refl _ _).setCell (by simp) _).setCell (by simp) _).setCell (by simp) _
          have hsz := HSZ.out
          obtain ⟨t1, t2⟩ := HP2.out.box.tab ⟨by omega, by omega⟩ ho (by simp; omega)
          exact ⟨_, _, _, true, rfl, t1, fun b hb => by have := t2 b hb; omega, ((HB.out.setCell (Nat.le_refl _) _).setCell (Nat.le_refl _) _).setCell (Nat.le_refl _) _⟩
    | false =>
      obtain ⟨x, hx⟩ : ∃ x, (Lib.split l [124])[i]? = some x := ⟨_, List.getElem?_eq_getElem (by have := HLEN.out; omega)⟩
      obtain ⟨y, hy⟩ : ∃ y, y = ByteArray.mk x.toArray := ⟨_, rfl⟩
      have hcx : wk.cell? ⟨g, i, none⟩ = some (.string y) := by
        rw [HP.out.row.cellAt i (by simp; have := HLEN.out; omega), List.getElem?_map, hx, hy]
        rfl
      have hxl := HWS.out x (List.mem_of_getElem? hx)
      obtain ⟨k, hk⟩ : ∃ k, k = x.length := ⟨_, rfl⟩
      have hys : y.size = k := by rw [str_size hy, hk]
      have hk100 : k ≤ 100 := by omega
      have HY := Lib.hid (show ∃ L : List UInt8, y = ByteArray.mk L.toArray ∧ L.length = k from ⟨x, hy, hk.symm⟩)
      clear hx hy hxl hk
      go_upto_region 8 with fail
      go_cut [37] from 17 to 71 (fun s37 wx => ∃ b : Bool, s37 = .bool b ∧ (b = true → 0 < k) ∧ wx = wk)
      case first =>
        by_cases hi0 : (0 : Int) < i
        · by_cases hk0 : (0 : Int) < k
          · go_wp2
            go_meet
            exact ⟨_, rfl, fun _ => by omega, rfl⟩
          · go_wp2
            go_meet
            exact ⟨_, rfl, fun h => by simp at h; omega, rfl⟩
        · go_wp2
          go_meet
          exact ⟨_, rfl, fun h => by simp at h, rfl⟩
      case rest =>
        obtain ⟨b, rfl, hbk, rfl⟩ := hcut
        go_upto_if 37 with fail
        go_cut [7] from 17 to 71 (fun s7 wx => ∃ (q : ByteArray) (L : List UInt8), s7 = .string q ∧ q = ByteArray.mk L.toArray ∧ L.length ≤ 100 ∧ wx = wc)
        case first =>
          cases b with
          | true =>
            have hk0 : 1 ≤ k := by have := hbk rfl; omega
            have hk0I : (1 : Int) ≤ k := by omega
            go_wp2
            go_meet
            obtain ⟨L, h1, h2⟩ := HY.out
            exact ⟨_, (L.drop 1).take (k - 1), rfl, cut_txt h1 1 k, by rw [List.length_take, List.length_drop]; omega, rfl⟩
          | false =>
            go_wp2
            go_meet
            obtain ⟨L, h1, h2⟩ := HY.out
            exact ⟨_, L, rfl, h1, by omega, rfl⟩
        case rest =>
          rename_i wc1
          obtain ⟨q, L, rfl, hq, hL, hwc⟩ := hcut
          subst hwc
          clear hbk hys hcx HY
          obtain ⟨kk, hkk⟩ : ∃ kk, kk = L.length := ⟨_, rfl⟩
          have hqs : q.size = kk := by rw [str_size hq, hkk]
          have hk2l : kk ≤ 100 := by omega
          have HQ := Lib.hid (show ∃ L : List UInt8, q = ByteArray.mk L.toArray ∧ L.length = kk from ⟨L, hq, hkk.symm⟩)
          clear hq hL hkk
          go_upto_region 10 with fail
          go_cut [49] from 17 to 71 (fun s49 wx => ∃ b : Bool, s49 = .bool b ∧ (b = true → 0 < kk) ∧ wx = wc)
          case first =>
            by_cases hi0 : (i : Int) + 1 < n
            · by_cases hk0 : (0 : Int) < kk
              · go_wp2
                go_meet
                exact ⟨_, rfl, fun _ => by omega, rfl⟩
              · go_wp2
                go_meet
                exact ⟨_, rfl, fun h => by simp at h; omega, rfl⟩
            · go_wp2
              go_meet
              exact ⟨_, rfl, fun h => by simp at h, rfl⟩
          case rest =>
            obtain ⟨b2, rfl, hbk2, hwc⟩ := hcut
            subst hwc
            go_upto_if 49 with fail
            go_cut [7] from 17 to 71 (fun s7 wx => ∃ (q : ByteArray) (L : List UInt8), s7 = .string q ∧ q = ByteArray.mk L.toArray ∧ L.length ≤ 100 ∧ wx = wc)
            case first =>
              cases b2 with
              | true =>
                have hk0 : 1 ≤ kk := by have := hbk2 rfl; omega
                have hk0I : (1 : Int) ≤ kk := by omega
                go_wp2
                go_meet
                obtain ⟨L, h1, h2⟩ := HQ.out
                exact ⟨_, (L.drop 0).take (kk - 1 - 0), rfl, cut_txt h1 0 (kk - 1), by rw [List.length_take, List.length_drop]; omega, rfl⟩
              | false =>
                go_wp2
                go_meet
                obtain ⟨L, h1, h2⟩ := HQ.out
                exact ⟨_, L, rfl, h1, by omega, rfl⟩
            case rest =>
              obtain ⟨q3, L3, rfl, hq3, hL3, hwc⟩ := hcut
              subst hwc
              obtain ⟨wv, hwv⟩ : ∃ W, W = wc := ⟨_, rfl⟩
              rw [← hwv] at HP k0 k1 k2 ⊢
              have PN := Lib.hid (sParNums_any L3 q3 hq3 (by omega) wv)
              clear hq3 hbk2 hqs HQ hwv
              go_wp2_with fail
              refine PN.out.mono ?_
              rintro e w2 ⟨vx, zs, fz, bz, rfl, hoz, hzl, hfz, hb2⟩
              obtain ⟨adz, lz, cz, rfl, _, _, _, _, _, _⟩ := ownI_open hoz
              have HP2 := Lib.hid (HP.out.bel hb2)
              have k0' := HP2.out.box.c0
              have k1' := HP2.out.box.c1
              have k2' := HP2.out.box.c2
              have hf1 := HP2.out.box.f1
              have hf2 := HP2.out.box.f2
              have hgl := HP.out.lt
              have hltA := ownI_lt HP.out.box.ownA
              have hNs := HP.out.below.size
              have hBl := tbox_lt HP.out.box
              have hs2 := hb2.size
              have HOZ := Lib.hid hoz
              have HFZ := Lib.hid (show ∀ b ∈ fz, W0.heap.size ≤ b ∧ b ≠ Bt ∧ b ∉ fA ∧ b ≠ g from fun b hb => by
                have := hfz b hb
                exact ⟨by omega, by omega, fun hm => by have := hltA b hm; omega, by omega⟩)
              have HAL := Lib.hid (show A.length + zs.length ≤ 1000000 from by have := HP.out.len; omega)
              have HAN := Lib.hid (show (A ++ zs).length ≤ 110 * (i + 1) from by have := HP.out.len; simp; omega)
              clear hoz hzl hfz hb2 k0 k1 k2 hltA
              by_cases hi1 : (i : Int) + 1 < n
              · go_wp2_with (first | (at_builtin; refine wpList_append_I _ (by rfl) _ _ 35 3 (by rfl) ji Tryz.underlying35 hji hji0 hji1 hji2 (v := .slice ad1 l1 c1') (vx := .slice adz lz cz) (by rfl) (by rfl) HP2.out.box.ownA (srcI_own HOZ.out) HAL.out ?_; intro v' w' f' hv1 hv2 hv3; obtain ⟨adv, lv, cv, rfl, _⟩ := ownI_open hv1; obtain ⟨⟨hk1, hk2⟩, hTB, hon⟩ := HP2.out.box.putA hv3 hv1 hv2 HP2.out.below.size; have HTB := Lib.hid hTB; have HON := Lib.hid hon; have HV2 := Lib.hid hv2; clear hv1 hv2 hv3 hTB hon))
                all_goals (
                  go_roundw
                  case rel =>
                    refine ⟨i + 1, _, _, A ++ zs, B, f', fB, by omega, by go_num, HTB.out, fun hm => ?_, HP2.out.gb, HP2.out.gt, ownsRow_only HP2.out.row HON.out (fun b hb hm => ?_), HAN.out, HP2.out.below.trans (HON.out.below HP2.out.below.size (fun b hb => ?_))⟩
                    · rcases HV2.out g hm with h | h
                      · exact HP2.out.ga h
                      · omega
                    · simp [Value.ownBlock] at hb
                      subst hb
                      rcases List.mem_cons.1 hm with h | h
                      · exact HP2.out.gt h
                      · exact HP2.out.ga h
                    · rcases List.mem_cons.1 hb with rfl | hb
                      · exact HP2.out.box.hB
                      · exact (HP2.out.box.newA b hb).1
                  case measure => simp [intOf]; omega)
              · go_wp2
                go_roundw
                case rel =>
                  have hS : Only [Bt] w2 (w2.setCell ⟨Bt, 2, none⟩ (.slice adz lz cz)) := (Only.refl _ _).setCell (by simp) _
                  refine ⟨i + 1, _, _, A, zs, fA, fz, by omega, by go_num, HP2.out.box.setB HOZ.out (fun b hb => ⟨(HFZ.out b hb).1, (HFZ.out b hb).2.1, (HFZ.out b hb).2.2.1⟩), HP2.out.ga, fun hm => (HFZ.out g hm).2.2.2 rfl, HP2.out.gt, ownsRow_only HP2.out.row hS (fun b hb hm => ?_), by have := HP2.out.len; omega, HP2.out.below.setCell (by have := HP2.out.box.hB; exact this) _⟩
                  simp [Value.ownBlock] at hb
                  subst hb
                  exact HP2.out.gt (List.mem_singleton.1 hm)
                case measure => simp [intOf]; omega
end Go.Proofs.YtbcjhpgkodeoeaaGreatDoor

/- The reference's texts of tableaus with a name. Conditions: none. -/
namespace Go.Proofs.YtbcjhpgkodeoeaaGreatDoor
open Go.RowKit

def GivesText (m : Nat) (w : World) : Ending → World → Prop := fun e w' => ∃ l : List UInt8, e = .returned (txt l) ∧ l.length ≤ m ∧ Below w.heap.size w w'
theorem gives_text {m : Nat} (w : World) (l : List UInt8) (v : Value) (h : v = txt l) (hm : l.length ≤ m) : GivesText m w (.returned v) w := ⟨l, by rw [h], hm, Below.refl _ _⟩
set_option maxHeartbeats 1600000 in
theorem l7Text_any (s : ByteArray) (w : World) : Calls Tryz.prog 168 #[.string s] w (GivesText 100 w) := by
  go_enter Tryz.func168, Tryz.ntmps168
  go_wp2
  all_goals go_ret
  all_goals exact gives_text _ _ _ (by with_unfolding_all rfl) (by decide)
end Go.Proofs.YtbcjhpgkodeoeaaGreatDoor
