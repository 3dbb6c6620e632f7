/- The law FnFieldText returns true for every text of bytes, and changes nothing that was there. Conditions: the cell of a variable of the library's own holds some number. -/
import Derived.Test.YtbcjhpgkodeoeaaGreatDoorG34
import Derived.Test.YtbcjhpgkodeoeaaGreatDoorG38
import Derived.Test.YtbcjhpgkodeoeaaGreatDoorG39
import Derived.Test.YtbcjhpgkodeoeaaGreatDoorG42
import Derived.Test.YtbcjhpgkodeoeaaGreatDoorG43
import Derived.Test.YtbcjhpgkodeoeaaGreatDoorG47
import Derived.Test.YtbcjhpgkodeoeaaGreatDoorG48
import Derived.Test.YtbcjhpgkodeoeaaGreatDoorG09
set_option linter.unusedSimpArgs false
set_option linter.unusedVariables false

namespace Go.Proofs.YtbcjhpgkodeoeaaGreatDoor
open Go.ChangeShapes Go.WideShapes Go.ChangeAt Go.RowKit Go.Sort

theorem fit_ok {f : FldZ} (h : fldOkB f = true) : ∀ p ∈ f.parts, ∀ m ∈ p, Fit_Mon m := fun p hp m hm => by
  obtain ⟨n, _, _, _, hn6, hq⟩ := fldOk_parts h
  have := ((hq p hp).2 m hm).2.1
  unfold Fit_Mon
  omega
theorem parB_okF {l : List UInt8} (h : parB l = true) : fldOkB (parF l) = true ∧ fldT (parF l) = l := by
  have hF := parF_yes h
  have h2 := h
  cases hl : l.isEmpty with
  | true => rw [parB_nil hl] at h; cases h
  | false =>
    rw [parB_cons hl, decide_eq_true_eq] at h
    rw [hF]
    refine ⟨?_, h⟩
    cases ho : fldOkB (sFld l) with
    | true => rfl
    | false =>
      rw [fldT_no' ho] at h
      rw [← h] at hl
      simp at hl
theorem str_len (s : ByteArray) : s.data.toList.length = s.size := rfl
/-- What the law asks of the texts, the definitions out of sight. -/
theorem txt_c (l : List UInt8) : ∃ (F : FldZ) (B : Bool), F = parF l ∧ B = parB l := ⟨_, _, rfl, rfl⟩

theorem pathAtL_row {xs : List (List Int)} {n m : Nat} (h : Int) (hpr : PathRow n m xs) (h1 : 1 ≤ n) (h6 : n ≤ 6) (hm1 : 1 ≤ m) (hm7 : m ≤ 7) : pathAtL xs h = pathAtZ h xs n := by
  obtain ⟨hl, hr⟩ := hpr
  have hrow : ∀ x ∈ xs, rowOkB (n : Int) x = true := fun x hx => by
    obtain ⟨e1, e2⟩ := hr x hx
    simp only [rowOkB, e1, decide_true, Bool.true_and, List.all_eq_true]
    intro z hz
    have := e2 z hz
    simp [isNumB]; omega
  cases xs with
  | nil => simp at hl; omega
  | cons y ys =>
    have hy := (hr y (by simp)).1
    have hd : pathDimB (y :: ys) = true := by
      simp only [pathDimB, Bool.and_eq_true, decide_eq_true_eq]
      refine ⟨by omega, ?_⟩
      rw [pathOkB_all (by simp) (by omega), List.all_eq_true]
      intro x hx
      rw [hy]
      exact hrow x hx
    rw [pathAtL, if_pos hd]
    simp [hy]

/-- An operation that is not to be looked at ahead of its turn: its guard does not hold. -/
def opA (s : String) : Oper := { dst := some 112, op := Op.load 30 (Operand.tmp 9), type := 30, pos := s, after := #[{ on := 20, ground := Ground.guard }], guard := some (20, false) }
theorem opA_def (s : String) : opA s = { dst := some 112, op := Op.load 30 (Operand.tmp 9), type := 30, pos := s, after := #[{ on := 20, ground := Ground.guard }], guard := some (20, false) } := rfl
/-- An operation that is not to be looked at ahead of its turn: its guard does not hold. -/
def opB (s : String) : Oper := { dst := some 114, op := Op.move (Operand.tmp 8), type := 9, pos := s, after := #[{ on := 20, ground := Ground.guard }], guard := some (20, false) }
theorem opB_def (s : String) : opB s = { dst := some 114, op := Op.move (Operand.tmp 8), type := 9, pos := s, after := #[{ on := 20, ground := Ground.guard }], guard := some (20, false) } := rfl
/-- An operation that is not to be looked at ahead of its turn: its guard does not hold. -/
def opC (s : String) : Oper := { dst := some 115, op := Op.binOp BinOp.eql 9 (Operand.tmp 113) (Operand.tmp 114) 9, type := 4, pos := s, after := #[{ on := 22, ground := Ground.data }, { on := 23, ground := Ground.data }, { on := 20, ground := Ground.guard }], guard := some (20, false) }
theorem opC_def (s : String) : opC s = { dst := some 115, op := Op.binOp BinOp.eql 9 (Operand.tmp 113) (Operand.tmp 114) 9, type := 4, pos := s, after := #[{ on := 22, ground := Ground.data }, { on := 23, ground := Ground.data }, { on := 20, ground := Ground.guard }], guard := some (20, false) } := rfl
section
attribute [local go_sem] opA_def opB_def opC_def
set_option maxRecDepth 100000 in
set_option maxHeartbeats 25600000 in
theorem fnFieldText_walk (v : Value) (bs : List Int) (w : World) (h : RdB w v bs) (hm : MaxCell w) :
    Calls Tryz.prog 5 #[v] w fun e w' => e = .returned (.bool true) ∧ Below w.heap.size w w' := by
  obtain ⟨adc, lc, cc, rfl, _, _, _, h'⟩ := rdS_open h
  clear h
  have HBIG := Lib.hid (big_any adc lc cc w)
  by_cases hbig : (1048576 : Int) < lc
  case pos =>
    have hbt : decide ((1048576 : Int) < lc) = true := decide_eq_true hbig
    go_enter Tryz.func5, Tryz.ntmps5
    go_wp2_with fail
    refine HBIG.out.mono ?_
    rw [hbt]
    rintro e w1 ⟨rfl, rfl⟩
    go_wp2
    go_ret
    exact ⟨rfl, Below.refl _ _⟩
  have hbt : decide ((1048576 : Int) < lc) = false := decide_eq_false hbig
  have HMO := Lib.hid (motion_any _ bs w h')
  have HBS := Lib.hid (fun (W : World) (hW : Below w.heap.size w W) => (rdS_mono (w := w) (w' := W) (El := ElB) (fun _ _ h => h) hW h' : RdB W (.slice adc lc cc) bs))
  have HMC := Lib.hid (fun (W : World) (hW : Below w.heap.size w W) => maxCell_mono hW hm)
  clear h' hm
  go_enter Tryz.func5, Tryz.ntmps5
  go_wp2_with fail
  refine HBIG.out.mono ?_
  rw [hbt]
  rintro e w1 ⟨rfl, rfl⟩
  go_wp2_with fail
  refine HMO.out.mono ?_
  rintro e w1 ⟨st, adA, lA, cA, adB, lB, cB, vF, vP, f, xs, n, m, rfl, hf, hfo, hfd, hn1, hn2, hP, hpr, hm1, hm6, hb1⟩
  obtain ⟨vM, rfl, hfI, hM⟩ := hf
  obtain ⟨adF, lF, cF, rfl⟩ : ∃ ad l c, vM = .slice ad l c := by
    obtain ⟨ad, l, c, rfl, _⟩ := rdS_open hM
    exact ⟨_, _, _, rfl⟩
  have hf : RdFld w1 (.agg #[.int .i64 f.dim, .slice adF lF cF]) f := ⟨_, rfl, hfI, hM⟩
  obtain ⟨adP, lP, cP, rfl, hlP, _, _, hP'⟩ := rdS_open hP
  have hlm : lP = m := by have := hpr.1; omega
  subst hlm
  obtain ⟨W2, hW2⟩ : ∃ W, W = (w1.alloc (.cells #[.int .i64 st, .slice adA lA cA, .slice adB lB cB] 37)).alloc (.cells #[.int .i64 f.dim, .slice adF lF cF] 30) := ⟨_, rfl⟩
  have hb2 : Below w1.heap.size w1 W2 := hW2 ▸ ((Below.refl _ _).alloc (Nat.le_refl _) _).alloc (by simp) _
  have hK : W2.cell? ⟨w1.heap.size + 1, 0, none⟩ = some (.int .i64 f.dim) ∧ W2.cell? ⟨w1.heap.size + 1, 1, none⟩ = some (.slice adF lF cF) := by
    rw [hW2]
    have e : (w1.alloc (.cells #[.int .i64 st, .slice adA lA cA, .slice adB lB cB] 37)).heap.size = w1.heap.size + 1 := by simp
    constructor
    · rw [← e]; simp
    · rw [← e]; simp
  obtain ⟨Bf, hBf⟩ : ∃ B, B = w1.heap.size + 1 := ⟨_, rfl⟩
  rw [← hBf] at hK
  have HK := Lib.hid (fun (W : World) (hW : Below W2.heap.size W2 W) => And.intro (cell_below hW hK.1) (cell_below hW hK.2))
  have HF := Lib.hid (fun (W : World) (hW : Below W2.heap.size W2 W) => rdFld_mono (hb2.trans (hW.mono hb2.size)) hf)
  have HX := Lib.hid (fun (W : World) (hW : Below W2.heap.size W2 W) => (rdII_mono (hb2.trans (hW.mono hb2.size)) hP' : RdII W (.slice adP lP cP) xs))
  have HBW := Lib.hid (hb1.trans (hb2.mono hb1.size))
  have HFIT := Lib.hid (fit_ok hfo)
  have HFO := Lib.hid hfo
  have HPR := Lib.hid hpr
  have HDIM := Lib.hid hfd
  have HW2 := Lib.hid hW2
  have HBF := Lib.hid hBf
  have HB2 := Lib.hid (Below.refl W2.heap.size W2)
  obtain ⟨sF, hsF⟩ : ∃ s, s = ByteArray.mk (fldT f).toArray := ⟨_, rfl⟩
  have HTX := Lib.hid (show txt (fldT f) = .string sF from by rw [hsF]; rfl)
  have hrnd := fld_round hfo
  have HPX := Lib.hid (fun (W : World) (hW : Below W2.heap.size W2 W) => (hrnd.2.2 ▸ hrnd.2.1 ▸ parse_any (fldT f) sF hsF (by have := fldT_small f; omega) W (HMC.out W (HBW.out.trans (hW.mono HBW.out.size))) : Calls Tryz.prog 29 #[.string sF] W (Gives2 (fun w' v fp => OwnFld 24 56 3 w' v f fp) true W)))
  have HC1 := Lib.hid (fmtFld_any (.agg #[.int .i64 f.dim, .slice adF lF cF]) f W2 (HF.out W2 HB2.out) HFIT.out)
  obtain ⟨hk0, hk1⟩ := hK
  clear hf hM hfI hfo hfd hP hP' hpr hb1 hb2 hW2 hBf hsF hrnd
  go_wp2_with fail
  rw [← HW2.out, ← HBF.out]
  refine HC1.out.mono ?_
  rw [HTX.out]
  rintro e w3 ⟨rfl, hb3⟩
  have HB3 := Lib.hid (HB2.out.trans (hb3.mono HB2.out.size))
  have HP3 := Lib.hid (HPX.out w3 HB3.out)
  clear hb3 hk0 hk1
  go_wp2_with fail
  refine HP3.out.mono ?_
  rintro e u5 ⟨v5, fp5, rfl, ho5, _, hb5⟩
  obtain ⟨vM5, rfl, hI5, hM5⟩ := ho5
  obtain ⟨ad5, l5, c5, rfl⟩ := ownMss_slice hM5
  have hr5 : RdFld u5 (.agg #[.int .i64 f.dim, .slice ad5 l5 c5]) f := ⟨_, rfl, hI5, ownMss_rd hM5⟩
  obtain ⟨w5, hw5⟩ : ∃ W, W = u5.alloc (.cells #[.int .i64 f.dim, .slice ad5 l5 c5] 30) := ⟨_, rfl⟩
  have hal5 : Below u5.heap.size u5 w5 := hw5 ▸ (Below.refl _ _).alloc (Nat.le_refl _) _
  obtain ⟨B5, hB5⟩ : ∃ B, B = u5.heap.size := ⟨_, rfl⟩
  have hc5 : w5.cell? ⟨B5, 0, none⟩ = some (.int .i64 f.dim) ∧ w5.cell? ⟨B5, 1, none⟩ = some (.slice ad5 l5 c5) := by rw [hw5, hB5]; simp
  have hx5 := hb5.trans (hal5.mono hb5.size)
  have HBw5 := Lib.hid (HB3.out.trans (hx5.mono HB3.out.size))
  have HK5 := Lib.hid (fun (W : World) (hW : Below w5.heap.size w5 W) => And.intro (cell_below hW hc5.1) (cell_below hW hc5.2))
  have HR5 := Lib.hid (fun (W : World) (hW : Below w5.heap.size w5 W) => rdFld_mono (hal5.trans (hW.mono hal5.size)) hr5)
  have Hw5 := Lib.hid hw5
  have HBE5 := Lib.hid hB5
  have HOx5 := Lib.hid hx5
  clear hI5 hM5 hr5 hw5 hal5 hc5 hx5 hb5 hB5
  have HB5 := HBw5
  have HD5 := Lib.hid (drawParse_any _ bs w5 (HBS.out w5 (HBW.out.trans (HBw5.out.mono HBW.out.size))))
  go_wp2_with fail
  rw [← Hw5.out, ← HBE5.out]
  refine HD5.out.mono ?_
  rintro e w6 ⟨s, rfl, hs, hb6⟩
  have HB6 := Lib.hid (HB5.out.trans (hb6.mono HB5.out.size))
  have HO6 := Lib.hid hb6
  clear hb6
  have HC6 := Lib.hid (parse_any s.data.toList s (by simp) (by rw [str_len]; omega) w6 (HMC.out w6 (HBW.out.trans (HB6.out.mono HBW.out.size))))
  have HC7 := Lib.hid (fun W => sParse_any s.data.toList s (by simp) (by rw [str_len]; omega) W)
  have HYB := Lib.hid (fun (hB : parB s.data.toList = true) => (show fldOkB (parF s.data.toList) = true ∧ txt (fldT (parF s.data.toList)) = .string s from ⟨(parB_okF hB).1, by rw [(parB_okF hB).2]; show Value.string _ = _; congr 1⟩))
  obtain ⟨FY, BY, hFY, hBY⟩ := txt_c s.data.toList
  have HC6 : Hid (Calls Tryz.prog 29 #[.string s] w6 (Gives2 (fun w' v fp => OwnFld 24 56 3 w' v FY fp) BY w6)) := by rw [hFY, hBY]; exact HC6
  have HC7 : Hid (∀ W, Calls Tryz.prog 32 #[.string s] W (Gives2 (fun w' v fp => OwnFld 24 56 3 w' v FY fp) BY W)) := by rw [hFY, hBY]; exact HC7
  have HYB : Hid (BY = true → fldOkB FY = true ∧ txt (fldT FY) = .string s) := by rw [hFY, hBY]; exact HYB
  clear hFY hBY
  go_wp2_with fail
  refine HC6.out.mono ?_
  rintro e u8 ⟨v8, fp8, rfl, ho8, _, hb8⟩
  obtain ⟨vM8, rfl, hI8, hM8⟩ := ho8
  obtain ⟨ad8, l8, c8, rfl⟩ := ownMss_slice hM8
  have hr8 : RdFld u8 (.agg #[.int .i64 FY.dim, .slice ad8 l8 c8]) FY := ⟨_, rfl, hI8, ownMss_rd hM8⟩
  obtain ⟨w8, hw8⟩ : ∃ W, W = u8.alloc (.cells #[.int .i64 FY.dim, .slice ad8 l8 c8] 30) := ⟨_, rfl⟩
  have hal8 : Below u8.heap.size u8 w8 := hw8 ▸ (Below.refl _ _).alloc (Nat.le_refl _) _
  obtain ⟨B8, hB8⟩ : ∃ B, B = u8.heap.size := ⟨_, rfl⟩
  have hc8 : w8.cell? ⟨B8, 0, none⟩ = some (.int .i64 FY.dim) ∧ w8.cell? ⟨B8, 1, none⟩ = some (.slice ad8 l8 c8) := by rw [hw8, hB8]; simp
  have hx8 := hb8.trans (hal8.mono hb8.size)
  have HBw8 := Lib.hid (HB6.out.trans (hx8.mono HB6.out.size))
  have HK8 := Lib.hid (fun (W : World) (hW : Below w8.heap.size w8 W) => And.intro (cell_below hW hc8.1) (cell_below hW hc8.2))
  have HR8 := Lib.hid (fun (W : World) (hW : Below w8.heap.size w8 W) => rdFld_mono (hal8.trans (hW.mono hal8.size)) hr8)
  have Hw8 := Lib.hid hw8
  have HBE8 := Lib.hid hB8
  have HOx8 := Lib.hid hx8
  clear hI8 hM8 hr8 hw8 hal8 hc8 hx8 hb8 hB8
  have HC7w := Lib.hid (HC7.out w8)
  go_wp2_with fail
  rw [← Hw8.out, ← HBE8.out]
  refine HC7w.out.mono ?_
  rintro e u9 ⟨v9, fp9, rfl, ho9, _, hb9⟩
  obtain ⟨vM9, rfl, hI9, hM9⟩ := ho9
  obtain ⟨ad9, l9, c9, rfl⟩ := ownMss_slice hM9
  have hr9 : RdFld u9 (.agg #[.int .i64 FY.dim, .slice ad9 l9 c9]) FY := ⟨_, rfl, hI9, ownMss_rd hM9⟩
  obtain ⟨w10, hw10⟩ : ∃ W, W = u9.alloc (.cells #[.int .i64 FY.dim, .slice ad9 l9 c9] 30) := ⟨_, rfl⟩
  have hal9 : Below u9.heap.size u9 w10 := hw10 ▸ (Below.refl _ _).alloc (Nat.le_refl _) _
  obtain ⟨B9, hB9⟩ : ∃ B, B = u9.heap.size := ⟨_, rfl⟩
  have hc9 : w10.cell? ⟨B9, 0, none⟩ = some (.int .i64 FY.dim) ∧ w10.cell? ⟨B9, 1, none⟩ = some (.slice ad9 l9 c9) := by rw [hw10, hB9]; simp
  have hx9 := hb9.trans (hal9.mono hb9.size)
  have HBw10 := Lib.hid (HBw8.out.trans (hx9.mono HBw8.out.size))
  have HK9 := Lib.hid (fun (W : World) (hW : Below w10.heap.size w10 W) => And.intro (cell_below hW hc9.1) (cell_below hW hc9.2))
  have HR9 := Lib.hid (fun (W : World) (hW : Below w10.heap.size w10 W) => rdFld_mono (hal9.trans (hW.mono hal9.size)) hr9)
  have Hw10 := Lib.hid hw10
  have HBE9 := Lib.hid hB9
  have HOx9 := Lib.hid hx9
  clear hI9 hM9 hr9 hw10 hal9 hc9 hx9 hb9 hB9
  have HI10 := Lib.hid (integers_any _ bs w10 (HBS.out w10 (HBW.out.trans (HBw10.out.mono HBW.out.size))))
  go_wp2_with fail
  rw [← Hw10.out, ← HBE9.out]
  refine HI10.out.mono ?_
  rintro e w11 ⟨h, h2, h3, rfl, hIh, _, _, hb11⟩
  have HB11 := Lib.hid (HBw10.out.trans (hb11.mono HBw10.out.size))
  have HO11 := Lib.hid hb11
  clear hIh hb11
  have HC11 := Lib.hid (pathAt_any _ xs h w11 (HX.out w11 HB11.out))
  go_wp2_with fail
  refine HC11.out.mono ?_
  rintro e w12 ⟨vp, fpp, rfl, hop, _, hb12⟩
  rw [pathAtL_row h HPR.out hn1 (by omega) hm1 (by omega)] at hop
  obtain ⟨adp, lp, cp, rfl, hlp, _⟩ := ownI_open hop
  rw [pathAtZ_len] at hlp
  obtain rfl : n = lp := hlp
  have HB12 := Lib.hid (HB11.out.trans (hb12.mono HB11.out.size))
  have HO12 := Lib.hid hb12
  have HRP := Lib.hid (fun (W : World) (hW : Below w12.heap.size w12 W) => rdI_mono hW (ownI_rd hop))
  have HP12 := Lib.hid (fun (W : World) (hW : Below w12.heap.size w12 W) => HX.out W (HB12.out.trans (hW.mono HB12.out.size)))
  have HC12 := Lib.hid (fun (W : World) (hW : Below w12.heap.size w12 W) => HK.out W (HB12.out.trans (hW.mono HB12.out.size)))
  obtain ⟨e0, e1⟩ := HC12.out w12 (Below.refl _ _)
  have hnb : ((n : Int) != f.dim) = false := by rw [HDIM.out]; simp
  clear hb12 hop
  go_wp2
  go_loopw [17] (fun si wq => ∃ i : Nat, i ≤ n ∧ si = .int .i64 i ∧ ∃ q, wq = w12.drewN q) (fun si _ => n - (intOf si).toNat)
  case atStart => exact ⟨0, Nat.zero_le _, rfl, 0, rfl⟩
  case round =>
    obtain ⟨wk, rfl⟩ : ∃ W, W = wr := ⟨_, rfl⟩
    obtain ⟨i, hi, rfl, q, hwk⟩ := hrel
    have hbk : Below w12.heap.size w12 wk := hwk ▸ blw_drewN (Below.refl _ _) q
    clear e0 e1 hnb
    obtain ⟨e0, e1⟩ := HC12.out wk hbk
    have HWK := Lib.hid hwk
    have HBK := Lib.hid hbk
    clear hwk hbk
    by_cases hil : i < n
    case neg =>
      obtain rfl : i = n := by omega
      have hiI : ¬ ((i : Int) < f.dim) := by rw [HDIM.out]; omega
      have HBE := Lib.hid (show Below w10.heap.size w10 wk from (HO11.out.trans (HO12.out.mono HO11.out.size)).trans (HBK.out.mono (HO11.out.trans (HO12.out.mono HO11.out.size)).size))
      have HB8k := Lib.hid (show Below w8.heap.size w8 wk from HOx9.out.trans (HBE.out.mono HOx9.out.size))
      have HB6k := Lib.hid (show Below w6.heap.size w6 wk from HOx8.out.trans (HB8k.out.mono HOx8.out.size))
      have HB5k := Lib.hid (show Below w5.heap.size w5 wk from HO6.out.trans (HB6k.out.mono HO6.out.size))
      have HBWk := Lib.hid (show Below W2.heap.size W2 wk from HB12.out.trans (HBK.out.mono HB12.out.size))
      have HKK := Lib.hid (fun (W : World) (hW : Below wk.heap.size wk W) => (show W.cell? ⟨Bf, 0, none⟩ = some (.int .i64 f.dim) ∧ W.cell? ⟨Bf, 1, none⟩ = some (.slice adF lF cF) ∧ W.cell? ⟨B5, 0, none⟩ = some (.int .i64 f.dim) ∧ W.cell? ⟨B5, 1, none⟩ = some (.slice ad5 l5 c5) ∧ W.cell? ⟨B8, 0, none⟩ = some (.int .i64 FY.dim) ∧ W.cell? ⟨B8, 1, none⟩ = some (.slice ad8 l8 c8) from
        ⟨(HK.out W (HBWk.out.trans (hW.mono HBWk.out.size))).1, (HK.out W (HBWk.out.trans (hW.mono HBWk.out.size))).2, (HK5.out W (HB5k.out.trans (hW.mono HB5k.out.size))).1, (HK5.out W (HB5k.out.trans (hW.mono HB5k.out.size))).2, (HK8.out W (HB8k.out.trans (hW.mono HB8k.out.size))).1, (HK8.out W (HB8k.out.trans (hW.mono HB8k.out.size))).2⟩))
      have CFO := Lib.hid (fun (W : World) (hW : Below wk.heap.size wk W) => fldOk_eq (.agg #[.int .i64 f.dim, .slice ad5 l5 c5]) f W (HR5.out W (HB5k.out.trans (hW.mono HB5k.out.size))) HFIT.out HFO.out)
      have CFX := Lib.hid (fun (W : World) (hW : Below wk.heap.size wk W) => (HTX.out ▸ fmtFld_any (.agg #[.int .i64 f.dim, .slice ad5 l5 c5]) f W (HR5.out W (HB5k.out.trans (hW.mono HB5k.out.size))) HFIT.out : Calls Tryz.prog 30 #[.agg #[.int .i64 f.dim, .slice ad5 l5 c5]] W fun e w' => e = .returned (.string sF) ∧ Below W.heap.size W w'))
      have CFS := Lib.hid (fun (W : World) (hW : Below wk.heap.size wk W) => (HTX.out ▸ sFmtFld_any (.agg #[.int .i64 f.dim, .slice adF lF cF]) f W (HF.out W (HBWk.out.trans (hW.mono HBWk.out.size))) : Calls Tryz.prog 36 #[.agg #[.int .i64 f.dim, .slice adF lF cF]] W fun e w' => e = .returned (.string sF) ∧ Below W.heap.size W w'))
      have CVX := Lib.hid (fun (W : World) (hW : Below wk.heap.size wk W) => vAlong_any (.agg #[.int .i64 f.dim, .slice ad5 l5 c5]) (.slice adP lP cP) f xs W (HR5.out W (HB5k.out.trans (hW.mono HB5k.out.size))) (HX.out W (HBWk.out.trans (hW.mono HBWk.out.size))) HFIT.out)
      have CVS := Lib.hid (fun (W : World) (hW : Below wk.heap.size wk W) => sVAlong_any (.agg #[.int .i64 f.dim, .slice adF lF cF]) (.slice adP lP cP) f xs W (HF.out W (HBWk.out.trans (hW.mono HBWk.out.size))) (HX.out W (HBWk.out.trans (hW.mono HBWk.out.size))))
      have HFIN := Lib.hid (fun (W : World) (hW : Below wk.heap.size wk W) => (HBW.out.trans ((HBWk.out.trans (hW.mono HBWk.out.size)).mono HBW.out.size) : Below w.heap.size w W))
      obtain ⟨VL, hVL⟩ : ∃ V, V = valueL f xs := ⟨_, rfl⟩
      rw [← hVL] at CVX CVS
      have HB := Lib.hid (show Below wk.heap.size wk wk.drew from (Below.refl _ _).drew)
      clear hVL
      cases BY with
      | false =>
        go_wp2
        rw [← opA_def, ← opB_def, ← opC_def]
        go_region_held3 (fun w' => w'.cell? ⟨Bf, 0, none⟩ = some (.int .i64 f.dim) ∧ w'.cell? ⟨Bf, 1, none⟩ = some (.slice adF lF cF) ∧ w'.cell? ⟨B5, 0, none⟩ = some (.int .i64 f.dim) ∧ w'.cell? ⟨B5, 1, none⟩ = some (.slice ad5 l5 c5) ∧ w'.cell? ⟨B8, 0, none⟩ = some (.int .i64 FY.dim) ∧ w'.cell? ⟨B8, 1, none⟩ = some (.slice ad8 l8 c8)) (with_reducible exact HKK.out _ HB.out) (first | (go_at_call 35; (with_reducible refine (CFO.out _ HB.out).mono ?_); rintro e wa ⟨rfl, hba⟩; have HB := Lib.hid (HB.out.trans (hba.mono HB.out.size)); clear hba) | (go_at_call 30; (first | (with_reducible refine (CFX.out _ HB.out).mono ?_) | (fail)); rintro e wa ⟨rfl, hba⟩; have HB := Lib.hid (HB.out.trans (hba.mono HB.out.size)); clear hba) | (go_at_call 36; (with_reducible refine (CFS.out _ HB.out).mono ?_); rintro e wa ⟨rfl, hba⟩; have HB := Lib.hid (HB.out.trans (hba.mono HB.out.size)); clear hba) | (go_at_call 38; (with_reducible refine (CVX.out _ HB.out).mono ?_); rintro e wa ⟨va, fa, rfl, hoa, _, hba⟩; have HB := Lib.hid (HB.out.trans (hba.mono HB.out.size)); obtain ⟨ada, la, ca, rfl, _⟩ := rdS_open (ownII_rd hoa); have HRI := Lib.hid (ownII_rd hoa); (try have HRS := Lib.hid (rdII_mono hba HRS.out)); clear hba hoa) | (go_at_call 39; (with_reducible refine (CVS.out _ HB.out).mono ?_); rintro e wa ⟨vb, fb, rfl, hob, _, hba⟩; have HB := Lib.hid (HB.out.trans (hba.mono HB.out.size)); obtain ⟨adb, lb, cb, rfl, _⟩ := rdS_open (ownII_rd hob); have HRS := Lib.hid (ownII_rd hob); (try have HRI := Lib.hid (rdII_mono hba HRI.out)); clear hba hob) | (go_at_call 37; (with_reducible refine (qt_below (paths_same _ _ _ _ HRI.out HRS.out)).mono ?_); rintro e wa ⟨rfl, hba⟩; have HB := Lib.hid (HB.out.trans (hba.mono HB.out.size)); clear hba))
        all_goals (
          go_wp2
          go_ret
          exact ⟨rfl, HFIN.out _ HB.out⟩)
      | true =>
        have hYB := HYB.out rfl
        have CFY := Lib.hid (fun (W : World) (hW : Below wk.heap.size wk W) => (hYB.2 ▸ fmtFld_any (.agg #[.int .i64 FY.dim, .slice ad8 l8 c8]) FY W (HR8.out W (HB8k.out.trans (hW.mono HB8k.out.size))) (fit_ok hYB.1) : Calls Tryz.prog 30 #[.agg #[.int .i64 FY.dim, .slice ad8 l8 c8]] W fun e w' => e = .returned (.string s) ∧ Below W.heap.size W w'))
        clear hYB
        go_wp2
        go_region_held3 (fun w' => w'.cell? ⟨Bf, 0, none⟩ = some (.int .i64 f.dim) ∧ w'.cell? ⟨Bf, 1, none⟩ = some (.slice adF lF cF) ∧ w'.cell? ⟨B5, 0, none⟩ = some (.int .i64 f.dim) ∧ w'.cell? ⟨B5, 1, none⟩ = some (.slice ad5 l5 c5) ∧ w'.cell? ⟨B8, 0, none⟩ = some (.int .i64 FY.dim) ∧ w'.cell? ⟨B8, 1, none⟩ = some (.slice ad8 l8 c8)) (with_reducible exact HKK.out _ HB.out) (first | (go_at_call 35; (with_reducible refine (CFO.out _ HB.out).mono ?_); rintro e wa ⟨rfl, hba⟩; have HB := Lib.hid (HB.out.trans (hba.mono HB.out.size)); clear hba) | (go_at_call 30; (first | (with_reducible refine (CFX.out _ HB.out).mono ?_) | (with_reducible refine (CFY.out _ HB.out).mono ?_)); rintro e wa ⟨rfl, hba⟩; have HB := Lib.hid (HB.out.trans (hba.mono HB.out.size)); clear hba) | (go_at_call 36; (with_reducible refine (CFS.out _ HB.out).mono ?_); rintro e wa ⟨rfl, hba⟩; have HB := Lib.hid (HB.out.trans (hba.mono HB.out.size)); clear hba) | (go_at_call 38; (with_reducible refine (CVX.out _ HB.out).mono ?_); rintro e wa ⟨va, fa, rfl, hoa, _, hba⟩; have HB := Lib.hid (HB.out.trans (hba.mono HB.out.size)); obtain ⟨ada, la, ca, rfl, _⟩ := rdS_open (ownII_rd hoa); have HRI := Lib.hid (ownII_rd hoa); (try have HRS := Lib.hid (rdII_mono hba HRS.out)); clear hba hoa) | (go_at_call 39; (with_reducible refine (CVS.out _ HB.out).mono ?_); rintro e wa ⟨vb, fb, rfl, hob, _, hba⟩; have HB := Lib.hid (HB.out.trans (hba.mono HB.out.size)); obtain ⟨adb, lb, cb, rfl, _⟩ := rdS_open (ownII_rd hob); have HRS := Lib.hid (ownII_rd hob); (try have HRI := Lib.hid (rdII_mono hba HRI.out)); clear hba hob) | (go_at_call 37; (with_reducible refine (qt_below (paths_same _ _ _ _ HRI.out HRS.out)).mono ?_); rintro e wa ⟨rfl, hba⟩; have HB := Lib.hid (HB.out.trans (hba.mono HB.out.size)); clear hba))
        all_goals (
          go_wp2
          go_ret
          exact ⟨rfl, HFIN.out _ HB.out⟩)
    have hiI : (i : Int) < f.dim := by rw [HDIM.out]; omega
    go_wp2
    go_loopw [18, 19] (fun sn sj wq => ∃ j : Nat, j ≤ lP ∧ sj = .int .i64 j ∧ sn = .int .i64 (psumZ h i xs j) ∧ ∃ q, wq = wk.drewN q) (fun _ sj _ => lP - (intOf sj).toNat)
    case atStart => exact ⟨0, Nat.zero_le _, rfl, rfl, 0, rfl⟩
    case round =>
      obtain ⟨wj, rfl⟩ : ∃ W, W = wr := ⟨_, rfl⟩
      obtain ⟨j, hj, rfl, rfl, q2, hwj⟩ := hrel
      have hbj : Below w12.heap.size w12 wj := HBK.out.trans ((hwj ▸ blw_drewN (Below.refl _ _) q2 : Below wk.heap.size wk wj).mono HBK.out.size)
      have HWJ := Lib.hid hwj
      by_cases hjl : j < lP
      case neg =>
        obtain rfl : j = lP := by omega
        obtain ⟨b5, o5, z, rfl, hz, hcz, hIz, _⟩ := rdI_get (HRP.out wj hbj) (k := i) hil
        have hze : z = psumZ h i xs j := by
          have e := HPR.out.1
          have hg := pathAtZ_get h xs (n := n) hil
          rw [hg] at hz
          rw [← Option.some.inj hz, ← psum_full, e]
        have hzb : (z != psumZ h i xs j) = false := by simp [hze]
        clear hwj hbj hz hze
        go_wp2
        go_roundw
        case rel => exact ⟨i + 1, by omega, by go_num, _, by rw [HWJ.out, HWK.out, World.drewN_drewN]⟩
        case measure => simp [intOf]; omega
      obtain ⟨b5, o5, ad6, l6, c6, y, rfl, hy, hcy, hl6, _, _, hry, _⟩ := rdII_get (HP12.out wj hbj) (k := j) hjl
      have hyn := HPR.out.2 y (List.mem_of_getElem? hy)
      have hyl : l6 = n := by have := hyn.1; omega
      obtain ⟨b7, o7, z, rfl, hz, hcz, hIz, _⟩ := rdI_get hry (k := i) (by omega)
      have hi6 : (i : Int) < l6 := by omega
      obtain ⟨p1, hp1⟩ : ∃ p, powZ h j = p := ⟨_, rfl⟩
      obtain ⟨t1, ht1⟩ : ∃ t, timesZ z p1 = t := ⟨_, rfl⟩
      obtain ⟨S0, hS0⟩ : ∃ S, psumZ h i xs j = S := ⟨_, rfl⟩
      obtain ⟨S1, hS1⟩ : ∃ S, plusZ S0 t1 = S := ⟨_, rfl⟩
      have HE := Lib.hid (show psumZ h i xs (j + 1) = S1 from by rw [psumZ, hy, ← hS1, ← ht1, ← hp1, ← hS0]; simp [hz])
      rw [hS0]
      have HP1 := Lib.hid hp1
      have HT1 := Lib.hid ht1
      have HS1 := Lib.hid hS1
      have hj9 : (j : Int) ≤ 9223372036854775807 := by omega
      have hlPm : lP ≤ 6 := hm6
      clear hwj hbj hy hz hp1 ht1 hS0 hS1 hyn hry
      go_wp2
      go_quiet ((first | (go_at_call 34; exact quiet_same (sPower_eq HP1.out hj9 _)) | (go_at_call 23; exact quiet_same (sTimes_eq HT1.out _)) | (go_at_call 22; exact quiet_same (sPlus_eq HS1.out _))))
      go_wp2
      go_roundw
      case rel => exact ⟨j + 1, by omega, by go_num, by rw [HE.out], _, by rw [HWJ.out, World.drewN_drewN]⟩
      case measure => simp [intOf]; omega
end
end Go.Proofs.YtbcjhpgkodeoeaaGreatDoor
