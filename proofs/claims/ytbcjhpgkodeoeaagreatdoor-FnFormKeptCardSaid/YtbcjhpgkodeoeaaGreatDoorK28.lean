/- The texts Ex, SEx, StM, StC in one: each says at its head what it proves. Conditions: as said there. -/
import Derived.Deep.RegionHeld3
import Derived.Test.YtbcjhpgkodeoeaaGreatDoorK03
import Derived.Test.YtbcjhpgkodeoeaaGreatDoorK17
import Derived.Test.YtbcjhpgkodeoeaaGreatDoorK04
set_option linter.unusedSimpArgs false
set_option linter.unusedVariables false
/- ExactPath of the program and of the reference. Conditions: lengths of slices up to 2^20. -/
namespace Go.Proofs.YtbcjhpgkodeoeaaGreatDoor
open Go.RowKit Go.Sort

theorem below_drew (w : World) : Below w.heap.size w w.drew := (Below.refl _ _).drew
/-- one round of the program, i coordinates done -/
def exR (v z : List (List Int)) (j : Nat) (t : Int) : Nat → List (List Int)
  | 0 => z
  | i + 1 => (exR v z j t i).set i ((atL z i).set (j + 1) (fracZ (timesZ t (atZ (atL v i) j)) ((j : Int) + 1)))
theorem exR_len (v z : List (List Int)) (j : Nat) (t : Int) (i : Nat) : (exR v z j t i).length = z.length := by
  induction i with
  | zero => rfl
  | succ i ih => rw [exR, List.length_set, ih]
theorem exR_at (v z : List (List Int)) (j : Nat) (t : Int) (i : Nat) (hi : i ≤ z.length) : ∀ k, k < z.length → atL (exR v z j t i) k = if k < i then (atL z k).set (j + 1) (fracZ (timesZ t (atZ (atL v k) j)) ((j : Int) + 1)) else atL z k := by
  induction i with
  | zero => intro k _; rw [exR, if_neg (by omega)]
  | succ i ih =>
    intro k hk
    rw [exR, atL]
    by_cases h : k = i
    · subst h
      rw [List.getElem?_set_self (by rw [exR_len]; omega), if_pos (by omega)]
      rfl
    · rw [List.getElem?_set_ne (by omega), ← atL, ih (by omega) k hk]
      by_cases h2 : k < i
      · rw [if_pos h2, if_pos (by omega)]
      · rw [if_neg h2, if_neg (by omega)]
theorem exR_done {parts : List (List MonZ)} {y : List Int} {order j : Nat} {t : Int} : exR (fldJ parts (exI parts y order t j)) (exI parts y order t j) j t y.length = exI parts y order t (j + 1) := by
  refine list_ext_atL (by rw [exR_len, exI_len, exI_len]) fun i hi => ?_
  rw [exR_len, exI_len] at hi
  rw [exR_at _ _ _ _ _ (by rw [exI_len]; exact Nat.le_refl _) _ (by rw [exI_len]; exact hi), if_pos hi, exI]
  simp [atL, hi]
theorem exI_ok {parts : List (List MonZ)} {y : List Int} {order : Nat} {t : Int} (hy : Nums y) (j : Nat) : AllJ (order + 1) (exI parts y order t j) := by
  induction j with
  | zero =>
    intro x hx
    simp only [exI, List.mem_map] at hx
    obtain ⟨c, hc, rfl⟩ := hx
    exact ⟨oneAt_len _ _, oneAt_nums (hy c hc) _⟩
  | succ j ih =>
    intro x hx
    simp only [exI, List.mem_map, List.mem_range] at hx
    obtain ⟨i, hi, rfl⟩ := hx
    have := allJ_atL ih (i := i) (by rw [exI_len]; exact hi)
    exact ⟨by rw [List.length_set, this.1], nums_set this.2 (fracZ_bd _ _)⟩

def ordB (n : Int) : Bool := decide (0 ≤ n ∧ n ≤ 6)
theorem isOrder_any (n : Int) (w : World) :
    Calls Tryz.prog 62 #[.int .i64 n] w fun e w' => e = .returned (.bool (ordB n)) ∧ w = w' := by
  by_cases h0 : 0 ≤ n
  · by_cases h1 : n ≤ 6
    · go_enter Tryz.func62, Tryz.ntmps62
      go_wp2
      go_ret
      exact ⟨ret_bool (by simp [ordB, h0, h1]), rfl⟩
    · go_enter Tryz.func62, Tryz.ntmps62
      go_wp2
      go_ret
      exact ⟨ret_bool (by simp [ordB]; omega), rfl⟩
  · go_enter Tryz.func62, Tryz.ntmps62
    go_wp2
    go_ret
    exact ⟨ret_bool (by simp [ordB]; omega), rfl⟩
theorem isOrder_eq {n : Int} {b : Bool} (h : ordB n = b) (w : World) : Calls Tryz.prog 62 #[.int .i64 n] w fun e w' => e = .returned (.bool b) ∧ w = w' := h ▸ isOrder_any n w
theorem const_row {e size : Nat} {w w1 : World} {c : Int} (hc : 0 ≤ c ∧ c ≤ 1000000270) (hown : w1.ownsRow 0 e 1 (.slice (some ⟨w.heap.size, 0, none⟩) size size) size (madeCells (Value.int .i64 0).cells (size * 1)).toList) (hg : w.grownBy w1 none) (hs : 1 ≤ size) :
    w1.cell? ⟨w.heap.size, 0, none⟩ = some (.int .i64 0) ∧ OwnI e (w1.setCell ⟨w.heap.size, 0, none⟩ (.int .i64 c)) (.slice (some ⟨w.heap.size, 0, none⟩) size size) (oneAt c size) [w.heap.size] ∧ Below w.heap.size w (w1.setCell ⟨w.heap.size, 0, none⟩ (.int .i64 c)) := by
  have hm0 : (madeCells (Value.int .i64 0).cells (size * 1)).toList = (List.replicate size (0 : Int)).map (Value.int .i64) := by
    rw [Nat.mul_one, List.map_replicate]; exact toList_madeCells_one _ _
  rw [hm0] at hown
  have hb : Below w.heap.size w w1 := (Below.refl _ _).grown hg (Nat.le_refl _) (fun k hk => by cases hk)
  have hsr := (hown.stored 0 (.int .i64 c)).1
  refine ⟨?_, ⟨?_, rfl, fun x hx => i64_of_bd (oneAt_nums hc size x hx)⟩, hb.setCell (Nat.le_refl _) _⟩
  · rw [hown.cellAt 0 (by omega), List.getElem?_map, List.getElem?_replicate, if_pos (by omega)]
    rfl
  · rw [oneAt_len, oneAt, List.map_set]
    exact hsr
theorem constant_any (c nz : Int) (size : Nat) (w : World) (hz : nz = (size : Int)) (hc : 0 ≤ c ∧ c ≤ 1000000270) (hs : 1 ≤ size) (hs7 : size ≤ 7) :
    Calls Tryz.prog 63 #[.int .i64 c, .int .i64 nz] w (Gives (fun w' v fp => OwnI 3 w' v (oneAt c size) fp) w) := by
  subst hz
  obtain ⟨i0, hi, hz0, hz1, hz2⟩ := info_parts Tryz.info_int
  have hib : i0.bytes * size ≤ 281474976710656 := by rw [hz2]; omega
  have hs0 : (0 : Int) < size := by omega
  go_enter Tryz.func63, Tryz.ntmps63
  go_wp2_with (first
    | (at_make; refine wpList_make_full _ rfl _ _ 89 rfl 0 3 i0 (.int .i64 0) 1 Tryz.underlying89 hi hz0 hz1 .i64 .i64 _ _ size rfl rfl rfl rfl hib (by unfold maxLen; omega) (Nat.zero_le _) ?_; intro w1 hown1 hgrow1; have hfz := hown1.frozenAt 0; have hst := const_row hc hown1 hgrow1 hs; obtain ⟨hcell', hOW⟩ := hst; have HOW := Lib.hid hOW; clear hOW hown1 hgrow1))
  go_ret
  exact ⟨_, [w.heap.size], rfl, HOW.out.1, by simp, HOW.out.2⟩

def exactL (f : FldZ) (y : List Int) (order t : Int) : List (List Int) := if fpOkB f [y] && ordB order then exSt f.parts y order.toNat t else []

set_option maxRecDepth 100000 in
set_option maxHeartbeats 6400000 in
theorem exact_any (vf vy : Value) (f : FldZ) (y : List Int) (order t : Int) (w : World) (hf : RdFld w vf f) (hy : RdI w vy y) (hfit : ∀ p ∈ f.parts, ∀ m ∈ p, Fit_Mon m) :
    Calls Tryz.prog 13 #[vf, vy, .int .i64 order, .int .i64 t] w (Gives (fun w' v fp => OwnII 35 3 w' v (exactL f y order t) fp) w) := by
  have hnone : ∀ W, Below w.heap.size w W → (fpOkB f [y] && ordB order) = false → Gives (fun w' v fp => OwnII 35 3 w' v (exactL f y order t) fp) w (.returned (.slice none 0 0)) W := by
    intro W hW hd
    refine ⟨_, [], rfl, ?_, by simp, hW⟩
    rw [exactL, hd]
    exact ⟨[], [], World.ownsRow_nil _ _ _ _, by simp, rfl, rfl, by simp⟩
  obtain ⟨vP, rfl, hI, hp⟩ := hf
  obtain ⟨ady, ly, capy, rfl, hly, hlcy, hcmy, hy'⟩ := rdS_open hy
  obtain ⟨adp, lenp, capp, rfl, hlp, hlcp, hcmp, hp'⟩ := rdS_open hp
  obtain ⟨W, hW⟩ : ∃ W, W = w.alloc (.cells #[.int .i64 f.dim, .slice adp lenp capp] 30) := ⟨_, rfl⟩
  obtain ⟨W2, hW2⟩ : ∃ W2, W2 = W.alloc (.cells #[.slice ady ly capy] 35) := ⟨_, rfl⟩
  have hb0 : Below w.heap.size w W := hW ▸ (Below.refl _ _).alloc (Nat.le_refl _) _
  have hb1 : Below w.heap.size w W2 := hW2 ▸ hb0.alloc hb0.size _
  have hsz : W.heap.size = w.heap.size + 1 := by rw [hW]; simp
  have hd0 : W2.cell? ⟨w.heap.size, 0, none⟩ = some (.int .i64 f.dim) := by rw [hW2, hW]; simp
  have hd1 : W2.cell? ⟨w.heap.size, 1, none⟩ = some (.slice adp lenp capp) := by rw [hW2, hW]; simp
  have hyW : RdII W2 (.slice (some ⟨W.heap.size, 0, none⟩) 1 1) [y] := rdII_one (rdI_mono hb0 hy') hW2
  rw [hsz] at hyW
  have hfW : RdFld W2 (.agg #[.int .i64 f.dim, .slice adp lenp capp]) f := ⟨_, rfl, hI, rdMss_mono hb1 hp'⟩
  have HW := Lib.hid hW
  have HW2 := Lib.hid hW2
  clear hW hW2 hy hp hlp hb0 hsz
  cases hk : fpOkB f [y] with
  | false =>
    have HN := Lib.hid (fun W hW => hnone W hW (by rw [hk]; rfl))
    clear hnone hly
    go_enter Tryz.func13, Tryz.ntmps13
    go_wp2_with fail
    rw [← HW.out, ← HW2.out]
    refine (fpOk_eq _ _ f [y] W2 hfW hyW hfit hk).mono ?_
    rintro e w1 ⟨rfl, hb2⟩
    go_wp2
    go_ret
    exact HN.out _ (hb1.trans (hb2.mono hb1.size))
  | true =>
  cases ho : ordB order with
  | false =>
    have HN := Lib.hid (fun W hW => hnone W hW (by rw [hk, ho]; rfl))
    clear hnone hly
    go_enter Tryz.func13, Tryz.ntmps13
    go_wp2_with fail
    rw [← HW.out, ← HW2.out]
    refine (fpOk_eq _ _ f [y] W2 hfW hyW hfit hk).mono ?_
    rintro e w1 ⟨rfl, hb2⟩
    go_wp2_with (go_at_call 62; ((with_reducible refine (isOrder_eq ho _).mono ?_); rintro e w' ⟨rfl, rfl⟩))
    go_ret
    exact HN.out _ (hb1.trans (hb2.mono hb1.size))
  | true =>
  obtain ⟨n, f1, f2, f3, f4, f5, f6⟩ := fpOk_facts hk
  obtain ⟨o, hoN, ho6⟩ : ∃ o : Nat, order = o ∧ o ≤ 6 := by
    simp only [ordB, decide_eq_true_eq] at ho
    exact ⟨order.toNat, by omega, by omega⟩
  subst hoN
  obtain ⟨_, _, q3, q4⟩ := pathOk_facts f6
  have hyn : y.length = n := q3 y (by simp)
  have hynum : Nums y := q4 y (by simp)
  obtain rfl : ly = n := by omega
  have hE : exactL f y o t = turnZ (exI f.parts y o t o) (o + 1) := by
    rw [exactL, hk, ho, exact_same hynum (by omega) (by rw [f2, hyn]) (fun p hp m hm => by have := (f5 p hp).2 m hm; have := this.2.1; omega)]
    simp
  have HE := Lib.hid hE
  have hd0n : W2.cell? ⟨w.heap.size, 0, none⟩ = some (.int .i64 (ly : Int)) := by rw [← f1]; exact hd0
  have F1 := Lib.hid f1
  have F2 := Lib.hid f2
  have F5 := Lib.hid f5
  have HYN := Lib.hid hyn
  have HYM := Lib.hid hynum
  have HK := Lib.hid hk
  have HOB := Lib.hid ho
  clear hd0 f1 f2 f5 f6 hnone q3 q4 hyn hynum hE ho hly
  obtain ⟨j1, hj1, hw0, hw1, hw2⟩ := info_parts Tryz.info_jet
  go_enter Tryz.func13, Tryz.ntmps13
  go_wp2_with fail
  rw [← HW.out, ← HW2.out]
  refine (fpOk_eq _ _ f [y] W2 hfW hyW hfit HK.out).mono ?_
  rintro e w1 ⟨rfl, hb2⟩
  have hbw1 := hb1.trans (hb2.mono hb1.size)
  have hc0 := cell_below hb2 hd0n
  have hc1 := cell_below hb2 hd1
  have HBW1 := Lib.hid hbw1
  clear hfW hyW hd0n hd1 hb1 hb2 hbw1 hk
  go_wp2_with (go_at_call 62; ((with_reducible refine (isOrder_eq HOB.out _).mono ?_); rintro e w' ⟨rfl, rfl⟩))
  have HO0 := Lib.hid (show OwnII 89 3 (w1.alloc (.cells #[] 89)) (.slice (some ⟨w1.heap.size, 0, none⟩) 0 0) [] [w1.heap.size] from ⟨[], [], by simpa using World.ownsRow_lit (base := 0) (e := 89) (size := 1) w1 #[] 0 (Nat.zero_le _) (Nat.zero_le _) rfl, by simp, rfl, rfl, by simp⟩)
  have HB0 := Lib.hid (show Below w1.heap.size w1 (w1.alloc (.cells #[] 89)) from (Below.refl _ _).alloc (Nat.le_refl _) _)
  have u1 : IntKind.i64.wrap ((o : Int) + 1) = (o : Int) + 1 := IntWalk.i64_in _ (by omega)
  go_loopw [9, 28] (fun u i wr => ∃ (k : Nat) (fs : List Nat), k ≤ ly ∧ i = .int .i64 k ∧ OwnII 89 3 wr u ((exI f.parts y o t 0).take k) fs ∧ (∀ b ∈ fs, w1.heap.size ≤ b) ∧ Below w1.heap.size w1 wr) (fun _ i _ => ly - (intOf i).toNat)
  case atStart => exact ⟨0, [w1.heap.size], Nat.zero_le _, rfl, by simpa using HO0.out, by simp, HB0.out⟩
  case round =>
    obtain ⟨wk, rfl⟩ : ∃ W, W = wr := ⟨_, rfl⟩
    obtain ⟨k, fs0, hk, rfl, ho, hf, hb⟩ := hrel
    clear HO0 HB0
    have htl : (exI f.parts y o t 0).length = ly := by rw [exI_len, HYN.out]
    have hwk := HBW1.out.trans (hb.mono HBW1.out.size)
    by_cases hlt : k < ly
    case pos =>
      have hkl : ((exI f.parts y o t 0).take k).length = k := by rw [List.length_take]; omega
      obtain ⟨us, fs, hown, hone, hels, rfl, hnd⟩ := ho
      have HOWN := Lib.hid hown
      rw [hkl] at hown
      obtain ⟨adu, capu, rfl, hluc, hcum, _⟩ := row_open hown
      have HNU := Lib.hid hown
      have HONE := Lib.hid hone
      have HELS := Lib.hid hels
      have HND := Lib.hid hnd
      have HF := Lib.hid hf
      have HKL := Lib.hid hkl
      have HB := Lib.hid hb
      obtain ⟨b5, o5, c, rfl, hc, hcc, hIc, _⟩ := rdI_get (rdI_mono hwk hy') hlt
      have hcn := nums_at HYM.out hc
      have hsn : (exI f.parts y o t 0).take (k + 1) = (exI f.parts y o t 0).take k ++ [oneAt c (o + 1)] := take_snoc (by simp [exI, hc])
      have HSN := Lib.hid hsn
      clear hown hone hels hnd hf hkl htl hb hc hsn hwk
      go_wp2_with fail
      refine (constant_any c _ (o + 1) _ (by omega) hcn (by omega) (by omega)).mono ?_
      rintro e wa ⟨p1, fp1, rfl, hop1, hfp1, hba⟩
      obtain ⟨adq, lq, capq, rfl, _, _, _, _, _, _⟩ := ownI_open hop1
      have hal : Below wa.heap.size wa (wa.alloc (.cells #[.slice adq lq capq] 89)) := (Below.refl _ _).alloc (Nat.le_refl _) _
      have HNQ := Lib.hid (ownsRow_only HNU.out (Only.of_below (fp := []) hba) (by simp))
      have HS := Lib.hid (fun (w2 : World) (gg capn : Nat) (hown1 : w2.ownsRow 0 89 1 (.slice (some ⟨gg, 0, none⟩) (k + 1) capn) (k + 1) (us.flatten ++ [.slice adq lq capq]))
          (hgrow : (wa.alloc (.cells #[.slice adq lq capq] 89)).grownBy w2 (Value.slice adu k capu).ownBlock) (hat : (Value.slice adu k capu).ownBlock = some gg ∨ gg = wa.heap.size + 1) =>
        ownII_push (W := w1) HONE.out HELS.out HND.out HOWN.out HKL.out hop1 hfp1 HF.out HB.out hba hal hown1 hgrow (fun b hb => by
          simp [Value.ownBlock] at hb
          subst hb
          rcases hat with hat | hat
          · left; exact hat
          · right; rw [hat]; simp))
      clear hop1 hal hfp1 hba
      go_wp2_with (first | (at_builtin; refine wpList_append_lies _ rfl _ _ _ rfl 0 89 j1 _ 1 24 Tryz.underlying83 hj1 hw0 hw1 hw2 rfl (by omega) (.slice adu k capu) k _ (by rfl) (HNQ.out.alloc _) ⟨wa.heap.size, 0, none⟩ 1 1 [.slice adq lq capq] (by rfl) (by rfl) (World.news_of_block (cs := #[.slice adq lq capq]) (t := 89) (fr := (0, 0)) (heap_alloc_new wa _)) (by simp [Value.oneCell']) (by omega) (by unfold maxLen; omega) (by omega) (by simp) (wa.heap.size + 1) (by simp) ?_; intro gg capn w2 hown1 hgrow hat hlt1; obtain ⟨f', hP1, hP2, hP3⟩ := HS.out w2 gg capn hown1 hgrow hat; have HPP := Lib.hid hP1))
      all_goals (
        go_roundw
        case rel => exact ⟨k + 1, f', by omega, by go_num, by rw [HSN.out]; exact HPP.out, hP2, hP3⟩
        case measure => simp [intOf]; omega)
    obtain rfl : k = ly := by omega
    rw [List.take_of_length_le (by omega)] at ho
    have HO := Lib.hid ho
    have HF := Lib.hid hf
    have HB := Lib.hid hb
    obtain ⟨adz, lz, capz, rfl, hlz, _, _, _⟩ := rdS_open (ownII_rd ho)
    rw [htl] at hlz
    subst hlz
    clear ho hf hb htl hwk
    go_wp2
    go_loopw [12] (fun i wr => ∃ j : Nat, j ≤ o ∧ i = .int .i64 j ∧ OwnII 89 3 wr (.slice adz k capz) (exI f.parts y o t j) fs0 ∧ Below w1.heap.size w1 wr) (fun i _ => o - (intOf i).toNat)
    case atStart => exact ⟨0, Nat.zero_le _, rfl, HO.out, HB.out⟩
    case round =>
      obtain ⟨wj, rfl⟩ : ∃ W, W = wr := ⟨_, rfl⟩
      obtain ⟨j, hj, rfl, hoj, hbj⟩ := hrel
      clear HO HB
      have hwj := HBW1.out.trans (hbj.mono HBW1.out.size)
      by_cases hjl : j < o
      case neg =>
        obtain rfl : j = o := by omega
        have hrow : ∀ z ∈ exI f.parts y j t j, z.length = j + 1 := fun z hz => (exI_ok HYM.out j z hz).1
        have P1 := Lib.hid (points_at _ (exI f.parts y j t j) (j + 1) ((j : Int) + 1) wj (by omega) (ownII_rd hoj) (by omega) (by rw [exI_len, HYN.out]; omega) hrow)
        have HWJ := Lib.hid hwj
        clear hoj hbj hrow hwj
        go_wp2_with (go_at_call 58; ((with_reducible refine (P1.out).mono ?_); rintro e wp ⟨p3, fp3, rfl, hop3, hfp3, hbc⟩))
        go_ret
        exact ⟨_, fp3, rfl, by rw [HE.out]; exact hop3, fun b hb => by { have := hfp3 b hb; have := HWJ.out.size; omega }, HWJ.out.trans (hbc.mono HWJ.out.size)⟩
      have hc0j := cell_below hbj hc0
      have hc1j := cell_below hbj hc1
      have hJ : fldD f.parts (exI f.parts y o t j) [] (o + 1) = fldJ f.parts (exI f.parts y o t j) := fldD_nil (by rw [hdL_at, exI_row _ _ _ _ _ _ (by rw [HYN.out]; omega)]) F5.out
      have A1 := Lib.hid (fieldAlong_any (.agg #[.int .i64 (k : Int), .slice adp lenp capp]) _ (.slice none 0 0) f (exI f.parts y o t j) [] k (o + 1) wj ⟨_, by rw [F1.out], hI, rdMss_mono hwj hp'⟩ (ownII_rd hoj) (rdIII_nil _) F2.out F5.out f3 f4 (by omega) (by omega) (by rw [exI_len, HYN.out]) (exI_ok HYM.out j) (by simp) (by simp))
      rw [hJ] at A1
      have HOJ := Lib.hid hoj
      have HBJ := Lib.hid hbj
      clear hJ hoj hbj hwj
      go_wp2_with fail
      refine (A1.out).mono ?_
      rintro e wa ⟨pv, fpv, rfl, hopv, hfpv, hba⟩
      obtain ⟨adv, lv, capv, rfl, hlv, _, _, _⟩ := rdS_open (ownII_rd hopv)
      rw [fldJ_len, F2.out] at hlv
      subst hlv
      have hoa := ownII_only HOJ.out (Only.of_below (fp := []) hba) (by simp)
      have hfz : ∀ b ∈ fs0, b < wj.heap.size := ownII_lt HOJ.out
      have HOA := Lib.hid hoa
      have HOV := Lib.hid hopv
      have HFV := Lib.hid hfpv
      have HFZ := Lib.hid hfz
      have HBA := Lib.hid (HBJ.out.trans (hba.mono HBJ.out.size))
      clear hopv hfpv hba hoa hfz A1 hc0j hc1j
      go_wp2
      go_loopw [50] (fun i wq => ∃ q : Nat, q ≤ k ∧ i = .int .i64 q ∧ OwnII 89 3 wq (.slice adz k capz) (exR (fldJ f.parts (exI f.parts y o t j)) (exI f.parts y o t j) j t q) fs0 ∧ OwnII 89 3 wq (.slice adv k capv) (fldJ f.parts (exI f.parts y o t j)) fpv ∧ Below w1.heap.size w1 wq) (fun i _ => k - (intOf i).toNat)
      case atStart => exact ⟨0, Nat.zero_le _, rfl, HOA.out, HOV.out, HBA.out⟩
      case round =>
        obtain ⟨wq, rfl⟩ : ∃ W, W = wr := ⟨_, rfl⟩
        obtain ⟨q, hq, rfl, hoq, hov, hbq⟩ := hrel
        clear HOA HOV HBA
        by_cases hql : q < k
        case neg =>
          obtain rfl : q = k := by omega
          have hR : exR (fldJ f.parts (exI f.parts y o t j)) (exI f.parts y o t j) j t q = exI f.parts y o t (j + 1) := by
            rw [← exR_done, HYN.out]
          rw [hR] at hoq
          have HOQ := Lib.hid hoq
          clear hoq hov hR
          go_wp2
          go_roundw
          case rel => exact ⟨j + 1, by omega, by go_num, HOQ.out, hbq⟩
          case measure => simp [intOf]; omega
        have hzl : (exI f.parts y o t j).length = k := by rw [exI_len, HYN.out]
        have hxq : (exR (fldJ f.parts (exI f.parts y o t j)) (exI f.parts y o t j) j t q)[q]? = some (atL (exI f.parts y o t j) q) := by
          have h1 := exR_at (fldJ f.parts (exI f.parts y o t j)) (exI f.parts y o t j) j t q (by omega) q (by omega)
          rw [if_neg (by omega)] at h1
          rw [← h1, List.getElem?_eq_getElem (by rw [exR_len]; omega), atL_get (List.getElem?_eq_getElem (by rw [exR_len]; omega))]
        have hrl : (atL (exI f.parts y o t j) q).length = o + 1 := (allJ_atL (exI_ok HYM.out j) (by omega)).1
        obtain ⟨z, hz⟩ : ∃ z, (atL (exI f.parts y o t j) q)[j + 1]? = some z := ⟨_, List.getElem?_eq_getElem (by omega)⟩
        obtain ⟨g, bz, cx, rfl, hqk, hcg, hjx, hcz, hfz, hbm, hset⟩ := ownII_set hoq hxq hz
        have hvx : (fldJ f.parts (exI f.parts y o t j))[q]? = some (atL (fldJ f.parts (exI f.parts y o t j)) q) := by
          rw [List.getElem?_eq_getElem (by rw [fldJ_len, F2.out]; exact hql), atL_get (List.getElem?_eq_getElem (by rw [fldJ_len, F2.out]; exact hql))]
        obtain ⟨bv, ov, ad6, l6, c6, vrow, rfl, hvr, hcv, h61, _, _, h64, _⟩ := rdII_get (ownII_rd hov) hql
        obtain rfl : atL (fldJ f.parts (exI f.parts y o t j)) q = vrow := by rw [hvx] at hvr; exact Option.some.inj hvr
        have hvl : (atL (fldJ f.parts (exI f.parts y o t j)) q).length = o + 1 := by
          have hqp : q < f.parts.length := by rw [F2.out]; exact hql
          have hpx : f.parts[q]? = some f.parts[q] := List.getElem?_eq_getElem hqp
          rw [fldJ_at hpx, dervL, dervP_len, hdL_at, exI_row _ _ _ _ _ _ (by rw [HYN.out]; omega)]
        obtain ⟨b7, o7, zv, rfl, hzv, hcv7, _, _⟩ := rdI_get h64 (k := j) (by omega)
        have hst := hset (fracZ (timesZ t zv) ((j : Int) + 1)) (i64_of_bd (fracZ_bd _ _))
        have hRs : (exR (fldJ f.parts (exI f.parts y o t j)) (exI f.parts y o t j) j t q).set q ((atL (exI f.parts y o t j) q).set (j + 1) (fracZ (timesZ t zv) ((j : Int) + 1))) = exR (fldJ f.parts (exI f.parts y o t j)) (exI f.parts y o t j) j t (q + 1) := by
          rw [exR, atZ_get hzv]
        rw [hRs] at hst
        have hO : Only [bz] wq (wq.setCell ⟨bz, j + 1, none⟩ (.int .i64 (fracZ (timesZ t zv) ((j : Int) + 1)))) := (Only.refl _ _).setCell (by simp) _
        have hov2 := ownII_only hov hO (fun b hb hm => by
          have h1 := HFV.out b hb
          have h2 := HFZ.out bz hbm
          have h3 := List.mem_singleton.1 hm
          omega)
        have hbq2 := hbq.setCell (p := ⟨bz, j + 1, none⟩) (HF.out bz hbm) (.int .i64 (fracZ (timesZ t zv) ((j : Int) + 1)))
        have hdr := below_drew (wq.setCell ⟨bz, j + 1, none⟩ (.int .i64 (fracZ (timesZ t zv) ((j : Int) + 1))))
        have HS1 := Lib.hid (ownII_only hst (Only.of_below (fp := []) hdr) (by simp))
        have HS2 := Lib.hid (ownII_only hov2 (Only.of_below (fp := []) hdr) (by simp))
        have HS3 := Lib.hid hbq2.drew
        rw [hrl] at hcg
        have hj6 : j < l6 := by omega
        have u2 : IntKind.i64.wrap ((j : Int) + 1) = (j : Int) + 1 := IntWalk.i64_in _ (by omega)
        have u4 : ((j : Int) + 1).toNat = j + 1 := by omega
        have u5 : 0 ≤ (j : Int) + 1 := by omega
        have u6 : (j : Int) + 1 < (o : Int) + 1 := by omega
        have u7 : j + 1 < o + 1 := by omega
        clear hst hRs hO hov2 hbq2 hdr hset hov hoq hxq hz hvx hvr hvl hzv h61 h64 hrl hzl hjx hbm hbq
        go_wp2
        (refine wp_region_still_tail 19 (by kernel_rfl) (by kernel_rfl) ?_; simp only [List.take_succ_cons, List.take_zero, List.drop_succ_cons, List.drop_zero]; (repeat (first | still_step | still_call (still_of (times_any _ _ _)) | still_call (still_of (fraction_any _ _ _)))); refine wpStill_nil ?_; change wpList _ _ _ _ _ (World.drew _))
        go_wp2
        go_roundw
        case rel => exact ⟨q + 1, by omega, by go_num, HS1.out, HS2.out, HS3.out⟩
        case measure => simp [intOf]; omega
end Go.Proofs.YtbcjhpgkodeoeaaGreatDoor

/- ExactPath of the reference. Conditions: lengths of slices up to 2^20. -/
namespace Go.Proofs.YtbcjhpgkodeoeaaGreatDoor
open Go.RowKit Go.Sort

end Go.Proofs.YtbcjhpgkodeoeaaGreatDoor

/- The reference's move of a point by the stages' values. Conditions: numbers. -/
namespace Go.Proofs.YtbcjhpgkodeoeaaGreatDoor
open Go.RowKit Go.Sort

/-- all stages' values are jets of this size -/
def VOk (st n size : Nat) (v : List (List (List Int))) : Prop := v.length = st ∧ ∀ a ∈ v, a.length = n ∧ AllJ size a
theorem VOk.at {st n size : Nat} {v : List (List (List Int))} (h : VOk st n size v) {s i : Nat} (hs : s < st) (hi : i < n) : (atL (atLL v s) i).length = size ∧ Nums (atL (atLL v s) i) := by
  have hx : v[s]? = some (v[s]'(by rw [h.1]; exact hs)) := List.getElem?_eq_getElem _
  have h2 := h.2 _ (List.mem_of_getElem? hx)
  have e : atLL v s = v[s]'(by rw [h.1]; exact hs) := by simp [atLL, hx]
  rw [e]
  exact allJ_atL h2.2 (by rw [h2.1]; exact hi)
theorem addJ_bd (xs ys : List Int) (k : Int) : Nums (addJ xs ys k) := by
  intro x hx
  simp only [addJ, List.mem_map] at hx
  obtain ⟨i, _, rfl⟩ := hx
  exact plusZ_bd _ _
theorem atRow_nums {ys : List (List Int)} (hy : ∀ x ∈ ys, Nums x) {i : Nat} (hi : i < ys.length) (vals : List (List (List Int))) (row : List Int) : ∀ s, Nums (atRow ys vals row i s)
  | 0 => by
    rw [atRow, atL, List.getElem?_eq_getElem hi]
    exact hy _ (List.getElem_mem _)
  | s + 1 => by rw [atRow]; exact addJ_bd _ _ _
theorem atAll_ok {ys : List (List Int)} {size : Nat} (h : AllJ size ys) (vals : List (List (List Int))) (row : List Int) (st : Nat) : AllJ size (atAll ys vals row st) := by
  intro x hx
  simp only [atAll, List.mem_map, List.mem_range] at hx
  obtain ⟨i, hi, rfl⟩ := hx
  exact ⟨by rw [atRow_len]; exact (allJ_atL h hi).1, atRow_nums (fun x hx => (h x hx).2) hi _ _ _⟩
end Go.Proofs.YtbcjhpgkodeoeaaGreatDoor

/- The closure of the program's step: a coordinate moved by the stages' values. Conditions: numbers. -/
namespace Go.Proofs.YtbcjhpgkodeoeaaGreatDoor
open Go.RowKit Go.Sort

set_option maxRecDepth 100000 in
set_option maxHeartbeats 6400000 in
theorem add_any (vr vy vv : Value) (ys : List (List Int)) (row : List Int) (vals : List (List (List Int))) (i n st size B bY bV : Nat) (wy w : World) (hcy : w.cell? ⟨bY, 0, none⟩ = some vy) (hcv : w.cell? ⟨bV, 0, none⟩ = some vv)
    (hy : RdII wy vy ys) (hwy : Below wy.heap.size wy w) (hB : wy.heap.size ≤ B) (hBw : B ≤ w.heap.size) (hr : RdI w vr row) (hv : RdIII w vv vals) (hyl : ys.length = n) (hyj : AllJ size ys)
    (hrl : row.length = st) (hvo : VOk st n size vals) (hi : i < n) (hs1 : 1 ≤ size) (hs7 : size ≤ 7) (hst : st ≤ 8) :
    Calls Tryz.prog 124 #[.int .i64 i, vr, .pointer (some ⟨bY, 0, none⟩), .pointer (some ⟨bV, 0, none⟩)] w (GivesR RdI B w (atRow ys vals row i st)) := by
  obtain ⟨ad1, len1, cap1, rfl, hl1, hlc1, hcm1, h1'⟩ := rdS_open hy
  obtain ⟨ad2, len2, cap2, rfl, hl2, hlc2, hcm2, h2'⟩ := rdS_open hr
  obtain ⟨ad3, len3, cap3, rfl, hl3, hlc3, hcm3, h3'⟩ := rdS_open hv
  obtain rfl : len1 = n := by omega
  obtain rfl : len2 = st := by omega
  obtain rfl : len3 = len2 := by have := hvo.1; omega
  obtain ⟨b5, o5, ad5, l5, c5, y, rfl, hy5, hcy5, h61, h62, h63, h64, _⟩ := rdII_get h1' hi
  obtain ⟨hyl5, hyn5⟩ := allJ_at hyj hy5
  obtain rfl : l5 = size := by omega
  have hcy5w := cell_below hwy hcy5
  have hsz := hwy.size
  have HL0 := Lib.hid (show atRow ys vals row i 0 = y by rw [atRow, atL_get hy5])
  have HLEN := Lib.hid (fun s : Nat => show (atRow ys vals row i s).length = l5 by rw [atRow_len, atL_get hy5, hyl5])
  have HU0 := Lib.hid (show RdI w (.slice ad5 l5 c5) (atRow ys vals row i 0) ∧ ∀ g, B ≤ g → g < w.heap.size → Apart RdI g w (.slice ad5 l5 c5) (atRow ys vals row i 0) from by
    rw [HL0.out]
    exact ⟨rdI_mono hwy h64, fun g hg _ => apart_old rdI_mono' h64 hwy (by omega)⟩)
  have HVO := Lib.hid hvo
  have HBL := Lib.hid (Below.refl w.heap.size w)
  clear hy hr hv hl1 hl2 hl3 hyl hyj hrl hvo hy5 h61 h64 hyl5 hyn5 hwy hcy5
  go_enter Tryz.func124, Tryz.ntmps124
  go_wp2
  go_loopw [7, 15] (fun u s wr => ∃ r : Nat, r ≤ len3 ∧ s = .int .i64 r ∧ (RdI wr u (atRow ys vals row i r) ∧ ∀ g, B ≤ g → g < w.heap.size → Apart RdI g wr u (atRow ys vals row i r)) ∧ Below w.heap.size w wr) (fun _ s _ => len3 - (intOf s).toNat)
  case atStart => exact ⟨0, Nat.zero_le _, rfl, HU0.out, HBL.out⟩
  case round =>
    obtain ⟨wk, rfl⟩ : ∃ W, W = wr := ⟨_, rfl⟩
    obtain ⟨r, hr, rfl, ⟨hu, hua⟩, hb⟩ := hrel
    clear HU0
    have hcvk := cell_below hb hcv
    by_cases hrl : r < len3
    case neg =>
      obtain rfl : r = len3 := by omega
      have HU := Lib.hid hu
      have HUA := Lib.hid hua
      obtain ⟨adu, lu, cu, rfl, _⟩ := rdS_open hu
      clear hu hua
      go_wp2
      go_ret
      exact ⟨_, rfl, HU.out, HUA.out, hb⟩
    obtain ⟨b6, o6, c, rfl, hc, hcc, hIc, _⟩ := rdI_get h2' hrl
    obtain ⟨b7, o7, ad7, l7, c7, V, rfl, hV, hcV, h71, h72, h73, h74, _⟩ := rdIII_get h3' hrl
    obtain ⟨hVl, hVj⟩ := HVO.out.2 V (List.mem_of_getElem? hV)
    obtain rfl : l7 = len1 := by omega
    obtain ⟨b8, o8, ad8, l8, c8, x, rfl, hx, hcx, h81, h82, h83, h84, _⟩ := rdII_get h74 hi
    obtain ⟨hxl, hxn⟩ := allJ_at hVj hx
    obtain rfl : l8 = l5 := by omega
    have hnext : atRow ys vals row i (r + 1) = addJ (atRow ys vals row i r) (laterJ x) c := by
      rw [atRow, show atLL vals r = V by simp [atLL, hV], atL_get hx, atZ_get hc]
    have hS0 : wk.cell? ⟨bV, 0, none⟩ = some (.slice (some ⟨b7, o7, none⟩) len3 cap3) ∧ wk.cell? ⟨b7, o7 + r, none⟩ = some (.slice (some ⟨b8, o8, none⟩) l7 c7) ∧ wk.cell? ⟨b8, o8 + i, none⟩ = some (.slice ad8 l8 c8) ∧ wk.cell? ⟨b6, o6 + r, none⟩ = some (.int .i64 c) :=
      ⟨hcvk, cell_below hb hcV, cell_below hb hcx, cell_below hb hcc⟩
    have HS0 := Lib.hid hS0
    have hdr : Below wk.heap.size wk wk.drew := (Below.refl _ _).drew
    have L1 := Lib.hid (later1_any _ x wk.drew (rdI_mono (hb.trans (hdr.mono hb.size)) h84) (by omega) (by omega))
    have HU := Lib.hid hu
    have HNX := Lib.hid hnext
    have HXL := Lib.hid hxl
    have HB := Lib.hid hb
    obtain ⟨adu, lu, cu, rfl, _⟩ := rdS_open hu
    clear hu hua hb hc hV h71 h74 hVl hVj hx h81 hxl hxn hnext h84 hS0 hcvk
    go_wp2
    go_region_held3 (fun w' => w'.cell? ⟨bV, 0, none⟩ = some (.slice (some ⟨b7, o7, none⟩) len3 cap3) ∧ w'.cell? ⟨b7, o7 + r, none⟩ = some (.slice (some ⟨b8, o8, none⟩) l7 c7) ∧ w'.cell? ⟨b8, o8 + i, none⟩ = some (.slice ad8 l8 c8) ∧ w'.cell? ⟨b6, o6 + r, none⟩ = some (.int .i64 c)) (first | exact HS0.out | exact hSa | exact hSb) (first | (go_at_call 125; (with_reducible refine (L1.out).mono ?_); rintro e wa ⟨p1, fp1, rfl, hop1, hfp1, hba⟩; have hra := hdr.trans (hba.mono hdr.size); have hSa := (show _ ∧ _ ∧ _ ∧ _ from ⟨cell_below hra HS0.out.1, cell_below hra HS0.out.2.1, cell_below hra HS0.out.2.2.1, cell_below hra HS0.out.2.2.2⟩); obtain ⟨adp, lp, cp, rfl, _, _, _, _, _, _⟩ := ownI_open hop1) | (go_at_call 68; (with_reducible refine (plusJ_any _ _ (atRow ys vals row i r) (laterJ x) c _ (rdI_mono (hdr.trans (hba.mono hdr.size)) HU.out) (ownI_rd hop1) (by rw [HLEN.out, laterJ_len, HXL.out]; exact Nat.le_refl _) (by rw [HLEN.out]; omega)).mono ?_); rintro e wb ⟨p2, fp2, rfl, hop2, hfp2, hbb⟩; have hrb := (hdr.trans (hba.mono hdr.size)).trans (hbb.mono (hdr.trans (hba.mono hdr.size)).size); have hSb := (show _ ∧ _ ∧ _ ∧ _ from ⟨cell_below hrb HS0.out.1, cell_below hrb HS0.out.2.1, cell_below hrb HS0.out.2.2.1, cell_below hrb HS0.out.2.2.2⟩)))
    all_goals (
      have hbB := HB.out.trans (hrb.mono HB.out.size)
      have hap : ∀ g, B ≤ g → g < w.heap.size → Apart RdI g wb p2 (atRow ys vals row i (r + 1)) := fun g hg hgw => by
        rw [HNX.out]
        exact apart_I hop2 (fun hm => by have h1 := hfp2 g hm; have h2 := hba.size; have h3 := HB.out.size; have h4 := hdr.size; omega)
      have hrd2 := ownI_rd hop2
      rw [← HNX.out] at hrd2
      have HR2 := Lib.hid hrd2
      have HAP := Lib.hid hap
      obtain ⟨adp2, lp2, cp2, rfl, _, _, _, _, _, _⟩ := ownI_open hop2
      clear hop1 hop2 hfp1 hfp2 hba hbb hra hrb hrd2 hap hSa hSb
      go_wp2
      go_roundw
      case rel => exact ⟨r + 1, by omega, by go_num, ⟨HR2.out, HAP.out⟩, hbB⟩
      case measure => simp [intOf]; omega)
end Go.Proofs.YtbcjhpgkodeoeaaGreatDoor
