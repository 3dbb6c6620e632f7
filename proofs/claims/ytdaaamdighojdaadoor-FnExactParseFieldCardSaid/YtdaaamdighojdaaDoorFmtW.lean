/- FormatField of the program: what it returns. Conditions: none. -/
import Derived.Test.YtdaaamdighojdaaDoorFmtP
set_option linter.unusedSimpArgs false
set_option linter.unusedVariables false
namespace Go.Proofs.YtdaaamdighojdaaDoor
open Go.RowKit Go.Sort

theorem fldT_no {f : FldZ} (h : fldOkB f = false) : fldT f = [] := by simp [fldT, h]
theorem fldT_yes {f : FldZ} (h : fldOkB f = true) : fldT f = Lib.join (f.parts.map polyT) [59, 32] := by simp [fldT, h]
theorem polyT_nil : polyT [] = [48] := by simp [polyT]
theorem polyT_some {p : List MonZ} (h : p ≠ []) : polyT p = Lib.join (p.map monT) [32, 43, 32] := by simp [polyT, h]
theorem monT_len {m : MonZ} (hl : m.pows.length ≤ 6) (h : ∀ n ∈ m.pows, n ≤ 5) : (monT m).length ≤ 41 := by
  have h1 := fmtT_len m.coef
  have h2 := powsT_len m.pows 0 h
  rw [monT, List.length_append]
  omega
theorem polyT_len {p : List MonZ} (hp : p.length ≤ 12) (hm : ∀ m ∈ p, m.pows.length ≤ 6 ∧ ∀ n ∈ m.pows, n ≤ 5) : (polyT p).length ≤ 528 := by
  unfold polyT
  split
  · simp
  · have h1 := join_len (xs := p.map monT) (sep := [32, 43, 32]) (k := 41) (fun x hx => by
      obtain ⟨m, hmm, rfl⟩ := List.mem_map.1 hx
      exact monT_len (hm m hmm).1 (hm m hmm).2)
    rw [List.length_map] at h1
    have h2 : p.length * (41 + [32, 43, (32 : UInt8)].length) ≤ 12 * 44 := Nat.mul_le_mul hp (by decide)
    omega
theorem fldT_join_len {f : FldZ} {n : Nat} (hn : f.parts.length = n) (hn6 : n ≤ 6) (hp : ∀ p ∈ f.parts, p.length ≤ 12 ∧ ∀ m ∈ p, MonFine n m) : (Lib.join (f.parts.map polyT) [59, 32]).length ≤ 3180 := by
  have h1 := join_len (xs := f.parts.map polyT) (sep := [59, 32]) (k := 528) (fun x hx => by
    obtain ⟨p, hpp, rfl⟩ := List.mem_map.1 hx
    exact polyT_len (hp p hpp).1 (fun m hm => ⟨by have := ((hp p hpp).2 m hm).2.1; omega, fun n hn => (((hp p hpp).2 m hm).2.2.2 n hn).2⟩))
  rw [List.length_map] at h1
  have h2 : f.parts.length * (528 + [59, (32 : UInt8)].length) ≤ 6 * 530 := Nat.mul_le_mul (by omega) (by decide)
  omega

set_option maxRecDepth 100000 in
set_option maxHeartbeats 6400000 in
theorem fmtFld_any (vf : Value) (f : FldZ) (w : World) (hf : RdFld w vf f) (hff : ∀ p ∈ f.parts, ∀ m ∈ p, Fit_Mon m) :
    Calls Tryd.prog 15 #[vf] w fun e w' => e = .returned (txt (fldT f)) ∧ Below w.heap.size w w' := by
  have hff' := hf
  obtain ⟨vP, rfl, hIf, hP⟩ := hf
  obtain ⟨adp, lp, cp, rfl⟩ := rdMss_slice hP
  have hb0 : Below w.heap.size w (w.alloc (.cells #[.int .i64 f.dim, .slice adp lp cp] 24)) := (Below.refl _ _).alloc (Nat.le_refl _) _
  have FOK := Lib.hid (fun (c : Bool) (hc : fldOkB f = c) => fldOk_eq (.agg #[.int .i64 f.dim, .slice adp lp cp]) f _ (rdFld_mono hb0 hff') hff hc)
  have HB0 := Lib.hid hb0
  cases hfo : fldOkB f with
  | false =>
    have F1 := Lib.hid (FOK.out false hfo)
    have HE := Lib.hid (show Value.string (ByteArray.mk #[]) = txt (fldT f) from by rw [fldT_no hfo]; rfl)
    clear hff' hP hb0 hfo hff FOK
    go_enter Tryd.func15, Tryd.ntmps15
    go_wp2_with fail
    refine F1.out.mono ?_
    rintro e w1 ⟨rfl, hb1⟩
    go_wp2
    go_ret
    exact ⟨ret_eq HE.out, HB0.out.trans (hb1.mono HB0.out.size)⟩
  | true =>
  have F1 := Lib.hid (FOK.out true hfo)
  have HF0 := Lib.hid (show (w.alloc (.cells #[.int .i64 f.dim, .slice adp lp cp] 24)).cell? ⟨w.heap.size, 1, none⟩ = some (.slice adp lp cp) from by simp)
  have HE := Lib.hid (fldT_yes hfo)
  obtain ⟨n, hdn, hpn, hn1, hn6, hparts⟩ := fldOk_parts hfo
  have HJL := Lib.hid (fldT_join_len hpn hn6 hparts)
  have hlp : lp = n := by
    obtain ⟨ad', len', cap', he, hl', _⟩ := rdS_open hP
    injection he with e1 e2 e3
    omega
  subst hlp
  have HPARTS := Lib.hid hparts
  have HPN := Lib.hid hpn
  have HPR := Lib.hid hP
  obtain ⟨i0, hi, hz0, hz1, hz2⟩ := info_parts Tryd.info_str
  clear hff' hP hb0 hfo hff FOK hdn hparts hpn
  go_enter Tryd.func15, Tryd.ntmps15
  go_wp2_with fail
  refine F1.out.mono ?_
  rintro e w1 ⟨rfl, hb1⟩
  have c1 := cell_below hb1 HF0.out
  have hb1w := HB0.out.trans (hb1.mono HB0.out.size)
  have c1c : (w1.alloc (.cells #[] 9)).cell? ⟨w.heap.size, 1, none⟩ = some (.slice adp lp cp) := cell_below ((Below.refl _ _).alloc (Nat.le_refl _) _) c1
  have HR0 := Lib.hid (RowT.new w1)
  have HB1 := Lib.hid hb1w
  clear hb1 hb1w c1
  go_wp2
  go_loopw [3, 19] (fun sv si wr => ∃ (k : Nat), si = .int .i64 k ∧ k ≤ lp ∧ RowT w1 wr sv ((f.parts.take k).map polyT) k) (fun _ si _ => lp - (intOf si).toNat)
  case atStart => exact ⟨0, rfl, Nat.zero_le _, HR0.out⟩
  case round =>
    obtain ⟨wz, rfl⟩ : ∃ W, W = wr := ⟨_, rfl⟩
    clear HR0 c1c
    obtain ⟨k, rfl, hk, hR⟩ := hrel
    obtain ⟨gr, cr, rfl, hgr⟩ := hR.shape
    have HR := Lib.hid hR
    have HBZ := Lib.hid (HB1.out.trans (hR.below.mono HB1.out.size))
    clear hR
    by_cases hlt : k < lp
    case neg =>
      obtain rfl : k = lp := by omega
      have J1 := Lib.hid (joinRow_any HR.out [59, 32] (by omega) (by
        rw [show f.parts.take k = f.parts from List.take_of_length_le (by rw [HPN.out]; exact Nat.le_refl _)]
        have := HJL.out
        omega))
      have HT := Lib.hid (show txt (Lib.join ((f.parts.take k).map polyT) [59, 32]) = txt (fldT f) from by rw [HE.out, show f.parts.take k = f.parts from List.take_of_length_le (by rw [HPN.out]; exact Nat.le_refl _)])
      rw [HT.out] at J1
      obtain ⟨x, hx⟩ : ∃ x, txt (fldT f) = .string x := ⟨_, rfl⟩
      rw [hx] at J1
      go_wp2_with fail
      refine J1.out.mono ?_
      rintro e w9 ⟨rfl, hb9⟩
      have hbz := HBZ.out.trans (hb9.mono HBZ.out.size)
      go_wp2
      go_ret
      exact ⟨ret_eq hx.symm, hbz⟩
    obtain ⟨bp, op, ad5, l5, c5, p, rfl, hp, hc5, h51, h52, h53, h54, _⟩ := rdMss_get (rdMss_mono HBZ.out HPR.out) hlt
    obtain ⟨hp12, hpm⟩ := HPARTS.out p (List.mem_of_getElem? hp)
    have HTN := Lib.hid (show ((f.parts.take (k + 1)).map polyT) = ((f.parts.take k).map polyT) ++ [polyT p] from by rw [take_snoc hp, List.map_append]; rfl)
    have HP5 := Lib.hid h54
    have HP12 := Lib.hid hp12
    have HPM := Lib.hid hpm
    have HL5 := Lib.hid h51
    have hl512 : l5 ≤ 12 := by omega
    have HRN := Lib.hid (RowT.new wz)
    have HPTL := Lib.hid (polyT_len hp12 (fun m hm => ⟨by have := (hpm m hm).2.1; omega, fun n hn => ((hpm m hm).2.2.2 n hn).2⟩))
    clear hp h51 h54 hp12 hpm
    go_wp2
    go_loopw [6, 26] (fun sv si wr => ∃ (j : Nat), si = .int .i64 j ∧ j ≤ l5 ∧ RowT wz wr sv ((p.take j).map monT) j) (fun _ si _ => l5 - (intOf si).toNat)
    case atStart => exact ⟨0, rfl, Nat.zero_le _, HRN.out⟩
    case round =>
      obtain ⟨wy, rfl⟩ : ∃ W, W = wr := ⟨_, rfl⟩
      clear HRN
      obtain ⟨j, rfl, hj, hT⟩ := hrel
      obtain ⟨gt, ct, rfl, hgt⟩ := hT.shape
      have HT := Lib.hid hT
      have HBY := Lib.hid hT.below
      have hsy := hT.below.size
      clear hT
      by_cases hlt2 : j < l5
      case neg =>
        obtain rfl : j = l5 := by omega
        have hpj : p.take j = p := List.take_of_length_le (by rw [HL5.out]; exact Nat.le_refl _)
        by_cases hl0 : j = 0
        · have hq0 : ((j : Int) == 0) = true := by simp [hl0]
          have HTT := Lib.hid (show RowT wz wy (.slice (some ⟨gt, 0, none⟩) j ct) [] j from by
            have h0 : p = [] := List.eq_nil_of_length_eq_zero (by rw [HL5.out]; exact hl0)
            have h1 := HT.out
            rw [hpj, h0] at h1
            exact h1)
          have HP0 := Lib.hid (show p = [] from List.eq_nil_of_length_eq_zero (by rw [HL5.out]; exact hl0))
          have HZS := Lib.hid (show Value.string (ByteArray.mk #[48]) = txt [48] from rfl)
          have hj1 : j ≤ 1 := by omega
          clear hpj hl0
          have HRQ6 := Lib.hid (HTT.out.row)
          have HPU6 := Lib.hid (fun (w' : World) (g' c' : Nat) (hown : w'.ownsRow 0 9 1 (.slice (some ⟨g', 0, none⟩) (j + 1) c') (j + 1) (_ ++ [.string (ByteArray.mk #[48])])) (hgrow : (wy.alloc (.cells #[.string (ByteArray.mk #[48])] 9)).grownBy w' (some gt)) (hat : some gt = some g' ∨ g' = wy.heap.size + 1) =>
            HTT.out.push (y := [48]) ((Below.refl _ _).alloc (Nat.le_refl _) _) (by rw [← HZS.out]; exact hown) hgrow (hat.elim (fun h => .inl (Option.some.inj h)) (fun h => .inr (by omega))))
          go_wp2_with (first | (at_builtin; refine wpList_append_lies _ rfl _ _ _ rfl 0 9 i0 _ 1 16 Tryd.underlying30 hi hz0 hz1 hz2 rfl (by omega) (.slice (some ⟨gt, 0, none⟩) j ct) j _ (by rfl) (HRQ6.out.alloc _) ⟨wy.heap.size, 0, none⟩ 1 1 [.string (ByteArray.mk #[48])] (by rfl) (by rfl) (World.news_of_block (cs := #[.string (ByteArray.mk #[48])]) (t := 9) (fr := (0, 0)) (heap_alloc_new _ _)) (by simp [Value.oneCell']) (by omega) (by unfold maxLen; omega) (by omega) (by simp) (wy.heap.size + 1) (by simp) ?_; intro g6 cap6 w6 hown1 hgrow hat hlt1; have HR6 := Lib.hid (HPU6.out w6 g6 cap6 hown1 hgrow hat); clear hown1 hgrow hat))
          have HR6' := Lib.hid (show RowT wz w6 (.slice (some ⟨g6, 0, none⟩) (j + 1) cap6) [[48]] (j + 1) from by simpa using HR6.out)
          have J1 := Lib.hid (joinRow_any HR6'.out [32, 43, 32] (by omega) (by simp [Lib.join_one]))
          have HTX := Lib.hid (show txt (Lib.join [[48]] [32, 43, 32]) = txt (polyT p) from by rw [HP0.out, polyT_nil, Lib.join_one])
          have HBW := Lib.hid HR6'.out.below
          obtain ⟨px, hpx⟩ : ∃ px, txt (polyT p) = .string px := ⟨_, rfl⟩
          rw [HTX.out, hpx] at J1
          have HPX := Lib.hid hpx.symm
          clear hpx
          go_wp2_with fail
          refine J1.out.mono ?_
          rintro e w7 ⟨rfl, hb7⟩
          have HR7 := Lib.hid (HR.out.step (HBW.out.trans (hb7.mono HBW.out.size)))
          clear hb7
          have HRQ8 := Lib.hid (HR7.out.row)
          have HPU8 := Lib.hid (fun (w' : World) (g' c' : Nat) (hown : w'.ownsRow 0 9 1 (.slice (some ⟨g', 0, none⟩) (k + 1) c') (k + 1) (_ ++ [.string px])) (hgrow : (w7.alloc (.cells #[.string px] 9)).grownBy w' (some gr)) (hat : some gr = some g' ∨ g' = w7.heap.size + 1) =>
            HR7.out.push (y := polyT p) ((Below.refl _ _).alloc (Nat.le_refl _) _) (by rw [← HPX.out]; exact hown) hgrow (hat.elim (fun h => .inl (Option.some.inj h)) (fun h => .inr (by omega))))
          go_wp2_with (first | (at_builtin; refine wpList_append_lies _ rfl _ _ _ rfl 0 9 i0 _ 1 16 Tryd.underlying30 hi hz0 hz1 hz2 rfl (by omega) (.slice (some ⟨gr, 0, none⟩) k cr) k _ (by rfl) (HRQ8.out.alloc _) ⟨w7.heap.size, 0, none⟩ 1 1 [.string px] (by rfl) (by rfl) (World.news_of_block (cs := #[.string px]) (t := 9) (fr := (0, 0)) (heap_alloc_new _ _)) (by simp [Value.oneCell']) (by omega) (by unfold maxLen; omega) (by omega) (by simp) (w7.heap.size + 1) (by simp) ?_; intro g8 cap8 w8 hown1 hgrow hat hlt1; have HR8 := Lib.hid (HPU8.out w8 g8 cap8 hown1 hgrow hat); clear hown1 hgrow hat))
          have HN := Lib.hid (show RowT w1 w8 (.slice (some ⟨g8, 0, none⟩) (k + 1) cap8) ((f.parts.take (k + 1)).map polyT) (k + 1) from by rw [HTN.out]; exact HR8.out)
          go_roundw
          case rel => exact ⟨k + 1, by go_num, by omega, HN.out⟩
          case measure => (simp [intOf]; try omega)
        · have hq0 : ((j : Int) == 0) = false := by simp; omega
          have HP0 := Lib.hid (show p ≠ [] from fun h => by have := HL5.out; rw [h] at this; simp at this; omega)
          have HTX := Lib.hid (show txt (Lib.join ((p.take j).map monT) [32, 43, 32]) = txt (polyT p) from by rw [polyT_some HP0.out, hpj])
          have J1 := Lib.hid (joinRow_any HT.out [32, 43, 32] (by omega) (by
            have := HPTL.out
            rw [polyT_some HP0.out] at this
            rw [hpj]
            omega))
          have HBW := HBY
          clear hpj hl0
          obtain ⟨px, hpx⟩ : ∃ px, txt (polyT p) = .string px := ⟨_, rfl⟩
          rw [HTX.out, hpx] at J1
          have HPX := Lib.hid hpx.symm
          clear hpx
          go_wp2_with fail
          refine J1.out.mono ?_
          rintro e w7 ⟨rfl, hb7⟩
          have HR7 := Lib.hid (HR.out.step (HBW.out.trans (hb7.mono HBW.out.size)))
          clear hb7
          have HRQ8 := Lib.hid (HR7.out.row)
          have HPU8 := Lib.hid (fun (w' : World) (g' c' : Nat) (hown : w'.ownsRow 0 9 1 (.slice (some ⟨g', 0, none⟩) (k + 1) c') (k + 1) (_ ++ [.string px])) (hgrow : (w7.alloc (.cells #[.string px] 9)).grownBy w' (some gr)) (hat : some gr = some g' ∨ g' = w7.heap.size + 1) =>
            HR7.out.push (y := polyT p) ((Below.refl _ _).alloc (Nat.le_refl _) _) (by rw [← HPX.out]; exact hown) hgrow (hat.elim (fun h => .inl (Option.some.inj h)) (fun h => .inr (by omega))))
          go_wp2_with (first | (at_builtin; refine wpList_append_lies _ rfl _ _ _ rfl 0 9 i0 _ 1 16 Tryd.underlying30 hi hz0 hz1 hz2 rfl (by omega) (.slice (some ⟨gr, 0, none⟩) k cr) k _ (by rfl) (HRQ8.out.alloc _) ⟨w7.heap.size, 0, none⟩ 1 1 [.string px] (by rfl) (by rfl) (World.news_of_block (cs := #[.string px]) (t := 9) (fr := (0, 0)) (heap_alloc_new _ _)) (by simp [Value.oneCell']) (by omega) (by unfold maxLen; omega) (by omega) (by simp) (w7.heap.size + 1) (by simp) ?_; intro g8 cap8 w8 hown1 hgrow hat hlt1; have HR8 := Lib.hid (HPU8.out w8 g8 cap8 hown1 hgrow hat); clear hown1 hgrow hat))
          have HN := Lib.hid (show RowT w1 w8 (.slice (some ⟨g8, 0, none⟩) (k + 1) cap8) ((f.parts.take (k + 1)).map polyT) (k + 1) from by rw [HTN.out]; exact HR8.out)
          go_roundw
          case rel => exact ⟨k + 1, by go_num, by omega, HN.out⟩
          case measure => (simp [intOf]; try omega)
      obtain ⟨bm, om, adm, lm, cm, m, hbm, hm, hc0, hc1, hIm, hm1, hm2, hm3, hm4, _⟩ := rdMs_get (rdMs_mono HBY.out HP5.out) hlt2
      obtain ⟨⟨hmc0, hmc1⟩, hml, hmd, hmp⟩ := HPM.out m (List.mem_of_getElem? hm)
      subst hbm
      obtain ⟨W1, hW1⟩ : ∃ W, W = wy.alloc (.cells #[.int .i64 m.coef, .slice adm lm cm] 35) := ⟨_, rfl⟩
      have hbW1 : Below wy.heap.size wy W1 := hW1 ▸ (Below.refl _ _).alloc (Nat.le_refl _) _
      have hx0 : W1.cell? ⟨wy.heap.size, 0, none⟩ = some (.int .i64 m.coef) := by rw [hW1]; simp
      have hx1 : W1.cell? ⟨wy.heap.size, 1, none⟩ = some (.slice adm lm cm) := by rw [hW1]; simp
      have HRM := Lib.hid (rdI_mono hbW1 hm4)
      have HMP := Lib.hid hmp
      have HML := Lib.hid hm1
      have hlm6 : lm ≤ 6 := by omega
      have HMN := Lib.hid (show ((p.take (j + 1)).map monT) = ((p.take j).map monT) ++ [monT m] from by rw [take_snoc hm, List.map_append]; rfl)
      have HT1 := Lib.hid (HT.out.step hbW1)
      obtain ⟨s0, hs0⟩ : ∃ s, s = ByteArray.mk (fmtT m.coef).toArray := ⟨_, rfl⟩
      have FN := Lib.hid (show Calls Tryd.prog 29 #[.int .i64 m.coef] W1 fun e w' => e = .returned (.string s0) ∧ W1 = w' from by rw [hs0]; exact fmtNum_any m.coef W1)
      have HS0 := Lib.hid hs0
      have HW1 := Lib.hid hW1
      clear hm hm1 hm4 hml hmd hmp hW1 hs0 hmc0 hmc1
      go_wp2_with fail
      rw [← HW1.out]
      refine FN.out.mono ?_
      rintro e w' ⟨rfl, rfl⟩
      go_wp2
      go_loopw [9, 36] (fun sv si wr => ∃ (r : Nat) (s : ByteArray), si = .int .i64 r ∧ sv = .string s ∧ r ≤ lm ∧ s = ByteArray.mk (fmtT m.coef ++ powsT 0 (m.pows.take r)).toArray ∧ W1 = wr) (fun _ si _ => lm - (intOf si).toNat)
      case atStart => exact ⟨0, s0, rfl, rfl, Nat.zero_le _, by rw [HS0.out]; simp [powsT], rfl⟩
      case round =>
        obtain ⟨r, s, rfl, rfl, hr, hs, rfl⟩ := hrel
        by_cases hlt3 : r < lm
        case neg =>
          obtain rfl : r = lm := by omega
          have HSS := Lib.hid (show Value.string s = txt (monT m) from by rw [hs, List.take_of_length_le (by rw [HML.out]; exact Nat.le_refl _)]; rfl)
          clear hs
          have HRQ5 := Lib.hid (HT1.out.row)
          have HPU5 := Lib.hid (fun (w' : World) (g' c' : Nat) (hown : w'.ownsRow 0 9 1 (.slice (some ⟨g', 0, none⟩) (j + 1) c') (j + 1) (_ ++ [.string s])) (hgrow : (W1.alloc (.cells #[.string s] 9)).grownBy w' (some gt)) (hat : some gt = some g' ∨ g' = W1.heap.size + 1) =>
            HT1.out.push (y := monT m) ((Below.refl _ _).alloc (Nat.le_refl _) _) (by rw [← HSS.out]; exact hown) hgrow (hat.elim (fun h => .inl (Option.some.inj h)) (fun h => .inr (by omega))))
          go_wp2_with (first | (at_builtin; refine wpList_append_lies _ rfl _ _ _ rfl 0 9 i0 _ 1 16 Tryd.underlying30 hi hz0 hz1 hz2 rfl (by omega) (.slice (some ⟨gt, 0, none⟩) j ct) j _ (by rfl) (HRQ5.out.alloc _) ⟨W1.heap.size, 0, none⟩ 1 1 [.string s] (by rfl) (by rfl) (World.news_of_block (cs := #[.string s]) (t := 9) (fr := (0, 0)) (heap_alloc_new _ _)) (by simp [Value.oneCell']) (by omega) (by unfold maxLen; omega) (by omega) (by simp) (W1.heap.size + 1) (by simp) ?_; intro g5 cap5 w5 hown1 hgrow hat hlt1; have HR5 := Lib.hid (HPU5.out w5 g5 cap5 hown1 hgrow hat); clear hown1 hgrow hat))
          have HN := Lib.hid (show RowT wz w5 (.slice (some ⟨g5, 0, none⟩) (j + 1) cap5) ((p.take (j + 1)).map monT) (j + 1) from by rw [HMN.out]; exact HR5.out)
          go_roundw
          case rel => exact ⟨j + 1, by go_num, by omega, HN.out⟩
          case measure => (simp [intOf]; try omega)
        obtain ⟨bq, oq, x, rfl, hx, hcx, hIx, _⟩ := rdI_get HRM.out hlt3
        obtain ⟨hx0', hx5⟩ := HMP.out x (List.mem_of_getElem? hx)
        have hnx : powsT 0 (m.pows.take (r + 1)) = powsT 0 (m.pows.take r) ++ powL r x := by
          rw [take_snoc hx, powsT_snoc, List.length_take, HML.out, Nat.min_eq_left (by omega), Nat.zero_add]
        have hsl : (fmtT m.coef ++ powsT 0 (m.pows.take r)).length ≤ 41 := by
          have h1 := fmtT_len m.coef
          have h2 := powsT_len (m.pows.take r) 0 (fun n hn => (HMP.out n (List.mem_of_mem_take hn)).2)
          rw [List.length_append]
          rw [List.length_take] at h2
          omega
        by_cases hp0 : 0 < x
        case neg =>
          have HN := Lib.hid (show s = ByteArray.mk (fmtT m.coef ++ powsT 0 (m.pows.take (r + 1))).toArray from by rw [hs, hnx, powL, if_neg hp0, List.append_nil])
          clear hs hnx hx hsl
          go_wp2
          go_roundw
          case rel => exact ⟨r + 1, s, by go_num, rfl, by omega, HN.out, by first | trivial | rfl⟩
          case measure => (simp [intOf]; try omega)
        obtain ⟨e1, he1⟩ : ∃ e, Utf8.encode (97 + (r : Int)) = e := ⟨_, rfl⟩
        have he1' : e1 = ByteArray.mk [UInt8.ofNat (97 + r)].toArray := by
          rw [← he1, show (97 : Int) + (r : Int) = ((97 + r : Nat) : Int) by omega, enc_ascii _ (by omega)]
        obtain ⟨s1, hs1⟩ : ∃ s1, s1 = ByteArray.mk ([42] ++ [UInt8.ofNat (97 + r)]).toArray := ⟨_, rfl⟩
        obtain ⟨s2, hs2⟩ : ∃ s2, s2 = ByteArray.mk ((fmtT m.coef ++ powsT 0 (m.pows.take r)) ++ ([42] ++ [UInt8.ofNat (97 + r)])).toArray := ⟨_, rfl⟩
        have hc1 : ∀ w : World, (Op.stringOp .add (ByteArray.mk #[42]) e1).run Tryd.prog w = .ok (.string s1) w := fun w => by
          rw [he1', hs1]
          exact cat_run [42] [UInt8.ofNat (97 + r)] (by simp) w
        have hc2 : ∀ w : World, (Op.stringOp .add s s1).run Tryd.prog w = .ok (.string s2) w := fun w => by
          rw [hs, hs1, hs2]
          exact cat_run _ _ (by simp at hsl ⊢; omega) w
        by_cases hp1 : 1 < x
        · obtain ⟨d, hd⟩ : ∃ d, d = ByteArray.mk (decL x.toNat).toArray := ⟨_, rfl⟩
          obtain ⟨s3, hs3⟩ : ∃ s3, s3 = ByteArray.mk (((fmtT m.coef ++ powsT 0 (m.pows.take r)) ++ ([42] ++ [UInt8.ofNat (97 + r)])) ++ decL x.toNat).toArray := ⟨_, rfl⟩
          have hdl := decL_len x.toNat 0 (by omega)
          have hc3 : ∀ w : World, (Op.stringOp .add s2 d).run Tryd.prog w = .ok (.string s3) w := fun w => by
            rw [hs2, hd, hs3]
            exact cat_run _ _ (by simp at hsl hdl ⊢; omega) w
          have D1 := Lib.hid (show Calls Tryd.prog 30 #[.int .i64 x] W1 fun e w' => e = .returned (.string d) ∧ W1 = w' from by
            rw [hd]
            exact decimal_any (n := x.toNat) (by omega) (by omega) W1)
          have HN := Lib.hid (show s3 = ByteArray.mk (fmtT m.coef ++ powsT 0 (m.pows.take (r + 1))).toArray from by rw [hs3, hnx, powL, if_pos hp0, if_pos hp1]; simp)
          clear hs hnx hx hsl he1' hs1 hs2 hd hs3 hdl
          go_wp2_with fail
          refine D1.out.mono ?_
          rintro e w' ⟨rfl, rfl⟩
          go_wp2
          go_roundw
          case rel => exact ⟨r + 1, s3, by go_num, rfl, by omega, HN.out, by first | trivial | rfl⟩
          case measure => (simp [intOf]; try omega)
        · have HN := Lib.hid (show s2 = ByteArray.mk (fmtT m.coef ++ powsT 0 (m.pows.take (r + 1))).toArray from by rw [hs2, hnx, powL, if_pos hp0, if_neg hp1]; simp)
          clear hs hnx hx hsl he1' hs1 hs2
          go_wp2
          go_roundw
          case rel => exact ⟨r + 1, s2, by go_num, rfl, by omega, HN.out, by first | trivial | rfl⟩
          case measure => (simp [intOf]; try omega)
end Go.Proofs.YtdaaamdighojdaaDoor
