/- FormatField of the reference: what it returns. Conditions: none. -/
import Derived.Test.YtdaaamdighojdaaDoorFmtS
set_option linter.unusedSimpArgs false
set_option linter.unusedVariables false
namespace Go.Proofs.YtdaaamdighojdaaDoor
open Go.RowKit Go.Sort

theorem fldJ_take {ps : List (List MonZ)} {i : Nat} {p : List MonZ} (h : ps[i]? = some p) : Lib.join ((ps.take (i + 1)).map polyT) [59, 32] = (if i = 0 then [] else Lib.join ((ps.take i).map polyT) [59, 32] ++ [59, 32]) ++ polyT p := by
  have hi := (List.getElem?_eq_some_iff.1 h).1
  rw [take_snoc h, List.map_append, List.map_singleton, join_snoc]
  by_cases h0 : i = 0
  · subst h0; simp
  · rw [if_neg h0, if_neg (by simp; exact ⟨h0, fun e => by subst e; simp at hi⟩)]
    simp

set_option maxRecDepth 100000 in
set_option maxHeartbeats 6400000 in
theorem sFmtFld_any (vf : Value) (f : FldZ) (w : World) (hf : RdFld w vf f) :
    Calls Tryd.prog 11 #[vf] w fun e w' => e = .returned (txt (fldT f)) ∧ Below w.heap.size w w' := by
  have hff' := hf
  obtain ⟨vP, rfl, hIf, hP⟩ := hf
  obtain ⟨adp, lp, cp, rfl⟩ := rdMss_slice hP
  have hb0 : Below w.heap.size w (w.alloc (.cells #[.int .i64 f.dim, .slice adp lp cp] 24)) := (Below.refl _ _).alloc (Nat.le_refl _) _
  have FOK := Lib.hid (fun (c : Bool) (hc : fldOkB f = c) => sFldOk_eq (.agg #[.int .i64 f.dim, .slice adp lp cp]) f _ (rdFld_mono hb0 hff') hc)
  have HB0 := Lib.hid hb0
  cases hfo : fldOkB f with
  | false =>
    have F1 := Lib.hid (FOK.out false hfo)
    have HE := Lib.hid (show Value.string (ByteArray.mk #[]) = txt (fldT f) from by rw [fldT_no hfo]; rfl)
    clear hff' hP hb0 hfo FOK
    go_enter Tryd.func11, Tryd.ntmps11
    go_wp2_with fail
    refine F1.out.mono ?_
    rintro e w1 ⟨rfl, hb1⟩
    go_wp2
    go_ret
    exact ⟨ret_eq HE.out, HB0.out.trans (hb1.mono HB0.out.size)⟩
  | true =>
  have F1 := Lib.hid (FOK.out true hfo)
  have HC0 := Lib.hid (show (w.alloc (.cells #[.int .i64 f.dim, .slice adp lp cp] 24)).cell? ⟨w.heap.size, 0, none⟩ = some (.int .i64 f.dim) from by simp)
  have HC1 := Lib.hid (show (w.alloc (.cells #[.int .i64 f.dim, .slice adp lp cp] 24)).cell? ⟨w.heap.size, 1, none⟩ = some (.slice adp lp cp) from by simp)
  have HE := Lib.hid (fldT_yes hfo)
  obtain ⟨n, hdn, hpn, hn1, hn6, hparts⟩ := fldOk_parts hfo
  obtain ⟨_, _, _, hvp, hlp, _, _, _⟩ := rdS_open hP
  injection hvp with e1 e2 e3
  subst e1 e2 e3
  obtain rfl : lp = n := by omega
  have HPN := Lib.hid hpn
  have HPA := Lib.hid hparts
  have HP := Lib.hid hP
  have HDN := Lib.hid hdn
  clear hff' hP hb0 hfo FOK hparts hpn hlp hdn
  go_enter Tryd.func11, Tryd.ntmps11
  go_wp2_with fail
  refine F1.out.mono ?_
  rintro e w1 ⟨rfl, hb1⟩
  have hc0 := cell_below hb1 HC0.out
  have hc1 := cell_below hb1 HC1.out
  rw [HDN.out] at hc0
  have hbw := HB0.out.trans (hb1.mono HB0.out.size)
  clear hb1 F1 HC0 HC1
  go_wp2
  go_loopw [3, 4] (fun ss si wr => ∃ (i : Nat) (s : ByteArray), si = .int .i64 i ∧ ss = .string s ∧ i ≤ lp ∧ s = ByteArray.mk (Lib.join ((f.parts.take i).map polyT) [59, 32]).toArray ∧ Below w.heap.size w wr ∧ wr.cell? ⟨w.heap.size, 0, none⟩ = some (.int .i64 lp) ∧ wr.cell? ⟨w.heap.size, 1, none⟩ = some (.slice adp lp cp)) (fun _ si _ => lp - (intOf si).toNat)
  case atStart => exact ⟨0, _, rfl, rfl, Nat.zero_le _, by simp [Lib.join_nil], hbw, hc0, hc1⟩
  case round =>
    obtain ⟨wk, rfl⟩ : ∃ W, W = wr := ⟨_, rfl⟩
    clear hbw hc0 hc1
    obtain ⟨i, s, rfl, rfl, hi, hs, hb, hc0, hc1⟩ := hrel
    by_cases hlt : i < lp
    case neg =>
      obtain rfl : i = lp := by omega
      have HR := Lib.hid (show Value.string s = txt (fldT f) from by rw [hs, HE.out, List.take_of_length_le (by rw [HPN.out]; exact Nat.le_refl _)]; rfl)
      clear hs
      go_wp2
      go_ret
      exact ⟨ret_eq HR.out, hb⟩
    obtain ⟨bq, oq, adq, lq, cq, q, hbq, hq, hcq, hql, hqc, hqc', hqr, _⟩ := rdMss_get HP.out hlt
    obtain ⟨hq12, hqm⟩ := HPA.out q (List.mem_of_getElem? hq)
    subst hbq
    have hcq := cell_below hb hcq
    have L1 := Lib.hid (sText_any _ q lp wk (rdMs_mono hb hqr) hq12 hqm hn6)
    have hpl := polyT_len hq12 (fun m hm => ⟨by have := (hqm m hm).2.1; omega, fun x hx => ((hqm m hm).2.2.2 x hx).2⟩)
    have hjt := fldJ_take hq
    have hjl : (Lib.join ((f.parts.take i).map polyT) [59, 32]).length ≤ 3180 := by
      have h1 := join_len (xs := (f.parts.take i).map polyT) (sep := [59, 32]) (k := 528) (fun x hx => by
        obtain ⟨p, hpp, rfl⟩ := List.mem_map.1 hx
        have hpf := HPA.out p (List.mem_of_mem_take hpp)
        exact polyT_len hpf.1 (fun m hm => ⟨by have := (hpf.2 m hm).2.1; omega, fun x hx => ((hpf.2 m hm).2.2.2 x hx).2⟩))
      rw [List.length_map, List.length_take] at h1
      have h2 : min i f.parts.length * (528 + [59, (32 : UInt8)].length) ≤ 6 * 530 := Nat.mul_le_mul (by omega) (by decide)
      omega
    obtain ⟨u, hu⟩ : ∃ u, u = ByteArray.mk (polyT q).toArray := ⟨_, rfl⟩
    have L2 := Lib.hid (show Calls Tryd.prog 24 #[.slice adq lq cq] wk fun e w' => e = .returned (.string u) ∧ Below wk.heap.size wk w' from by rw [hu]; exact L1.out)
    obtain ⟨s2, hs2⟩ : ∃ s2, s2 = ByteArray.mk (Lib.join ((f.parts.take (i + 1)).map polyT) [59, 32]).toArray := ⟨_, rfl⟩
    have HN := Lib.hid hs2
    have hi1 : (i : Int) < lp := by omega
    by_cases h0 : i = 0
    · have hcc : ∀ w : World, (Op.stringOp .add s u).run Tryd.prog w = .ok (.string s2) w := fun w => by
        rw [hs, hu, hs2, hjt, if_pos h0, h0]
        exact cat_run _ _ (by simp [Lib.join_nil]; omega) w
      have hi0 : (i : Int) ≤ 0 := by omega
      clear hs hu hs2 hjt hjl hpl hq hql hqr hqm L1 h0
      go_wp2_with fail
      refine L2.out.mono ?_
      rintro e w2 ⟨rfl, hb2⟩
      have hd0 := cell_below hb2 hc0
      have hd1 := cell_below hb2 hc1
      have hb2w := hb.trans (hb2.mono hb.size)
      clear hb2 hc0 hc1 hb hcq
      go_wp2
      go_roundw
      case rel => exact ⟨i + 1, s2, by go_num, rfl, by omega, HN.out, hb2w, hd0, hd1⟩
      case measure => (simp [intOf]; try omega)
    · obtain ⟨s1, hs1⟩ : ∃ s1, s1 = ByteArray.mk (Lib.join ((f.parts.take i).map polyT) [59, 32] ++ [59, 32]).toArray := ⟨_, rfl⟩
      have hcp : ∀ w : World, (Op.stringOp .add s (ByteArray.mk #[59, 32])).run Tryd.prog w = .ok (.string s1) w := fun w => by
        rw [hs, hs1]
        exact cat_run _ [59, 32] (by simp only [List.length_cons, List.length_nil]; omega) w
      have hcc : ∀ w : World, (Op.stringOp .add s1 u).run Tryd.prog w = .ok (.string s2) w := fun w => by
        rw [hs1, hu, hs2, hjt, if_neg h0]
        exact cat_run _ _ (by rw [List.length_append]; simp only [List.length_cons, List.length_nil]; omega) w
      have hi0 : (0 : Int) < (i : Int) := by omega
      clear hs hs1 hu hs2 hjt hjl hpl hq hql hqr hqm L1 h0
      go_wp2_with fail
      refine L2.out.mono ?_
      rintro e w2 ⟨rfl, hb2⟩
      have hd0 := cell_below hb2 hc0
      have hd1 := cell_below hb2 hc1
      have hb2w := hb.trans (hb2.mono hb.size)
      clear hb2 hc0 hc1 hb hcq
      go_wp2
      go_roundw
      case rel => exact ⟨i + 1, s2, by go_num, rfl, by omega, HN.out, hb2w, hd0, hd1⟩
      case measure => (simp [intOf]; try omega)
end Go.Proofs.YtdaaamdighojdaaDoor
