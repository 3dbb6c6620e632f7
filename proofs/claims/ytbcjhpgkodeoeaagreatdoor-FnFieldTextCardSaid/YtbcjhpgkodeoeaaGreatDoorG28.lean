/- The texts ParW, RowT in one: each says at its head what it proves. Conditions: as said there. -/
import Derived.Test.YtbcjhpgkodeoeaaGreatDoorG27
import Derived.Test.YtbcjhpgkodeoeaaGreatDoorG15
set_option linter.unusedSimpArgs false
set_option linter.unusedVariables false
/- Numbers read from texts: both programs. Conditions: texts of at most a million bytes. -/
namespace Go.Proofs.YtbcjhpgkodeoeaaGreatDoor
open Go.RowKit Go.Sort

/-- The number read, or 0. -/
def numV (l : List UInt8) : Int := if okI l = true then numI l else 0
theorem numI_bd (l : List UInt8) : -1 ≤ numI l ∧ numI l < 10000000000 := by
  unfold numI
  generalize (if (Lib.cut (Lib.trimPrefix l [45]) [47]).2.2 = true then digI (Lib.cut (Lib.trimPrefix l [45]) [47]).2.1 else 1) = b
  generalize digI (Lib.cut (Lib.trimPrefix l [45]) [47]).1 = a
  have h1 := frac_bd a b
  have h2 := digI_bd (l.drop 1)
  by_cases k1 : Lib.hasPrefix l [35] = true
  · rw [if_pos k1]; exact h2
  · rw [if_neg k1]
    by_cases k2 : a < 0 ∨ b < 1
    · rw [if_pos k2]; omega
    · rw [if_neg k2]
      by_cases k3 : (Lib.trimPrefix l [45]).length < l.length
      · rw [if_pos k3]; omega
      · rw [if_neg k3]; omega
theorem numV_i64 (l : List UInt8) : I64 (numV l) := by
  have := numI_bd l
  unfold numV
  split
  · exact ⟨by omega, by omega⟩
  · exact ⟨by decide, by decide⟩
theorem split_small {sep : List UInt8} (h0 : sep ≠ []) : ∀ (n : Nat) (t : List UInt8), t.length ≤ n → ∀ x ∈ Lib.split t sep, x.length ≤ n := by
  intro n
  induction n with
  | zero =>
    intro t ht x hx
    have ht0 : t = [] := List.eq_nil_of_length_eq_zero (by omega)
    subst ht0
    rcases Lib.index_spec [] sep with ⟨h1, _⟩ | ⟨i, h1, _, h3, _⟩
    · rw [split_miss h1, List.mem_singleton] at hx
      rw [hx]; simp
    · rcases Lib.occAt_room h3 with h | h
      · have := List.length_pos_iff.2 h0; simp at h; exact absurd h.2 h0
      · exact absurd h h0
  | succ n ih =>
    intro t ht x hx
    rcases Lib.index_spec t sep with ⟨h1, _⟩ | ⟨i, h1, h2, h3, _⟩
    · rw [split_miss h1, List.mem_singleton] at hx
      rw [hx]; exact ht
    · rw [split_hit h0 h1, List.mem_cons] at hx
      rcases hx with rfl | hx
      · rw [List.length_take]; omega
      · have := List.length_pos_iff.2 h0
        have := ih (t.drop (i + sep.length)) (by rw [List.length_drop]; omega) x hx
        omega
theorem numV_yes {l : List UInt8} {n : Int} (h1 : numS l = some n) (h2 : fmtT n = l) : okI l = true ∧ numV l = n := by
  obtain ⟨k1, k2⟩ := num_same l
  have h3 : okS l = true := by unfold okS; rw [h1]; simp [h2]
  have h4 := k1.trans h3
  refine ⟨h4, ?_⟩
  rw [numV, if_pos h4]
  have := k2 h4
  rw [h1] at this
  exact (Option.some.inj this).symm
theorem numV_no {l : List UInt8} (h : okI l = false) : okI l = false ∧ numV l = 0 := ⟨h, by rw [numV, h]; rfl⟩
theorem numV_none {l : List UInt8} (h : numS l = none) : okI l = false ∧ numV l = 0 := numV_no ((num_same l).1.trans (by unfold okS; rw [h]))
theorem numV_bad {l : List UInt8} {n : Int} (h1 : numS l = some n) (h2 : fmtT n ≠ l) : okI l = false ∧ numV l = 0 := numV_no ((num_same l).1.trans (by unfold okS; rw [h1]; simp [h2]))
theorem fmt_cmp {x s : ByteArray} {n : Int} {l : List UInt8} (hx : txt (fmtT n) = .string x) (hs : s = ByteArray.mk l.toArray) : (x.toList == s.toList) = decide (fmtT n = l) := by
  unfold txt at hx
  injection hx with hx
  rw [← hx, hs, ByteArray.toList_mk, ByteArray.toList_mk, Bool.eq_iff_iff, beq_iff_eq, decide_eq_true_eq]
theorem str_empty {s : ByteArray} {l : List UInt8} (hs : s = ByteArray.mk l.toArray) : s.toList.isEmpty = l.isEmpty := by rw [hs, ByteArray.toList_mk]
theorem txt_inj {u : ByteArray} {l : List UInt8} (h : Value.string u = txt l) : u = ByteArray.mk l.toArray := by
  unfold txt at h
  injection h

theorem fracS_eq {neg : Bool} {p : List (List UInt8)} {x0 : List UInt8} {m : Nat} {B : Int} (hm : p.length = m) (h0 : p[0]? = some x0) (hB : (if 1 < m then digR (p[1]?.getD []) else 1) = B) :
    fracS neg p = if digR x0 < 0 ∨ B < 0 ∨ 2 < m then none else some (fracZ ((if neg = true then -1 else 1) * digR x0) B) := by
  unfold fracS
  rw [hm, h0, hB]
  rfl
/-- A word of a row of texts. -/
theorem RowT.at {w wr : World} {g n cap : Nat} {xs : List (List UInt8)} (h : RowT w wr (.slice (some ⟨g, 0, none⟩) n cap) xs n) {i : Nat} {x : List UInt8} {y : ByteArray} (hx : xs[i]? = some x) (hy : y = ByteArray.mk x.toArray) : wr.cell? ⟨g, i, none⟩ = some (.string y) := by
  have hi := (List.getElem?_eq_some_iff.1 hx).1
  have hl := h.len
  rw [h.row.cellAt i (by omega), List.getElem?_map, hx, hy]
  rfl

set_option maxRecDepth 100000 in
set_option maxHeartbeats 3200000 in
theorem sParseNum_any (l : List UInt8) (s : ByteArray) (hs : s = ByteArray.mk l.toArray) (hl : l.length ≤ 1048576) (w : World) :
    Calls Tryz.prog 147 #[.string s] w fun e w' => e = .returned (.tuple #[.int .i64 (numV l), .bool (okI l)]) ∧ Below w.heap.size w w' := by
  have hsz := str_size hs
  have hem := str_empty hs
  have HBW := Lib.hid (Below.refl w.heap.size w)
  have HS := Lib.hid hs
  cases hll : l with
  | nil =>
    have HT := Lib.hid (numV_none (l := l) (by rw [hll]; rfl))
    rw [hll] at hem
    rw [← hll]
    have hem' : s.toList.isEmpty = true := hem
    clear hs hem
    go_enter Tryz.func147, Tryz.ntmps147
    go_wp2
    go_ret2
    rw [HT.out.1, HT.out.2]
    exact ⟨rfl, HBW.out⟩
  | cons h r =>
    rw [hll] at hem
    have hem' : s.toList.isEmpty = false := hem
    obtain ⟨y, hy⟩ : ∃ y : Int, (h.toNat : Int) = y := ⟨_, rfl⟩
    obtain ⟨hi0, hs0⟩ := str_at (i := 0) hs (by rw [hll]; rfl)
    have hyb : (s[0]'hi0).toNat = h.toNat := by rw [hs0]
    obtain ⟨n, hn⟩ : ∃ n, l.length = n := ⟨_, rfl⟩
    rw [hn] at hsz hl
    have hn1 : 1 ≤ n := by rw [← hn, hll]; simp
    have hnI : (1 : Int) ≤ n := by omega
    obtain ⟨u, hu⟩ : ∃ u, s.extract 1 n = u := ⟨_, rfl⟩
    have hur : u = ByteArray.mk r.toArray := txt_inj (by
      rw [← hu, str_cut hs, hll]
      rw [List.drop_succ_cons, List.drop_zero, List.take_of_length_le (by have := hn; rw [hll, List.length_cons] at this; omega)])
    rw [← hll]
    have HUR := Lib.hid hur
    have hnum : numS l = if h = 35 then some (digR r) else if h = 45 then fracS true (Lib.split r [47]) else fracS false (Lib.split (h :: r) [47]) := by rw [hll]; rfl
    by_cases h35 : y = 35
    · have h35' : h = 35 := UInt8.toNat_inj.1 (by simp; omega)
      rw [if_pos h35'] at hnum
      have HNV := Lib.hid hnum
      have D1 := Lib.hid (fun W => sDigits_any r u HUR.out W)
      subst h35
      clear hs hem hs0 h35' hnum hll hur
      go_enter Tryz.func147, Tryz.ntmps147
      go_wp2_with fail
      refine (D1.out _).mono ?_
      rintro e w' ⟨rfl, rfl⟩
      obtain ⟨x, hx⟩ : ∃ x, txt (fmtT (digR r)) = .string x := ⟨_, rfl⟩
      have F1 := Lib.hid (fun W => show Calls Tryz.prog 149 #[.int .i64 (digR r)] W fun e w' => e = .returned (.string x) ∧ Below W.heap.size W w' from hx ▸ sFmtNum_any (digR r) W)
      have hcmp := fmt_cmp hx HS.out
      clear hx
      cases hd : decide (fmtT (digR r) = l) with
      | true =>
        rw [hd] at hcmp
        have HT := Lib.hid (numV_yes HNV.out (by simpa using hd))
        clear hd
        go_wp2_with (first | (go_at_call 75; (with_reducible refine (FR.out _).mono ?_); rintro e w' ⟨rfl, rfl⟩))
        refine (F1.out _).mono ?_
        rintro e w9 ⟨rfl, hb9⟩
        have HB9 := Lib.hid (HBW.out.trans (hb9.mono HBW.out.size))
        go_wp2
        go_ret2
        rw [HT.out.1, HT.out.2]
        exact ⟨rfl, HB9.out⟩
      | false =>
        rw [hd] at hcmp
        have HT := Lib.hid (numV_bad HNV.out (by simpa using hd))
        clear hd
        go_wp2_with (first | (go_at_call 75; (with_reducible refine (FR.out _).mono ?_); rintro e w' ⟨rfl, rfl⟩))
        refine (F1.out _).mono ?_
        rintro e w9 ⟨rfl, hb9⟩
        have HB9 := Lib.hid (HBW.out.trans (hb9.mono HBW.out.size))
        go_wp2
        go_ret2
        rw [HT.out.1, HT.out.2]
        exact ⟨rfl, HB9.out⟩
    · have h35' : h ≠ 35 := fun e => h35 (by rw [← hy, e]; rfl)
      have hy35 : (y == 35) = false := by simpa using h35
      rw [if_neg h35'] at hnum
      by_cases h45 : y = 45
      · have h45' : h = 45 := UInt8.toNat_inj.1 (by simp; omega)
        rw [if_pos h45'] at hnum
        have HNUM := Lib.hid hnum
        have HTT := Lib.hid hur
        have hrl : r.length ≤ 1048576 := by have := hn; rw [hll, List.length_cons] at this; omega
        subst h45
        clear hs hem hs0 h35' h45' hnum hll hur h35
        go_enter Tryz.func147, Tryz.ntmps147
        have CU := Lib.hid (fun W => sCut_any r 47 47 (by rfl) u HTT.out hrl W)
        go_wp2_with fail
        refine (CU.out _).mono ?_
        rintro e w1 ⟨g, cap, m, rfl, hR⟩
        have hpm := hR.len
        have hm1 : 1 ≤ m := by have := List.length_pos_iff.2 (split_ne r [47]); omega
        have HBQ := Lib.hid hR.below
        obtain ⟨x0, hx0⟩ : ∃ x0, (Lib.split r [47])[0]? = some x0 := ⟨_, List.getElem?_eq_getElem (by omega)⟩
        obtain ⟨y0, hy0⟩ : ∃ y0, y0 = ByteArray.mk x0.toArray := ⟨_, rfl⟩
        have hc0 := hR.at hx0 hy0
        obtain ⟨A, hA0⟩ : ∃ A, digR x0 = A := ⟨_, rfl⟩
        have HA := Lib.hid hA0
        have D0 := Lib.hid (fun W : World => show Calls Tryz.prog 148 #[.string y0] W fun e w' => e = .returned (.int .i64 A) ∧ W = w' from hA0 ▸ sDigits_any x0 y0 hy0 W)
        have hAb : -1 ≤ A ∧ A < 10000000000 := hA0 ▸ digR_bd x0
        obtain ⟨hAb1, hAb2⟩ := hAb
        have HPM := Lib.hid hpm
        have HX0 := Lib.hid hx0
        have hm1I : (1 : Int) ≤ m := by omega
        by_cases hm2 : 1 < m
        · obtain ⟨x1, hx1⟩ : ∃ x1, (Lib.split r [47])[1]? = some x1 := ⟨_, List.getElem?_eq_getElem (by omega)⟩
          obtain ⟨y1, hy1⟩ : ∃ y1, y1 = ByteArray.mk x1.toArray := ⟨_, rfl⟩
          have hc1 := hR.at hx1 hy1
          obtain ⟨B, hB0⟩ : ∃ B, digR x1 = B := ⟨_, rfl⟩
          have D1 := Lib.hid (fun W : World => show Calls Tryz.prog 148 #[.string y1] W fun e w' => e = .returned (.int .i64 B) ∧ W = w' from hB0 ▸ sDigits_any x1 y1 hy1 W)
          have HB1 := Lib.hid (show (if 1 < m then digR ((Lib.split r [47])[1]?.getD []) else 1) = B from by rw [if_pos hm2, hx1]; exact hB0)
          have hm2I0 : (1 : Int) < m := by omega
          clear hR hpm hx0 hy0 hA0 hx1 hy1 hB0 hm1 hm2
          go_wp2_with fail
          refine (D0.out _).mono ?_
          rintro e w' ⟨rfl, rfl⟩
          go_wp2_with fail
          refine (D1.out _).mono ?_
          rintro e w' ⟨rfl, rfl⟩
          have HFR := Lib.hid (fracS_eq (neg := true) HPM.out HX0.out HB1.out)
          by_cases hA : A < 0
          · skip
            have HT := Lib.hid (numV_none (HNUM.out.trans (HFR.out.trans (if_pos (Or.inl (by rw [HA.out]; exact hA))))))
            go_wp2
            all_goals (
              go_ret2
              rw [HT.out.1, HT.out.2]
              exact ⟨rfl, HBQ.out⟩)
          · by_cases hB : B < 0
            · skip
              have HT := Lib.hid (numV_none (HNUM.out.trans (HFR.out.trans (if_pos (Or.inr (Or.inl hB))))))
              go_wp2
              all_goals (
                go_ret2
                rw [HT.out.1, HT.out.2]
                exact ⟨rfl, HBQ.out⟩)
            · by_cases hm2 : 2 < m
              · have hm2I : (2 : Int) < m := by omega
                have HT := Lib.hid (numV_none (HNUM.out.trans (HFR.out.trans (if_pos (Or.inr (Or.inr hm2))))))
                go_wp2
                all_goals (
                  go_ret2
                  rw [HT.out.1, HT.out.2]
                  exact ⟨rfl, HBQ.out⟩)
              · have hm2I : ¬ ((2 : Int) < m) := by omega
                have HV0 := Lib.hid (HNUM.out.trans (HFR.out.trans (if_neg (by rw [HA.out]; omega))))
                obtain ⟨Z, hZ⟩ : ∃ Z, (if true = true then (-1 : Int) else 1) * A = Z := ⟨_, rfl⟩
                obtain ⟨NVV, hNV⟩ : ∃ N, fracZ Z B = N := ⟨_, rfl⟩
                have HNV := Lib.hid (show numS l = some NVV from by rw [HV0.out, HA.out, hZ, hNV])
                have hwz : IntKind.i64.wrap (-1 * A) = Z := by rw [← hZ]; simp; exact IntWalk.i64_in _ (by omega)
                have hwz2 : IntKind.i64.wrap (-A) = Z := by rw [← hZ]; simp; exact IntWalk.i64_in _ (by omega)
                have FR := Lib.hid (fun W : World => show Calls Tryz.prog 75 #[.int .i64 Z, .int .i64 B] W fun e w' => e = .returned (.int .i64 NVV) ∧ W = w' from hNV ▸ sFraction_any Z B W)
                clear hZ hNV
                obtain ⟨x, hx⟩ : ∃ x, txt (fmtT NVV) = .string x := ⟨_, rfl⟩
                have F1 := Lib.hid (fun W => show Calls Tryz.prog 149 #[.int .i64 NVV] W fun e w' => e = .returned (.string x) ∧ Below W.heap.size W w' from hx ▸ sFmtNum_any NVV W)
                have hcmp := fmt_cmp hx HS.out
                clear hx
                cases hd : decide (fmtT NVV = l) with
                | true =>
                  rw [hd] at hcmp
                  have HT := Lib.hid (numV_yes HNV.out (by simpa using hd))
                  clear hd
                  go_wp2_with (first | (go_at_call 75; (with_reducible refine (FR.out _).mono ?_); rintro e w' ⟨rfl, rfl⟩))
                  refine (F1.out _).mono ?_
                  rintro e w9 ⟨rfl, hb9⟩
                  have HB9 := Lib.hid (HBQ.out.trans (hb9.mono HBQ.out.size))
                  go_wp2
                  go_ret2
                  rw [HT.out.1, HT.out.2]
                  exact ⟨rfl, HB9.out⟩
                | false =>
                  rw [hd] at hcmp
                  have HT := Lib.hid (numV_bad HNV.out (by simpa using hd))
                  clear hd
                  go_wp2_with (first | (go_at_call 75; (with_reducible refine (FR.out _).mono ?_); rintro e w' ⟨rfl, rfl⟩))
                  refine (F1.out _).mono ?_
                  rintro e w9 ⟨rfl, hb9⟩
                  have HB9 := Lib.hid (HBQ.out.trans (hb9.mono HBQ.out.size))
                  go_wp2
                  go_ret2
                  rw [HT.out.1, HT.out.2]
                  exact ⟨rfl, HB9.out⟩
        · obtain ⟨B, hB0⟩ : ∃ B : Int, B = 1 := ⟨_, rfl⟩
          have HB1 := Lib.hid (show (if 1 < m then digR ((Lib.split r [47])[1]?.getD []) else 1) = B from by rw [if_neg hm2, hB0])
          have hm2I0 : ¬ ((1 : Int) < m) := by omega
          clear hR hpm hx0 hy0 hA0 hm1 hm2
          go_wp2_with fail
          refine (D0.out _).mono ?_
          rintro e w' ⟨rfl, rfl⟩
          subst hB0
          have HFR := Lib.hid (fracS_eq (neg := true) HPM.out HX0.out HB1.out)
          by_cases hA : A < 0
          · skip
            have HT := Lib.hid (numV_none (HNUM.out.trans (HFR.out.trans (if_pos (Or.inl (by rw [HA.out]; exact hA))))))
            go_wp2
            all_goals (
              go_ret2
              rw [HT.out.1, HT.out.2]
              exact ⟨rfl, HBQ.out⟩)
          · by_cases hB : (1 : Int) < 0
            · skip
              have HT := Lib.hid (numV_none (HNUM.out.trans (HFR.out.trans (if_pos (Or.inr (Or.inl hB))))))
              go_wp2
              all_goals (
                go_ret2
                rw [HT.out.1, HT.out.2]
                exact ⟨rfl, HBQ.out⟩)
            · by_cases hm2 : 2 < m
              · have hm2I : (2 : Int) < m := by omega
                have HT := Lib.hid (numV_none (HNUM.out.trans (HFR.out.trans (if_pos (Or.inr (Or.inr hm2))))))
                go_wp2
                all_goals (
                  go_ret2
                  rw [HT.out.1, HT.out.2]
                  exact ⟨rfl, HBQ.out⟩)
              · have hm2I : ¬ ((2 : Int) < m) := by omega
                have HV0 := Lib.hid (HNUM.out.trans (HFR.out.trans (if_neg (by rw [HA.out]; omega))))
                obtain ⟨Z, hZ⟩ : ∃ Z, (if true = true then (-1 : Int) else 1) * A = Z := ⟨_, rfl⟩
                obtain ⟨NVV, hNV⟩ : ∃ N, fracZ Z (1 : Int) = N := ⟨_, rfl⟩
                have HNV := Lib.hid (show numS l = some NVV from by rw [HV0.out, HA.out, hZ, hNV])
                have hwz : IntKind.i64.wrap (-1 * A) = Z := by rw [← hZ]; simp; exact IntWalk.i64_in _ (by omega)
                have hwz2 : IntKind.i64.wrap (-A) = Z := by rw [← hZ]; simp; exact IntWalk.i64_in _ (by omega)
                have FR := Lib.hid (fun W : World => show Calls Tryz.prog 75 #[.int .i64 Z, .int .i64 (1 : Int)] W fun e w' => e = .returned (.int .i64 NVV) ∧ W = w' from hNV ▸ sFraction_any Z (1 : Int) W)
                clear hZ hNV
                obtain ⟨x, hx⟩ : ∃ x, txt (fmtT NVV) = .string x := ⟨_, rfl⟩
                have F1 := Lib.hid (fun W => show Calls Tryz.prog 149 #[.int .i64 NVV] W fun e w' => e = .returned (.string x) ∧ Below W.heap.size W w' from hx ▸ sFmtNum_any NVV W)
                have hcmp := fmt_cmp hx HS.out
                clear hx
                cases hd : decide (fmtT NVV = l) with
                | true =>
                  rw [hd] at hcmp
                  have HT := Lib.hid (numV_yes HNV.out (by simpa using hd))
                  clear hd
                  go_wp2_with (first | (go_at_call 75; (with_reducible refine (FR.out _).mono ?_); rintro e w' ⟨rfl, rfl⟩))
                  refine (F1.out _).mono ?_
                  rintro e w9 ⟨rfl, hb9⟩
                  have HB9 := Lib.hid (HBQ.out.trans (hb9.mono HBQ.out.size))
                  go_wp2
                  go_ret2
                  rw [HT.out.1, HT.out.2]
                  exact ⟨rfl, HB9.out⟩
                | false =>
                  rw [hd] at hcmp
                  have HT := Lib.hid (numV_bad HNV.out (by simpa using hd))
                  clear hd
                  go_wp2_with (first | (go_at_call 75; (with_reducible refine (FR.out _).mono ?_); rintro e w' ⟨rfl, rfl⟩))
                  refine (F1.out _).mono ?_
                  rintro e w9 ⟨rfl, hb9⟩
                  have HB9 := Lib.hid (HBQ.out.trans (hb9.mono HBQ.out.size))
                  go_wp2
                  go_ret2
                  rw [HT.out.1, HT.out.2]
                  exact ⟨rfl, HB9.out⟩
      · have h45' : h ≠ 45 := fun e => h45 (by rw [← hy, e]; rfl)
        have hy45 : (y == 45) = false := by simpa using h45
        rw [if_neg h45', ← hll] at hnum
        have HNUM := Lib.hid hnum
        have HTT := Lib.hid hs
        have hlen : l.length ≤ 1048576 := by omega
        clear hs hem hs0 h35' h45' hnum hll hur h35 h45
        go_enter Tryz.func147, Tryz.ntmps147
        have CU := Lib.hid (fun W => sCut_any l 47 47 (by rfl) s HTT.out hlen W)
        go_wp2_with fail
        refine (CU.out _).mono ?_
        rintro e w1 ⟨g, cap, m, rfl, hR⟩
        have hpm := hR.len
        have hm1 : 1 ≤ m := by have := List.length_pos_iff.2 (split_ne l [47]); omega
        have HBQ := Lib.hid hR.below
        obtain ⟨x0, hx0⟩ : ∃ x0, (Lib.split l [47])[0]? = some x0 := ⟨_, List.getElem?_eq_getElem (by omega)⟩
        obtain ⟨y0, hy0⟩ : ∃ y0, y0 = ByteArray.mk x0.toArray := ⟨_, rfl⟩
        have hc0 := hR.at hx0 hy0
        obtain ⟨A, hA0⟩ : ∃ A, digR x0 = A := ⟨_, rfl⟩
        have HA := Lib.hid hA0
        have D0 := Lib.hid (fun W : World => show Calls Tryz.prog 148 #[.string y0] W fun e w' => e = .returned (.int .i64 A) ∧ W = w' from hA0 ▸ sDigits_any x0 y0 hy0 W)
        have hAb : -1 ≤ A ∧ A < 10000000000 := hA0 ▸ digR_bd x0
        obtain ⟨hAb1, hAb2⟩ := hAb
        have HPM := Lib.hid hpm
        have HX0 := Lib.hid hx0
        have hm1I : (1 : Int) ≤ m := by omega
        by_cases hm2 : 1 < m
        · obtain ⟨x1, hx1⟩ : ∃ x1, (Lib.split l [47])[1]? = some x1 := ⟨_, List.getElem?_eq_getElem (by omega)⟩
          obtain ⟨y1, hy1⟩ : ∃ y1, y1 = ByteArray.mk x1.toArray := ⟨_, rfl⟩
          have hc1 := hR.at hx1 hy1
          obtain ⟨B, hB0⟩ : ∃ B, digR x1 = B := ⟨_, rfl⟩
          have D1 := Lib.hid (fun W : World => show Calls Tryz.prog 148 #[.string y1] W fun e w' => e = .returned (.int .i64 B) ∧ W = w' from hB0 ▸ sDigits_any x1 y1 hy1 W)
          have HB1 := Lib.hid (show (if 1 < m then digR ((Lib.split l [47])[1]?.getD []) else 1) = B from by rw [if_pos hm2, hx1]; exact hB0)
          have hm2I0 : (1 : Int) < m := by omega
          clear hR hpm hx0 hy0 hA0 hx1 hy1 hB0 hm1 hm2
          go_wp2_with fail
          refine (D0.out _).mono ?_
          rintro e w' ⟨rfl, rfl⟩
          go_wp2_with fail
          refine (D1.out _).mono ?_
          rintro e w' ⟨rfl, rfl⟩
          have HFR := Lib.hid (fracS_eq (neg := false) HPM.out HX0.out HB1.out)
          by_cases hA : A < 0
          · skip
            have HT := Lib.hid (numV_none (HNUM.out.trans (HFR.out.trans (if_pos (Or.inl (by rw [HA.out]; exact hA))))))
            go_wp2
            all_goals (
              go_ret2
              rw [HT.out.1, HT.out.2]
              exact ⟨rfl, HBQ.out⟩)
          · by_cases hB : B < 0
            · skip
              have HT := Lib.hid (numV_none (HNUM.out.trans (HFR.out.trans (if_pos (Or.inr (Or.inl hB))))))
              go_wp2
              all_goals (
                go_ret2
                rw [HT.out.1, HT.out.2]
                exact ⟨rfl, HBQ.out⟩)
            · by_cases hm2 : 2 < m
              · have hm2I : (2 : Int) < m := by omega
                have HT := Lib.hid (numV_none (HNUM.out.trans (HFR.out.trans (if_pos (Or.inr (Or.inr hm2))))))
                go_wp2
                all_goals (
                  go_ret2
                  rw [HT.out.1, HT.out.2]
                  exact ⟨rfl, HBQ.out⟩)
              · have hm2I : ¬ ((2 : Int) < m) := by omega
                have HV0 := Lib.hid (HNUM.out.trans (HFR.out.trans (if_neg (by rw [HA.out]; omega))))
                obtain ⟨Z, hZ⟩ : ∃ Z, (if false = true then (-1 : Int) else 1) * A = Z := ⟨_, rfl⟩
                obtain ⟨NVV, hNV⟩ : ∃ N, fracZ Z B = N := ⟨_, rfl⟩
                have HNV := Lib.hid (show numS l = some NVV from by rw [HV0.out, HA.out, hZ, hNV])
                have hwz : IntKind.i64.wrap (1 * A) = Z := by rw [← hZ]; simp; exact IntWalk.i64_in _ (by omega)
                have hwz2 : IntKind.i64.wrap A = Z := by rw [← hZ]; simp; exact IntWalk.i64_in _ (by omega)
                have FR := Lib.hid (fun W : World => show Calls Tryz.prog 75 #[.int .i64 Z, .int .i64 B] W fun e w' => e = .returned (.int .i64 NVV) ∧ W = w' from hNV ▸ sFraction_any Z B W)
                clear hZ hNV
                obtain ⟨x, hx⟩ : ∃ x, txt (fmtT NVV) = .string x := ⟨_, rfl⟩
                have F1 := Lib.hid (fun W => show Calls Tryz.prog 149 #[.int .i64 NVV] W fun e w' => e = .returned (.string x) ∧ Below W.heap.size W w' from hx ▸ sFmtNum_any NVV W)
                have hcmp := fmt_cmp hx HS.out
                clear hx
                cases hd : decide (fmtT NVV = l) with
                | true =>
                  rw [hd] at hcmp
                  have HT := Lib.hid (numV_yes HNV.out (by simpa using hd))
                  clear hd
                  go_wp2_with (first | (go_at_call 75; (with_reducible refine (FR.out _).mono ?_); rintro e w' ⟨rfl, rfl⟩))
                  refine (F1.out _).mono ?_
                  rintro e w9 ⟨rfl, hb9⟩
                  have HB9 := Lib.hid (HBQ.out.trans (hb9.mono HBQ.out.size))
                  go_wp2
                  go_ret2
                  rw [HT.out.1, HT.out.2]
                  exact ⟨rfl, HB9.out⟩
                | false =>
                  rw [hd] at hcmp
                  have HT := Lib.hid (numV_bad HNV.out (by simpa using hd))
                  clear hd
                  go_wp2_with (first | (go_at_call 75; (with_reducible refine (FR.out _).mono ?_); rintro e w' ⟨rfl, rfl⟩))
                  refine (F1.out _).mono ?_
                  rintro e w9 ⟨rfl, hb9⟩
                  have HB9 := Lib.hid (HBQ.out.trans (hb9.mono HBQ.out.size))
                  go_wp2
                  go_ret2
                  rw [HT.out.1, HT.out.2]
                  exact ⟨rfl, HB9.out⟩
        · obtain ⟨B, hB0⟩ : ∃ B : Int, B = 1 := ⟨_, rfl⟩
          have HB1 := Lib.hid (show (if 1 < m then digR ((Lib.split l [47])[1]?.getD []) else 1) = B from by rw [if_neg hm2, hB0])
          have hm2I0 : ¬ ((1 : Int) < m) := by omega
          clear hR hpm hx0 hy0 hA0 hm1 hm2
          go_wp2_with fail
          refine (D0.out _).mono ?_
          rintro e w' ⟨rfl, rfl⟩
          subst hB0
          have HFR := Lib.hid (fracS_eq (neg := false) HPM.out HX0.out HB1.out)
          by_cases hA : A < 0
          · skip
            have HT := Lib.hid (numV_none (HNUM.out.trans (HFR.out.trans (if_pos (Or.inl (by rw [HA.out]; exact hA))))))
            go_wp2
            all_goals (
              go_ret2
              rw [HT.out.1, HT.out.2]
              exact ⟨rfl, HBQ.out⟩)
          · by_cases hB : (1 : Int) < 0
            · skip
              have HT := Lib.hid (numV_none (HNUM.out.trans (HFR.out.trans (if_pos (Or.inr (Or.inl hB))))))
              go_wp2
              all_goals (
                go_ret2
                rw [HT.out.1, HT.out.2]
                exact ⟨rfl, HBQ.out⟩)
            · by_cases hm2 : 2 < m
              · have hm2I : (2 : Int) < m := by omega
                have HT := Lib.hid (numV_none (HNUM.out.trans (HFR.out.trans (if_pos (Or.inr (Or.inr hm2))))))
                go_wp2
                all_goals (
                  go_ret2
                  rw [HT.out.1, HT.out.2]
                  exact ⟨rfl, HBQ.out⟩)
              · have hm2I : ¬ ((2 : Int) < m) := by omega
                have HV0 := Lib.hid (HNUM.out.trans (HFR.out.trans (if_neg (by rw [HA.out]; omega))))
                obtain ⟨Z, hZ⟩ : ∃ Z, (if false = true then (-1 : Int) else 1) * A = Z := ⟨_, rfl⟩
                obtain ⟨NVV, hNV⟩ : ∃ N, fracZ Z (1 : Int) = N := ⟨_, rfl⟩
                have HNV := Lib.hid (show numS l = some NVV from by rw [HV0.out, HA.out, hZ, hNV])
                have hwz : IntKind.i64.wrap (1 * A) = Z := by rw [← hZ]; simp; exact IntWalk.i64_in _ (by omega)
                have hwz2 : IntKind.i64.wrap A = Z := by rw [← hZ]; simp; exact IntWalk.i64_in _ (by omega)
                have FR := Lib.hid (fun W : World => show Calls Tryz.prog 75 #[.int .i64 Z, .int .i64 (1 : Int)] W fun e w' => e = .returned (.int .i64 NVV) ∧ W = w' from hNV ▸ sFraction_any Z (1 : Int) W)
                clear hZ hNV
                obtain ⟨x, hx⟩ : ∃ x, txt (fmtT NVV) = .string x := ⟨_, rfl⟩
                have F1 := Lib.hid (fun W => show Calls Tryz.prog 149 #[.int .i64 NVV] W fun e w' => e = .returned (.string x) ∧ Below W.heap.size W w' from hx ▸ sFmtNum_any NVV W)
                have hcmp := fmt_cmp hx HS.out
                clear hx
                cases hd : decide (fmtT NVV = l) with
                | true =>
                  rw [hd] at hcmp
                  have HT := Lib.hid (numV_yes HNV.out (by simpa using hd))
                  clear hd
                  go_wp2_with (first | (go_at_call 75; (with_reducible refine (FR.out _).mono ?_); rintro e w' ⟨rfl, rfl⟩))
                  refine (F1.out _).mono ?_
                  rintro e w9 ⟨rfl, hb9⟩
                  have HB9 := Lib.hid (HBQ.out.trans (hb9.mono HBQ.out.size))
                  go_wp2
                  go_ret2
                  rw [HT.out.1, HT.out.2]
                  exact ⟨rfl, HB9.out⟩
                | false =>
                  rw [hd] at hcmp
                  have HT := Lib.hid (numV_bad HNV.out (by simpa using hd))
                  clear hd
                  go_wp2_with (first | (go_at_call 75; (with_reducible refine (FR.out _).mono ?_); rintro e w' ⟨rfl, rfl⟩))
                  refine (F1.out _).mono ?_
                  rintro e w9 ⟨rfl, hb9⟩
                  have HB9 := Lib.hid (HBQ.out.trans (hb9.mono HBQ.out.size))
                  go_wp2
                  go_ret2
                  rw [HT.out.1, HT.out.2]
                  exact ⟨rfl, HB9.out⟩
end Go.Proofs.YtbcjhpgkodeoeaaGreatDoor

/- A row of a tableau. Conditions: a valid tableau. -/
namespace Go.Proofs.YtbcjhpgkodeoeaaGreatDoor
open Go.RowKit

/-- What a call returns that lies in what was there. -/
def GivesV {β : Type} (Rd : World → Value → β → Prop) (w : World) (x : β) : Ending → World → Prop := fun e w' =>
  ∃ v, e = .returned v ∧ Rd w' v x ∧ Below w.heap.size w w'
/-- a row of A -/
def rowZ (A : List Int) (n i : Nat) : List Int := (A.drop (i * n)).take n
theorem rowZ_at {A : List Int} {n i j : Nat} (hj : j < n) : atZ (rowZ A n i) j = atZ A (i * n + j) := by
  unfold rowZ atZ
  rw [List.getElem?_take_of_lt hj, List.getElem?_drop]
theorem rowZ_len {A : List Int} {n i : Nat} (hA : A.length = n * n) (hi : i < n) : (rowZ A n i).length = n := by
  have : (i + 1) * n ≤ n * n := Nat.mul_le_mul_right n hi
  rw [Nat.succ_mul] at this
  rw [rowZ, List.length_take, List.length_drop]
  omega
theorem rdI_part {w : World} {b off len cap : Nat} {xs : List Int} (h : RdI w (.slice (some ⟨b, off, none⟩) len cap) xs) {lo n : Nat} (hl : lo + n ≤ len) : RdI w (.slice (some ⟨b, off + lo, none⟩) n (cap - lo)) ((xs.drop lo).take n) := by
  obtain ⟨ad', cap', he, h1, h2, h3⟩ := h
  injection he with e1 e2 e3
  subst e2 e3
  have hlen : ((xs.drop lo).take n).length = n := by rw [List.length_take, List.length_drop]; omega
  refine ⟨_, _, by rw [hlen], by rw [hlen]; omega, by omega, fun hp => ⟨b, off + lo, rfl, fun i x hx => ?_⟩⟩
  obtain ⟨b', o', hb, hc⟩ := h3 (by rw [hlen] at hp; omega)
  rw [← e1] at hb
  simp only [Option.some.injEq, Addr.mk.injEq] at hb
  obtain ⟨rfl, rfl, _⟩ := hb
  have hi := (List.getElem?_eq_some_iff.1 hx).1
  rw [hlen] at hi
  rw [List.getElem?_take_of_lt hi, List.getElem?_drop] at hx
  obtain ⟨us, hs, hu, hE⟩ := hc (lo + i) x hx
  exact ⟨us, hs, fun j u hj => by have := hu j u hj; rwa [show off + lo + i * 1 + j = off + (lo + i) * 1 + j by omega], hE⟩
theorem row_bd {n i : Nat} (hi : i < n) (hn : n ≤ 8) : 0 ≤ (i : Int) * n ∧ (i : Int) * n ≤ 64 ∧ ((i : Int) * n).toNat = i * n ∧ ((i : Int) + 1) * n = (i : Int) * n + n ∧ i * n + n ≤ n * n ∧ ((n * n : Nat) : Int) ≤ 64 ∧ ((i * n : Nat) : Int) = (i : Int) * n := by
  have h1 : i * n ≤ 8 * 8 := Nat.mul_le_mul (by omega) hn
  have h2 : ((i * n : Nat) : Int) = (i : Int) * n := by simp
  have h3 : (i + 1) * n ≤ n * n := Nat.mul_le_mul_right n hi
  have h4 : n * n ≤ 8 * 8 := Nat.mul_le_mul hn hn
  rw [Nat.succ_mul] at h3
  refine ⟨by omega, by omega, by omega, ?_, h3, by omega, h2⟩
  rw [Int.add_mul, Int.one_mul]
set_option maxRecDepth 100000 in
set_option maxHeartbeats 1600000 in
theorem row_any (v : Value) (t : TabZ) (w : World) (h : RdTab w v t) (hok : tabOkB t = true) {i : Nat} (hi : i < t.B.length) :
    Calls Tryz.prog 118 #[v, .int .i64 i] w (GivesV RdI w (rowZ t.A t.B.length i)) := by
  obtain ⟨vA, vB, rfl, hI, hA, hB⟩ := h
  obtain ⟨hs, hAn, hn8⟩ := tabOk_num hok
  obtain ⟨n, hn⟩ : ∃ n, n = t.B.length := ⟨_, rfl⟩
  rw [← hn] at hs hAn hn8 hi ⊢
  have hb0 : Below w.heap.size w (w.alloc (.cells #[.int .i64 t.stages, vA, vB] 37)) := (Below.refl _ _).alloc (Nat.le_refl _) _
  rw [hs] at hb0 ⊢
  obtain ⟨p0, p1, p2, p3, p4, p5, p7⟩ := row_bd hi hn8
  obtain ⟨aA, nA, cA, rfl, lA, hlc, hcm, gA⟩ := rdS_open (rdI_mono hb0 hA)
  have hnA : nA = n * n := by omega
  obtain ⟨bA, oA, x, rfl, _⟩ := rdI_get gA (k := i * n) (by omega)
  have hP := rdI_part gA (lo := i * n) (n := n) (by omega)
  have HP := Lib.hid hP
  have q1 : (i : Int) * n + n ≤ cA := by omega
  have q2 : (i : Int) * n ≤ (i : Int) * n + n := by omega
  have q3 : ((i : Int) * n + n).toNat = i * n + n := by omega
  have q4 : 0 ≤ (i : Int) * n + n := by omega
  have q5 : ¬ cA - i * n = 0 := by omega
  have q6 : (i : Int) * n + n ≤ 72 := by omega
  have HB := Lib.hid hb0
  clear hs hAn hn lA hP hB gA hA hb0 hnA p7 p4 p5
  go_enter Tryz.func118, Tryz.ntmps118
  go_wp2
  go_ret
  exact ⟨_, rfl, HP.out, HB.out⟩


set_option maxRecDepth 100000 in
set_option maxHeartbeats 1600000 in
theorem sRow_any (v : Value) (t : TabZ) (w : World) (h : RdTab w v t) (hok : tabOkB t = true) {i : Nat} (hi : i < t.B.length) :
    Calls Tryz.prog 175 #[v, .int .i64 i] w (GivesV RdI w (rowZ t.A t.B.length i)) := by
  obtain ⟨vA, vB, rfl, hI, hA, hB⟩ := h
  obtain ⟨hs, hAn, hn8⟩ := tabOk_num hok
  obtain ⟨n, hn⟩ : ∃ n, n = t.B.length := ⟨_, rfl⟩
  rw [← hn] at hs hAn hn8 hi ⊢
  have hb0 : Below w.heap.size w (w.alloc (.cells #[.int .i64 t.stages, vA, vB] 37)) := (Below.refl _ _).alloc (Nat.le_refl _) _
  rw [hs] at hb0 ⊢
  obtain ⟨p0, p1, p2, p3, p4, p5, p7⟩ := row_bd hi hn8
  obtain ⟨aA, nA, cA, rfl, lA, hlc, hcm, gA⟩ := rdS_open (rdI_mono hb0 hA)
  have hnA : nA = n * n := by omega
  obtain ⟨bA, oA, x, rfl, _⟩ := rdI_get gA (k := i * n) (by omega)
  have hP := rdI_part gA (lo := i * n) (n := n) (by omega)
  have HP := Lib.hid hP
  have q1 : (i : Int) * n + n ≤ cA := by omega
  have q2 : (i : Int) * n ≤ (i : Int) * n + n := by omega
  have q3 : ((i : Int) * n + n).toNat = i * n + n := by omega
  have q4 : 0 ≤ (i : Int) * n + n := by omega
  have q5 : ¬ cA - i * n = 0 := by omega
  have q6 : (i : Int) * n + n ≤ 72 := by omega
  have HB := Lib.hid hb0
  clear hs hAn hn lA hP hB gA hA hb0 hnA p7 p4 p5
  go_enter Tryz.func175, Tryz.ntmps175
  go_wp2
  go_ret
  exact ⟨_, rfl, HP.out, HB.out⟩
end Go.Proofs.YtbcjhpgkodeoeaaGreatDoor
