/- Numbers read from texts: the program. Conditions: texts of at most a million bytes. -/
import Derived.Test.YtdaaamdighojdaaDoorParW
set_option linter.unusedSimpArgs false
set_option linter.unusedVariables false
namespace Go.Proofs.YtdaaamdighojdaaDoor
open Go.RowKit Go.Sort

theorem numI_yes {l : List UInt8} {n : Int} (h : numI l = n) (h0 : 0 ≤ n) (h1 : fmtT n = l) : okI l = true ∧ numV l = n := by
  have h2 : okI l = true := by rw [okI, h]; simp [h0, h1]
  exact ⟨h2, by rw [numV, if_pos h2, h]⟩
theorem numI_neg {l : List UInt8} {n : Int} (h : numI l = n) (h0 : n < 0) : okI l = false ∧ numV l = 0 := numV_no (by rw [okI, h, decide_eq_false_iff_not]; omega)
theorem numI_bad {l : List UInt8} {n : Int} (h : numI l = n) (h1 : fmtT n ≠ l) : okI l = false ∧ numV l = 0 := numV_no (by rw [okI, h, decide_eq_false_iff_not]; exact fun h => h1 h.2)
theorem trim_len (l p : List UInt8) : (Lib.trimPrefix l p).length ≤ l.length := by
  unfold Lib.trimPrefix
  split
  · rw [List.length_drop]; omega
  · exact Nat.le_refl _

set_option maxRecDepth 100000 in
set_option maxHeartbeats 3200000 in
theorem parseNum_any (l : List UInt8) (s : ByteArray) (hs : s = ByteArray.mk l.toArray) (hl : l.length ≤ 1048576) (w : World) (hm : MaxCell w) :
    Calls Tryd.prog 26 #[.string s] w fun e w' => e = .returned (.tuple #[.int .i64 (numV l), .bool (okI l)]) ∧ Below w.heap.size w w' := by
  have hsz := str_size hs
  have HBW := Lib.hid (Below.refl w.heap.size w)
  have HS := Lib.hid hs
  obtain ⟨n, hn⟩ : ∃ n, l.length = n := ⟨_, rfl⟩
  rw [hn] at hsz hl
  cases hpx : Lib.hasPrefix l [35] with
  | true =>
    have HP := Lib.hid (fun W : World => show Calls Tryd.prog 42 #[.string s, .string ⟨#[35]⟩] W fun e w' => e = .returned (.bool true) ∧ W = w' from hpx ▸ hasPrefix_any l [35] s _ hs rfl W)
    have hn1 : 1 ≤ n := by
      rw [← hn]
      cases l with
      | nil => simp [Lib.hasPrefix, List.isPrefixOf] at hpx
      | cons a r => simp
    have hnI : (1 : Int) ≤ n := by omega
    obtain ⟨u, hu⟩ : ∃ u, s.extract 1 n = u := ⟨_, rfl⟩
    have hur : u = ByteArray.mk (l.drop 1).toArray := txt_inj (by
      rw [← hu, str_cut hs, List.take_of_length_le (by rw [List.length_drop]; omega)])
    obtain ⟨D, hD⟩ : ∃ D, digI (l.drop 1) = D := ⟨_, rfl⟩
    have D1 := Lib.hid (fun W : World => show Calls Tryd.prog 27 #[.string u] W fun e w' => e = .returned (.int .i64 D) ∧ W = w' from hD ▸ readDec_any (l.drop 1) u hur W)
    have HNI := Lib.hid (show numI l = D from by rw [numI, if_pos hpx, hD])
    clear hs hn hpx hur hD
    go_enter Tryd.func26, Tryd.ntmps26
    go_wp2_with fail
    refine (HP.out _).mono ?_
    rintro e w' ⟨rfl, rfl⟩
    go_wp2_with fail
    refine (D1.out _).mono ?_
    rintro e w' ⟨rfl, rfl⟩
    by_cases hn0 : D < 0
    · have HT := Lib.hid (numI_neg HNI.out hn0)
      go_wp2
      all_goals (
        go_ret2
        rw [HT.out.1, HT.out.2]
        exact ⟨rfl, HBW.out⟩)
    obtain ⟨x, hx⟩ : ∃ x, txt (fmtT D) = .string x := ⟨_, rfl⟩
    have F1 := Lib.hid (fun W => show Calls Tryd.prog 29 #[.int .i64 D] W fun e w' => e = .returned (.string x) ∧ W = w' from hx ▸ fmtNum_any D W)
    have hcmp := fmt_cmp hx HS.out
    clear hx
    cases hd : decide (fmtT D = l) with
    | true =>
      rw [hd] at hcmp
      have HT := Lib.hid (numI_yes HNI.out (by omega) (by simpa using hd))
      clear hd
      go_wp2_with fail
      refine (F1.out _).mono ?_
      rintro e w9 ⟨rfl, rfl⟩
      go_wp2
      go_ret2
      rw [HT.out.1, HT.out.2]
      exact ⟨rfl, HBW.out⟩
    | false =>
      rw [hd] at hcmp
      have HT := Lib.hid (numI_bad HNI.out (by simpa using hd))
      clear hd
      go_wp2_with fail
      refine (F1.out _).mono ?_
      rintro e w9 ⟨rfl, rfl⟩
      go_wp2
      go_ret2
      rw [HT.out.1, HT.out.2]
      exact ⟨rfl, HBW.out⟩
  | false =>
    have HP := Lib.hid (fun W : World => show Calls Tryd.prog 42 #[.string s, .string ⟨#[35]⟩] W fun e w' => e = .returned (.bool false) ∧ W = w' from hpx ▸ hasPrefix_any l [35] s _ hs rfl W)
    obtain ⟨T, hT⟩ : ∃ T, Lib.trimPrefix l [45] = T := ⟨_, rfl⟩
    obtain ⟨t, ht⟩ : ∃ t, t = ByteArray.mk T.toArray := ⟨_, rfl⟩
    have htz := str_size ht
    obtain ⟨tn, htn⟩ : ∃ tn, T.length = tn := ⟨_, rfl⟩
    rw [htn] at htz
    have htl : tn ≤ n := by rw [← htn, ← hT, ← hn]; exact trim_len _ _
    have TP := Lib.hid (fun W : World => show Calls Tryd.prog 43 #[.string s, .string ⟨#[45]⟩] W fun e w' => e = .returned (.string t) ∧ W = w' from by
      have := trimPrefix_any l [45] s ⟨#[45]⟩ hs rfl W
      rw [hT] at this
      rw [ht]
      exact this)
    obtain ⟨⟨X, Y, c3⟩, hc⟩ : ∃ c, Lib.cut T [47] = c := ⟨_, rfl⟩
    obtain ⟨x, hx⟩ : ∃ x, x = ByteArray.mk X.toArray := ⟨_, rfl⟩
    obtain ⟨y, hy⟩ : ∃ y, y = ByteArray.mk Y.toArray := ⟨_, rfl⟩
    have CU := Lib.hid (show Calls Tryd.prog 44 #[.string t, .string ⟨#[47]⟩] w fun e w' => e = .returned (.tuple #[.string x, .string y, .bool c3]) ∧ Below w.heap.size w w' from by
      have := cut_any T [47] t ⟨#[47]⟩ ht rfl (by omega) w hm
      rw [hc] at this
      rw [hx, hy]
      exact this)
    obtain ⟨A, hA⟩ : ∃ A, digI X = A := ⟨_, rfl⟩
    have D0 := Lib.hid (fun W : World => show Calls Tryd.prog 27 #[.string x] W fun e w' => e = .returned (.int .i64 A) ∧ W = w' from hA ▸ readDec_any X x hx W)
    have hnum : numI l = if A < 0 ∨ (if c3 = true then digI Y else 1) < 1 then -1 else if tn < n then (-(fracZ A (if c3 = true then digI Y else 1))) % 1000000271 else fracZ A (if c3 = true then digI Y else 1) := by
      rw [numI, if_neg (by rw [hpx]; simp), hT, hc, htn, hn]
      simp only [hA]
    cases c3 with
    | true =>
      obtain ⟨B, hB⟩ : ∃ B, digI Y = B := ⟨_, rfl⟩
      have D1 := Lib.hid (fun W : World => show Calls Tryd.prog 27 #[.string y] W fun e w' => e = .returned (.int .i64 B) ∧ W = w' from hB ▸ readDec_any Y y hy W)
      rw [if_pos rfl, hB] at hnum
      have HN0 := Lib.hid hnum
      clear hs hn hpx hT ht htn hc hx hy hA hB hnum
      go_enter Tryd.func26, Tryd.ntmps26
      go_wp2_with fail
      refine (HP.out _).mono ?_
      rintro e w' ⟨rfl, rfl⟩
      go_wp2_with fail
      refine (TP.out _).mono ?_
      rintro e w' ⟨rfl, rfl⟩
      go_wp2_with fail
      refine CU.out.mono ?_
      rintro e w1 ⟨rfl, hb1⟩
      have HBQ := Lib.hid hb1
      clear hb1
      go_wp2_with fail
      refine (D1.out _).mono ?_
      rintro e w' ⟨rfl, rfl⟩
      go_wp2_with fail
      refine (D0.out _).mono ?_
      rintro e w' ⟨rfl, rfl⟩
      by_cases hbad : A < 0 ∨ B < 1
      · have HT := Lib.hid (numI_neg (HN0.out.trans (if_pos hbad)) (by decide))
        by_cases hA0 : A < 0
        · go_wp2
          go_ret2
          rw [HT.out.1, HT.out.2]
          exact ⟨rfl, HBQ.out⟩
        · have hB1 : B < 1 := by omega
          go_wp2
          go_ret2
          rw [HT.out.1, HT.out.2]
          exact ⟨rfl, HBQ.out⟩
      · have HNUM := Lib.hid (HN0.out.trans (if_neg hbad))
        have hA0 : ¬ A < 0 := by omega
        have hB1 : ¬ B < 1 := by omega
        clear hbad
        -- the fraction, turned round if the text had a sign
        obtain ⟨F, hF⟩ : ∃ F, fracZ A B = F := ⟨_, rfl⟩
        have hF0 : 0 ≤ F ∧ F ≤ 1000000270 := hF ▸ frac_bd A B
        obtain ⟨hF1, hF2⟩ := hF0
        have FR := Lib.hid (fun W : World => show Calls Tryd.prog 45 #[.int .i64 A, .int .i64 B] W fun e w' => e = .returned (.int .i64 F) ∧ W = w' from hF ▸ fraction_any A B W)
        by_cases hlen : tn < n
        · have hlI : (tn : Int) < n := by omega
          obtain ⟨NVV, hNV⟩ : ∃ N, (-F) % 1000000271 = N := ⟨_, rfl⟩
          have hnv0 : 0 ≤ NVV := by omega
          have HNI := Lib.hid (show numI l = NVV from by rw [HNUM.out, if_pos hlen, hF, hNV])
          have hwn : IntKind.i64.wrap (-F) = -F := IntWalk.i64_in _ (by omega)
          have RS := Lib.hid (fun W : World => show Calls Tryd.prog 46 #[.int .i64 (-F)] W fun e w' => e = .returned (.int .i64 NVV) ∧ W = w' from hNV ▸ residue_any (-F) W)
          clear hF hNV
          go_wp2_with fail
          refine (FR.out _).mono ?_
          rintro e w' ⟨rfl, rfl⟩
          go_wp2_with fail
          refine (RS.out _).mono ?_
          rintro e w' ⟨rfl, rfl⟩
          by_cases hn0 : NVV < 0
          · have HT := Lib.hid (numI_neg HNI.out hn0)
            go_wp2
            all_goals (
              go_ret2
              rw [HT.out.1, HT.out.2]
              exact ⟨rfl, HBQ.out⟩)
          obtain ⟨x, hx⟩ : ∃ x, txt (fmtT NVV) = .string x := ⟨_, rfl⟩
          have F1 := Lib.hid (fun W => show Calls Tryd.prog 29 #[.int .i64 NVV] W fun e w' => e = .returned (.string x) ∧ W = w' from hx ▸ fmtNum_any NVV W)
          have hcmp := fmt_cmp hx HS.out
          clear hx
          cases hd : decide (fmtT NVV = l) with
          | true =>
            rw [hd] at hcmp
            have HT := Lib.hid (numI_yes HNI.out (by omega) (by simpa using hd))
            clear hd
            go_wp2_with fail
            refine (F1.out _).mono ?_
            rintro e w9 ⟨rfl, rfl⟩
            go_wp2
            go_ret2
            rw [HT.out.1, HT.out.2]
            exact ⟨rfl, HBQ.out⟩
          | false =>
            rw [hd] at hcmp
            have HT := Lib.hid (numI_bad HNI.out (by simpa using hd))
            clear hd
            go_wp2_with fail
            refine (F1.out _).mono ?_
            rintro e w9 ⟨rfl, rfl⟩
            go_wp2
            go_ret2
            rw [HT.out.1, HT.out.2]
            exact ⟨rfl, HBQ.out⟩
        · have hlI : ¬ ((tn : Int) < n) := by omega
          have HNI := Lib.hid (show numI l = F from by rw [HNUM.out, if_neg hlen, hF])
          clear hF
          go_wp2_with fail
          refine (FR.out _).mono ?_
          rintro e w' ⟨rfl, rfl⟩
          by_cases hn0 : F < 0
          · have HT := Lib.hid (numI_neg HNI.out hn0)
            go_wp2
            all_goals (
              go_ret2
              rw [HT.out.1, HT.out.2]
              exact ⟨rfl, HBQ.out⟩)
          obtain ⟨x, hx⟩ : ∃ x, txt (fmtT F) = .string x := ⟨_, rfl⟩
          have F1 := Lib.hid (fun W => show Calls Tryd.prog 29 #[.int .i64 F] W fun e w' => e = .returned (.string x) ∧ W = w' from hx ▸ fmtNum_any F W)
          have hcmp := fmt_cmp hx HS.out
          clear hx
          cases hd : decide (fmtT F = l) with
          | true =>
            rw [hd] at hcmp
            have HT := Lib.hid (numI_yes HNI.out (by omega) (by simpa using hd))
            clear hd
            go_wp2_with fail
            refine (F1.out _).mono ?_
            rintro e w9 ⟨rfl, rfl⟩
            go_wp2
            go_ret2
            rw [HT.out.1, HT.out.2]
            exact ⟨rfl, HBQ.out⟩
          | false =>
            rw [hd] at hcmp
            have HT := Lib.hid (numI_bad HNI.out (by simpa using hd))
            clear hd
            go_wp2_with fail
            refine (F1.out _).mono ?_
            rintro e w9 ⟨rfl, rfl⟩
            go_wp2
            go_ret2
            rw [HT.out.1, HT.out.2]
            exact ⟨rfl, HBQ.out⟩
    | false =>
      have HN0 := Lib.hid (show numI l = if A < 0 then -1 else if tn < n then (-(fracZ A 1)) % 1000000271 else fracZ A 1 from by
        rw [hnum]
        simp)
      clear hs hn hpx hT ht htn hc hx hy hA hnum
      go_enter Tryd.func26, Tryd.ntmps26
      go_wp2_with fail
      refine (HP.out _).mono ?_
      rintro e w' ⟨rfl, rfl⟩
      go_wp2_with fail
      refine (TP.out _).mono ?_
      rintro e w' ⟨rfl, rfl⟩
      go_wp2_with fail
      refine CU.out.mono ?_
      rintro e w1 ⟨rfl, hb1⟩
      have HBQ := Lib.hid hb1
      clear hb1
      go_wp2_with fail
      refine (D0.out _).mono ?_
      rintro e w' ⟨rfl, rfl⟩
      by_cases hA0 : A < 0
      · have HT := Lib.hid (numI_neg (HN0.out.trans (if_pos hA0)) (by decide))
        go_wp2
        go_ret2
        rw [HT.out.1, HT.out.2]
        exact ⟨rfl, HBQ.out⟩
      · have HNUM := Lib.hid (HN0.out.trans (if_neg hA0))
        -- the fraction, turned round if the text had a sign
        obtain ⟨F, hF⟩ : ∃ F, fracZ A (1 : Int) = F := ⟨_, rfl⟩
        have hF0 : 0 ≤ F ∧ F ≤ 1000000270 := hF ▸ frac_bd A (1 : Int)
        obtain ⟨hF1, hF2⟩ := hF0
        have FR := Lib.hid (fun W : World => show Calls Tryd.prog 45 #[.int .i64 A, .int .i64 (1 : Int)] W fun e w' => e = .returned (.int .i64 F) ∧ W = w' from hF ▸ fraction_any A (1 : Int) W)
        by_cases hlen : tn < n
        · have hlI : (tn : Int) < n := by omega
          obtain ⟨NVV, hNV⟩ : ∃ N, (-F) % 1000000271 = N := ⟨_, rfl⟩
          have hnv0 : 0 ≤ NVV := by omega
          have HNI := Lib.hid (show numI l = NVV from by rw [HNUM.out, if_pos hlen, hF, hNV])
          have hwn : IntKind.i64.wrap (-F) = -F := IntWalk.i64_in _ (by omega)
          have RS := Lib.hid (fun W : World => show Calls Tryd.prog 46 #[.int .i64 (-F)] W fun e w' => e = .returned (.int .i64 NVV) ∧ W = w' from hNV ▸ residue_any (-F) W)
          clear hF hNV
          go_wp2_with fail
          refine (FR.out _).mono ?_
          rintro e w' ⟨rfl, rfl⟩
          go_wp2_with fail
          refine (RS.out _).mono ?_
          rintro e w' ⟨rfl, rfl⟩
          by_cases hn0 : NVV < 0
          · have HT := Lib.hid (numI_neg HNI.out hn0)
            go_wp2
            all_goals (
              go_ret2
              rw [HT.out.1, HT.out.2]
              exact ⟨rfl, HBQ.out⟩)
          obtain ⟨x, hx⟩ : ∃ x, txt (fmtT NVV) = .string x := ⟨_, rfl⟩
          have F1 := Lib.hid (fun W => show Calls Tryd.prog 29 #[.int .i64 NVV] W fun e w' => e = .returned (.string x) ∧ W = w' from hx ▸ fmtNum_any NVV W)
          have hcmp := fmt_cmp hx HS.out
          clear hx
          cases hd : decide (fmtT NVV = l) with
          | true =>
            rw [hd] at hcmp
            have HT := Lib.hid (numI_yes HNI.out (by omega) (by simpa using hd))
            clear hd
            go_wp2_with fail
            refine (F1.out _).mono ?_
            rintro e w9 ⟨rfl, rfl⟩
            go_wp2
            go_ret2
            rw [HT.out.1, HT.out.2]
            exact ⟨rfl, HBQ.out⟩
          | false =>
            rw [hd] at hcmp
            have HT := Lib.hid (numI_bad HNI.out (by simpa using hd))
            clear hd
            go_wp2_with fail
            refine (F1.out _).mono ?_
            rintro e w9 ⟨rfl, rfl⟩
            go_wp2
            go_ret2
            rw [HT.out.1, HT.out.2]
            exact ⟨rfl, HBQ.out⟩
        · have hlI : ¬ ((tn : Int) < n) := by omega
          have HNI := Lib.hid (show numI l = F from by rw [HNUM.out, if_neg hlen, hF])
          clear hF
          go_wp2_with fail
          refine (FR.out _).mono ?_
          rintro e w' ⟨rfl, rfl⟩
          by_cases hn0 : F < 0
          · have HT := Lib.hid (numI_neg HNI.out hn0)
            go_wp2
            all_goals (
              go_ret2
              rw [HT.out.1, HT.out.2]
              exact ⟨rfl, HBQ.out⟩)
          obtain ⟨x, hx⟩ : ∃ x, txt (fmtT F) = .string x := ⟨_, rfl⟩
          have F1 := Lib.hid (fun W => show Calls Tryd.prog 29 #[.int .i64 F] W fun e w' => e = .returned (.string x) ∧ W = w' from hx ▸ fmtNum_any F W)
          have hcmp := fmt_cmp hx HS.out
          clear hx
          cases hd : decide (fmtT F = l) with
          | true =>
            rw [hd] at hcmp
            have HT := Lib.hid (numI_yes HNI.out (by omega) (by simpa using hd))
            clear hd
            go_wp2_with fail
            refine (F1.out _).mono ?_
            rintro e w9 ⟨rfl, rfl⟩
            go_wp2
            go_ret2
            rw [HT.out.1, HT.out.2]
            exact ⟨rfl, HBQ.out⟩
          | false =>
            rw [hd] at hcmp
            have HT := Lib.hid (numI_bad HNI.out (by simpa using hd))
            clear hd
            go_wp2_with fail
            refine (F1.out _).mono ?_
            rintro e w9 ⟨rfl, rfl⟩
            go_wp2
            go_ret2
            rw [HT.out.1, HT.out.2]
            exact ⟨rfl, HBQ.out⟩
end Go.Proofs.YtdaaamdighojdaaDoor
