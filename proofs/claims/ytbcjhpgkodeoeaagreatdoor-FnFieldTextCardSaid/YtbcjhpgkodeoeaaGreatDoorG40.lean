/- The texts ParI, RMon in one: each says at its head what it proves. Conditions: as said there. -/
import Derived.Test.YtbcjhpgkodeoeaaGreatDoorG28
import Derived.Test.YtbcjhpgkodeoeaaGreatDoorG39
import Derived.Test.YtbcjhpgkodeoeaaGreatDoorG35
set_option linter.unusedSimpArgs false
set_option linter.unusedVariables false
/- Numbers read from texts: the program. Conditions: texts of at most a million bytes. -/
namespace Go.Proofs.YtbcjhpgkodeoeaaGreatDoor
open Go.RowKit Go.Sort

theorem numI_yes {l : List UInt8} {n : Int} (h : numI l = n) (h0 : 0 ≤ n) (h1 : fmtT n = l) : okI l = true ∧ numV l = n := by
  have h2 : okI l = true := by rw [okI, h]; simp [h0, h1]
  exact ⟨h2, by rw [numV, if_pos h2, h]⟩
theorem numI_neg {l : List UInt8} {n : Int} (h : numI l = n) (h0 : n < 0) : okI l = false ∧ numV l = 0 := numV_no (by rw [okI, h, decide_eq_false_iff_not]; omega)
theorem numI_bad {l : List UInt8} {n : Int} (h : numI l = n) (h1 : fmtT n ≠ l) : okI l = false ∧ numV l = 0 := numV_no (by rw [okI, h, decide_eq_false_iff_not]; exact fun h => h1 h.2)
theorem trim_len (l p : List UInt8) : (Lib.trimPrefix l p).length ≤ l.length := by
  unfold Lib.trimPrefix
  split
  · rw [List.length_drop]; omega
  · exact Nat.le_refl _

set_option maxRecDepth 100000 in
set_option maxHeartbeats 3200000 in
theorem parseNum_any (l : List UInt8) (s : ByteArray) (hs : s = ByteArray.mk l.toArray) (hl : l.length ≤ 1048576) (w : World) (hm : MaxCell w) :
    Calls Tryz.prog 141 #[.string s] w fun e w' => e = .returned (.tuple #[.int .i64 (numV l), .bool (okI l)]) ∧ Below w.heap.size w w' := by
  have hsz := str_size hs
  have HBW := Lib.hid (Below.refl w.heap.size w)
  have HS := Lib.hid hs
  obtain ⟨n, hn⟩ : ∃ n, l.length = n := ⟨_, rfl⟩
  rw [hn] at hsz hl
  cases hpx : Lib.hasPrefix l [35] with
  | true =>
    have HP := Lib.hid (fun W : World => show Calls Tryz.prog 179 #[.string s, .string ⟨#[35]⟩] W fun e w' => e = .returned (.bool true) ∧ W = w' from hpx ▸ hasPrefix_any l [35] s _ hs rfl W)
    have hn1 : 1 ≤ n := by
      rw [← hn]
      cases l with
      | nil => simp [Lib.hasPrefix, List.isPrefixOf] at hpx
      | cons a r => simp
    have hnI : (1 : Int) ≤ n := by omega
    obtain ⟨u, hu⟩ : ∃ u, s.extract 1 n = u := ⟨_, rfl⟩
    have hur : u = ByteArray.mk (l.drop 1).toArray := txt_inj (by
      rw [← hu, str_cut hs, List.take_of_length_le (by rw [List.length_drop]; omega)])
    obtain ⟨D, hD⟩ : ∃ D, digI (l.drop 1) = D := ⟨_, rfl⟩
    have D1 := Lib.hid (fun W : World => show Calls Tryz.prog 142 #[.string u] W fun e w' => e = .returned (.int .i64 D) ∧ W = w' from hD ▸ readDec_any (l.drop 1) u hur W)
    have HNI := Lib.hid (show numI l = D from by rw [numI, if_pos hpx, hD])
    clear hs hn hpx hur hD
    go_enter Tryz.func141, Tryz.ntmps141
    go_wp2_with fail
    refine (HP.out _).mono ?_
    rintro e w' ⟨rfl, rfl⟩
    go_wp2_with fail
    refine (D1.out _).mono ?_
    rintro e w' ⟨rfl, rfl⟩
    by_cases hn0 : D < 0
    · have HT := Lib.hid (numI_neg HNI.out hn0)
      go_wp2
      all_goals (
        go_ret2
        rw [HT.out.1, HT.out.2]
        exact ⟨rfl, HBW.out⟩)
    obtain ⟨x, hx⟩ : ∃ x, txt (fmtT D) = .string x := ⟨_, rfl⟩
    have F1 := Lib.hid (fun W => show Calls Tryz.prog 90 #[.int .i64 D] W fun e w' => e = .returned (.string x) ∧ W = w' from hx ▸ fmtNum_any D W)
    have hcmp := fmt_cmp hx HS.out
    clear hx
    cases hd : decide (fmtT D = l) with
    | true =>
      rw [hd] at hcmp
      have HT := Lib.hid (numI_yes HNI.out (by omega) (by simpa using hd))
      clear hd
      go_wp2_with fail
      refine (F1.out _).mono ?_
      rintro e w9 ⟨rfl, rfl⟩
      go_wp2
      go_ret2
      rw [HT.out.1, HT.out.2]
      exact ⟨rfl, HBW.out⟩
    | false =>
      rw [hd] at hcmp
      have HT := Lib.hid (numI_bad HNI.out (by simpa using hd))
      clear hd
      go_wp2_with fail
      refine (F1.out _).mono ?_
      rintro e w9 ⟨rfl, rfl⟩
      go_wp2
      go_ret2
      rw [HT.out.1, HT.out.2]
      exact ⟨rfl, HBW.out⟩
  | false =>
    have HP := Lib.hid (fun W : World => show Calls Tryz.prog 179 #[.string s, .string ⟨#[35]⟩] W fun e w' => e = .returned (.bool false) ∧ W = w' from hpx ▸ hasPrefix_any l [35] s _ hs rfl W)
    obtain ⟨T, hT⟩ : ∃ T, Lib.trimPrefix l [45] = T := ⟨_, rfl⟩
    obtain ⟨t, ht⟩ : ∃ t, t = ByteArray.mk T.toArray := ⟨_, rfl⟩
    have htz := str_size ht
    obtain ⟨tn, htn⟩ : ∃ tn, T.length = tn := ⟨_, rfl⟩
    rw [htn] at htz
    have htl : tn ≤ n := by rw [← htn, ← hT, ← hn]; exact trim_len _ _
    have TP := Lib.hid (fun W : World => show Calls Tryz.prog 180 #[.string s, .string ⟨#[45]⟩] W fun e w' => e = .returned (.string t) ∧ W = w' from by
      have := trimPrefix_any l [45] s ⟨#[45]⟩ hs rfl W
      rw [hT] at this
      rw [ht]
      exact this)
    obtain ⟨⟨X, Y, c3⟩, hc⟩ : ∃ c, Lib.cut T [47] = c := ⟨_, rfl⟩
    obtain ⟨x, hx⟩ : ∃ x, x = ByteArray.mk X.toArray := ⟨_, rfl⟩
    obtain ⟨y, hy⟩ : ∃ y, y = ByteArray.mk Y.toArray := ⟨_, rfl⟩
    have CU := Lib.hid (show Calls Tryz.prog 181 #[.string t, .string ⟨#[47]⟩] w fun e w' => e = .returned (.tuple #[.string x, .string y, .bool c3]) ∧ Below w.heap.size w w' from by
      have := cut_any T [47] t ⟨#[47]⟩ ht rfl (by omega) w hm
      rw [hc] at this
      rw [hx, hy]
      exact this)
    obtain ⟨A, hA⟩ : ∃ A, digI X = A := ⟨_, rfl⟩
    have D0 := Lib.hid (fun W : World => show Calls Tryz.prog 142 #[.string x] W fun e w' => e = .returned (.int .i64 A) ∧ W = w' from hA ▸ readDec_any X x hx W)
    have hnum : numI l = if A < 0 ∨ (if c3 = true then digI Y else 1) < 1 then -1 else if tn < n then (-(fracZ A (if c3 = true then digI Y else 1))) % 1000000271 else fracZ A (if c3 = true then digI Y else 1) := by
      rw [numI, if_neg (by rw [hpx]; simp), hT, hc, htn, hn]
      simp only [hA]
    cases c3 with
    | true =>
      obtain ⟨B, hB⟩ : ∃ B, digI Y = B := ⟨_, rfl⟩
      have D1 := Lib.hid (fun W : World => show Calls Tryz.prog 142 #[.string y] W fun e w' => e = .returned (.int .i64 B) ∧ W = w' from hB ▸ readDec_any Y y hy W)
      rw [if_pos rfl, hB] at hnum
      have HN0 := Lib.hid hnum
      clear hs hn hpx hT ht htn hc hx hy hA hB hnum
      go_enter Tryz.func141, Tryz.ntmps141
      go_wp2_with fail
      refine (HP.out _).mono ?_
      rintro e w' ⟨rfl, rfl⟩
      go_wp2_with fail
      refine (TP.out _).mono ?_
      rintro e w' ⟨rfl, rfl⟩
      go_wp2_with fail
      refine CU.out.mono ?_
      rintro e w1 ⟨rfl, hb1⟩
      have HBQ := Lib.hid hb1
      clear hb1
      go_wp2_with fail
      refine (D1.out _).mono ?_
      rintro e w' ⟨rfl, rfl⟩
      go_wp2_with fail
      refine (D0.out _).mono ?_
      rintro e w' ⟨rfl, rfl⟩
      by_cases hbad : A < 0 ∨ B < 1
      · have HT := Lib.hid (numI_neg (HN0.out.trans (if_pos hbad)) (by decide))
        by_cases hA0 : A < 0
        · go_wp2
          go_ret2
          rw [HT.out.1, HT.out.2]
          exact ⟨rfl, HBQ.out⟩
        · have hB1 : B < 1 := by omega
          go_wp2
          go_ret2
          rw [HT.out.1, HT.out.2]
          exact ⟨rfl, HBQ.out⟩
      · have HNUM := Lib.hid (HN0.out.trans (if_neg hbad))
        have hA0 : ¬ A < 0 := by omega
        have hB1 : ¬ B < 1 := by omega
        clear hbad
        -- the fraction, turned round if the text had a sign
        obtain ⟨F, hF⟩ : ∃ F, fracZ A B = F := ⟨_, rfl⟩
        have hF0 : 0 ≤ F ∧ F ≤ 1000000270 := hF ▸ frac_bd A B
        obtain ⟨hF1, hF2⟩ := hF0
        have FR := Lib.hid (fun W : World => show Calls Tryz.prog 65 #[.int .i64 A, .int .i64 B] W fun e w' => e = .returned (.int .i64 F) ∧ W = w' from hF ▸ fraction_any A B W)
        by_cases hlen : tn < n
        · have hlI : (tn : Int) < n := by omega
          obtain ⟨NVV, hNV⟩ : ∃ N, (-F) % 1000000271 = N := ⟨_, rfl⟩
          have hnv0 : 0 ≤ NVV := by omega
          have HNI := Lib.hid (show numI l = NVV from by rw [HNUM.out, if_pos hlen, hF, hNV])
          have hwn : IntKind.i64.wrap (-F) = -F := IntWalk.i64_in _ (by omega)
          have RS := Lib.hid (fun W : World => show Calls Tryz.prog 84 #[.int .i64 (-F)] W fun e w' => e = .returned (.int .i64 NVV) ∧ W = w' from hNV ▸ residue_any (-F) W)
          clear hF hNV
          go_wp2_with fail
          refine (FR.out _).mono ?_
          rintro e w' ⟨rfl, rfl⟩
          go_wp2_with fail
          refine (RS.out _).mono ?_
          rintro e w' ⟨rfl, rfl⟩
          by_cases hn0 : NVV < 0
          · have HT := Lib.hid (numI_neg HNI.out hn0)
            go_wp2
            all_goals (
              go_ret2
              rw [HT.out.1, HT.out.2]
              exact ⟨rfl, HBQ.out⟩)
          obtain ⟨x, hx⟩ : ∃ x, txt (fmtT NVV) = .string x := ⟨_, rfl⟩
          have F1 := Lib.hid (fun W => show Calls Tryz.prog 90 #[.int .i64 NVV] W fun e w' => e = .returned (.string x) ∧ W = w' from hx ▸ fmtNum_any NVV W)
          have hcmp := fmt_cmp hx HS.out
          clear hx
          cases hd : decide (fmtT NVV = l) with
          | true =>
            rw [hd] at hcmp
            have HT := Lib.hid (numI_yes HNI.out (by omega) (by simpa using hd))
            clear hd
            go_wp2_with fail
            refine (F1.out _).mono ?_
            rintro e w9 ⟨rfl, rfl⟩
            go_wp2
            go_ret2
            rw [HT.out.1, HT.out.2]
            exact ⟨rfl, HBQ.out⟩
          | false =>
            rw [hd] at hcmp
            have HT := Lib.hid (numI_bad HNI.out (by simpa using hd))
            clear hd
            go_wp2_with fail
            refine (F1.out _).mono ?_
            rintro e w9 ⟨rfl, rfl⟩
            go_wp2
            go_ret2
            rw [HT.out.1, HT.out.2]
            exact ⟨rfl, HBQ.out⟩
        · have hlI : ¬ ((tn : Int) < n) := by omega
          have HNI := Lib.hid (show numI l = F from by rw [HNUM.out, if_neg hlen, hF])
          clear hF
          go_wp2_with fail
          refine (FR.out _).mono ?_
          rintro e w' ⟨rfl, rfl⟩
          by_cases hn0 : F < 0
          · have HT := Lib.hid (numI_neg HNI.out hn0)
            go_wp2
            all_goals (
              go_ret2
              rw [HT.out.1, HT.out.2]
              exact ⟨rfl, HBQ.out⟩)
          obtain ⟨x, hx⟩ : ∃ x, txt (fmtT F) = .string x := ⟨_, rfl⟩
          have F1 := Lib.hid (fun W => show Calls Tryz.prog 90 #[.int .i64 F] W fun e w' => e = .returned (.string x) ∧ W = w' from hx ▸ fmtNum_any F W)
          have hcmp := fmt_cmp hx HS.out
          clear hx
          cases hd : decide (fmtT F = l) with
          | true =>
            rw [hd] at hcmp
            have HT := Lib.hid (numI_yes HNI.out (by omega) (by simpa using hd))
            clear hd
            go_wp2_with fail
            refine (F1.out _).mono ?_
            rintro e w9 ⟨rfl, rfl⟩
            go_wp2
            go_ret2
            rw [HT.out.1, HT.out.2]
            exact ⟨rfl, HBQ.out⟩
          | false =>
            rw [hd] at hcmp
            have HT := Lib.hid (numI_bad HNI.out (by simpa using hd))
            clear hd
            go_wp2_with fail
            refine (F1.out _).mono ?_
            rintro e w9 ⟨rfl, rfl⟩
            go_wp2
            go_ret2
            rw [HT.out.1, HT.out.2]
            exact ⟨rfl, HBQ.out⟩
    | false =>
      have HN0 := Lib.hid (show numI l = if A < 0 then -1 else if tn < n then (-(fracZ A 1)) % 1000000271 else fracZ A 1 from by
        rw [hnum]
        simp)
      clear hs hn hpx hT ht htn hc hx hy hA hnum
      go_enter Tryz.func141, Tryz.ntmps141
      go_wp2_with fail
      refine (HP.out _).mono ?_
      rintro e w' ⟨rfl, rfl⟩
      go_wp2_with fail
      refine (TP.out _).mono ?_
      rintro e w' ⟨rfl, rfl⟩
      go_wp2_with fail
      refine CU.out.mono ?_
      rintro e w1 ⟨rfl, hb1⟩
      have HBQ := Lib.hid hb1
      clear hb1
      go_wp2_with fail
      refine (D0.out _).mono ?_
      rintro e w' ⟨rfl, rfl⟩
      by_cases hA0 : A < 0
      · have HT := Lib.hid (numI_neg (HN0.out.trans (if_pos hA0)) (by decide))
        go_wp2
        go_ret2
        rw [HT.out.1, HT.out.2]
        exact ⟨rfl, HBQ.out⟩
      · have HNUM := Lib.hid (HN0.out.trans (if_neg hA0))
        -- the fraction, turned round if the text had a sign
        obtain ⟨F, hF⟩ : ∃ F, fracZ A (1 : Int) = F := ⟨_, rfl⟩
        have hF0 : 0 ≤ F ∧ F ≤ 1000000270 := hF ▸ frac_bd A (1 : Int)
        obtain ⟨hF1, hF2⟩ := hF0
        have FR := Lib.hid (fun W : World => show Calls Tryz.prog 65 #[.int .i64 A, .int .i64 (1 : Int)] W fun e w' => e = .returned (.int .i64 F) ∧ W = w' from hF ▸ fraction_any A (1 : Int) W)
        by_cases hlen : tn < n
        · have hlI : (tn : Int) < n := by omega
          obtain ⟨NVV, hNV⟩ : ∃ N, (-F) % 1000000271 = N := ⟨_, rfl⟩
          have hnv0 : 0 ≤ NVV := by omega
          have HNI := Lib.hid (show numI l = NVV from by rw [HNUM.out, if_pos hlen, hF, hNV])
          have hwn : IntKind.i64.wrap (-F) = -F := IntWalk.i64_in _ (by omega)
          have RS := Lib.hid (fun W : World => show Calls Tryz.prog 84 #[.int .i64 (-F)] W fun e w' => e = .returned (.int .i64 NVV) ∧ W = w' from hNV ▸ residue_any (-F) W)
          clear hF hNV
          go_wp2_with fail
          refine (FR.out _).mono ?_
          rintro e w' ⟨rfl, rfl⟩
          go_wp2_with fail
          refine (RS.out _).mono ?_
          rintro e w' ⟨rfl, rfl⟩
          by_cases hn0 : NVV < 0
          · have HT := Lib.hid (numI_neg HNI.out hn0)
            go_wp2
            all_goals (
              go_ret2
              rw [HT.out.1, HT.out.2]
              exact ⟨rfl, HBQ.out⟩)
          obtain ⟨x, hx⟩ : ∃ x, txt (fmtT NVV) = .string x := ⟨_, rfl⟩
          have F1 := Lib.hid (fun W => show Calls Tryz.prog 90 #[.int .i64 NVV] W fun e w' => e = .returned (.string x) ∧ W = w' from hx ▸ fmtNum_any NVV W)
          have hcmp := fmt_cmp hx HS.out
          clear hx
          cases hd : decide (fmtT NVV = l) with
          | true =>
            rw [hd] at hcmp
            have HT := Lib.hid (numI_yes HNI.out (by omega) (by simpa using hd))
            clear hd
            go_wp2_with fail
            refine (F1.out _).mono ?_
            rintro e w9 ⟨rfl, rfl⟩
            go_wp2
            go_ret2
            rw [HT.out.1, HT.out.2]
            exact ⟨rfl, HBQ.out⟩
          | false =>
            rw [hd] at hcmp
            have HT := Lib.hid (numI_bad HNI.out (by simpa using hd))
            clear hd
            go_wp2_with fail
            refine (F1.out _).mono ?_
            rintro e w9 ⟨rfl, rfl⟩
            go_wp2
            go_ret2
            rw [HT.out.1, HT.out.2]
            exact ⟨rfl, HBQ.out⟩
        · have hlI : ¬ ((tn : Int) < n) := by omega
          have HNI := Lib.hid (show numI l = F from by rw [HNUM.out, if_neg hlen, hF])
          clear hF
          go_wp2_with fail
          refine (FR.out _).mono ?_
          rintro e w' ⟨rfl, rfl⟩
          by_cases hn0 : F < 0
          · have HT := Lib.hid (numI_neg HNI.out hn0)
            go_wp2
            all_goals (
              go_ret2
              rw [HT.out.1, HT.out.2]
              exact ⟨rfl, HBQ.out⟩)
          obtain ⟨x, hx⟩ : ∃ x, txt (fmtT F) = .string x := ⟨_, rfl⟩
          have F1 := Lib.hid (fun W => show Calls Tryz.prog 90 #[.int .i64 F] W fun e w' => e = .returned (.string x) ∧ W = w' from hx ▸ fmtNum_any F W)
          have hcmp := fmt_cmp hx HS.out
          clear hx
          cases hd : decide (fmtT F = l) with
          | true =>
            rw [hd] at hcmp
            have HT := Lib.hid (numI_yes HNI.out (by omega) (by simpa using hd))
            clear hd
            go_wp2_with fail
            refine (F1.out _).mono ?_
            rintro e w9 ⟨rfl, rfl⟩
            go_wp2
            go_ret2
            rw [HT.out.1, HT.out.2]
            exact ⟨rfl, HBQ.out⟩
          | false =>
            rw [hd] at hcmp
            have HT := Lib.hid (numI_bad HNI.out (by simpa using hd))
            clear hd
            go_wp2_with fail
            refine (F1.out _).mono ?_
            rintro e w9 ⟨rfl, rfl⟩
            go_wp2
            go_ret2
            rw [HT.out.1, HT.out.2]
            exact ⟨rfl, HBQ.out⟩
end Go.Proofs.YtbcjhpgkodeoeaaGreatDoor

/- Monomials read from texts: the program. Conditions: texts of at most a million bytes. -/
namespace Go.Proofs.YtbcjhpgkodeoeaaGreatDoor
open Go.RowKit Go.Sort

theorem powW_i64 {dg : List UInt8 → Int} (hd : ∀ l, -1 ≤ dg l ∧ dg l < 10000000000) (w : List UInt8) : I64 (powW dg w) := by
  unfold powW
  split
  · have := hd (w.drop 1); exact ⟨by omega, by omega⟩
  · exact ⟨by decide, by decide⟩
theorem u8_sub {x : Int} {v : Nat} (h0 : 97 ≤ x) (h1 : x ≤ 255) (hv : x - 97 = (v : Int)) : IntKind.u8.wrap (x - 97) = (v : Int) := by
  unfold IntKind.wrap
  simp [IntKind.bits, IntKind.signed]
  omega
theorem varB_cons {d : Nat} {b : UInt8} {r : List UInt8} {x : Int} (hx : (b.toNat : Int) = x) : varB d (b :: r) = decide (97 ≤ x ∧ x < 97 + d) := by
  rw [varB, Bool.eq_iff_iff, decide_eq_true_eq, decide_eq_true_eq]
  omega
theorem varN_cons {b : UInt8} {r : List UInt8} {x : Int} {v : Nat} (hx : (b.toNat : Int) = x) (hv : x - 97 = (v : Int)) : varN (b :: r) = v := by
  show b.toNat - 97 = v
  omega
/-- What reading a monomial leaves. -/
def MonRead (d : Nat) (l : List UInt8) (w : World) : Ending → World → Prop := fun e w' =>
  ∃ (c : Int) (ps : List Int) (g cap : Nat), e = .returned (.tuple #[.agg #[.int .i64 c, .slice (some ⟨g, 0, none⟩) d cap], .bool (iMonB d l)]) ∧ OwnI 3 w' (.slice (some ⟨g, 0, none⟩) d cap) ps [g] ∧ w.heap.size ≤ g ∧ I64 c ∧ (iMonB d l = true → (⟨c, ps⟩ : MonZ) = iMon d l) ∧ Below w.heap.size w w'

set_option maxRecDepth 100000 in
set_option maxHeartbeats 3200000 in
theorem readMon_any (l : List UInt8) (s : ByteArray) (d : Nat) (hs : s = ByteArray.mk l.toArray) (hl : l.length ≤ 1048576) (hd1 : 1 ≤ d) (hd6 : d ≤ 6) (w : World) (hm : MaxCell w) :
    Calls Tryz.prog 89 #[.string s, .int .i64 (d : Int)] w (MonRead d l w) := by
  obtain ⟨W0, hW0⟩ : ∃ W, W = w.alloc (.cells #[.int .i64 0, .slice none 0 0] 56) := ⟨_, rfl⟩
  have hb0 : Below w.heap.size w W0 := hW0 ▸ (Below.refl _ _).alloc (Nat.le_refl _) _
  have HB0 := Lib.hid hb0
  have HW0 := Lib.hid hW0
  have hsz : w.heap.size < W0.heap.size := by rw [hW0]; simp
  have HR := Lib.hid (show W0.cell? ⟨w.heap.size, 0, none⟩ = some (.int .i64 0) ∧ W0.cell? ⟨w.heap.size, 1, none⟩ = some (.slice none 0 0) ∧ W0.frozen? ⟨w.heap.size, 0, none⟩ = false ∧ W0.frozen? ⟨w.heap.size, 1, none⟩ = false from by rw [hW0]; refine ⟨?_, ?_, ?_, ?_⟩ <;> simp)
  have SP := Lib.hid (show Calls Tryz.prog 87 #[.string s, .string ⟨#[42]⟩] W0 (Words W0 (starS l)) from split_any l [42] s _ hs rfl hl (by decide) W0 (maxCell_mono hb0 hm))
  have HMX := Lib.hid hm
  have HL := Lib.hid hl
  clear hs hW0 hb0 hm
  obtain ⟨i0, hi, hz0, hz1, hz2⟩ := info_parts Tryz.info_int
  go_enter Tryz.func89, Tryz.ntmps89
  go_wp2_with fail
  rw [← HW0.out]
  refine SP.out.mono ?_
  rintro e w1 ⟨g, cap, m, rfl, hR⟩
  have hpm := hR.len
  have hm1 : 1 ≤ m := by have := List.length_pos_iff.2 (split_ne l [42]); unfold starS at hpm; omega
  obtain ⟨q, rfl⟩ : ∃ q, m = q + 1 := ⟨m - 1, by omega⟩
  obtain ⟨x0, hx0⟩ : ∃ x0, (starS l)[0]? = some x0 := ⟨_, List.getElem?_eq_getElem (by omega)⟩
  obtain ⟨y0, hy0⟩ : ∃ y0, y0 = ByteArray.mk x0.toArray := ⟨_, rfl⟩
  have hc0 := hR.at hx0 hy0
  have hbw1 := HB0.out.trans (hR.below.mono HB0.out.size)
  have hx0l : x0.length ≤ 1048576 := split_small (by simp) _ l HL.out x0 (List.mem_of_getElem? hx0)
  have PN := Lib.hid (parseNum_any x0 y0 hy0 hx0l w1 (maxCell_mono hbw1 HMX.out))
  have hqb : q ≤ 1048580 := by
    have h1 := split_len l [42]
    have h2 := HL.out
    unfold starS at hpm
    omega
  have hqc : q + 1 ≤ cap := by
    obtain ⟨_, _, hv9, hnc9, _, _⟩ := row_open hR.row
    injection hv9 with e1 e2 e3
    omega
  have HRR := Lib.hid hR
  have HX0 := Lib.hid hx0
  have HPM := Lib.hid hpm
  have HBW1 := Lib.hid hbw1
  have hib : i0.bytes * d ≤ 281474976710656 := by rw [hz2]; omega
  have hq1 : (1 : Int) ≤ (q : Int) + 1 := by omega
  clear hy0 hx0 hx0l hR hbw1 hpm
  go_wp2_with fail
  refine PN.out.mono ?_
  rintro e w2 ⟨rfl, hb2⟩
  obtain ⟨C, hC⟩ : ∃ C, numV x0 = C := ⟨_, rfl⟩
  obtain ⟨ok, hok⟩ : ∃ ok, okI x0 = ok := ⟨_, rfl⟩
  rw [hC, hok]
  have hCI : I64 C := hC ▸ numV_i64 x0
  have HC := Lib.hid hC
  have HOK := Lib.hid hok
  have HB2 := Lib.hid hb2
  clear hc0 hC hok hb2
  by_cases hcap : cap = 1
  · have hq0 : q = 0 := by omega
    go_wp2_with (first
      | (at_make; refine wpList_make_full _ rfl _ _ 35 rfl 0 3 i0 (.int .i64 0) 1 Tryz.underlying35 hi hz0 hz1 .i64 .i64 _ _ d rfl rfl rfl rfl hib (by unfold maxLen; omega) (Nat.zero_le _) ?_; intro w3 hown1 hgrow1))
    have hm0 : (madeCells (Value.int .i64 0).cells (d * 1)).toList = (List.replicate d (0 : Int)).map (Value.int .i64) := by
      rw [Nat.mul_one, List.map_replicate]; exact toList_madeCells_one _ _
    rw [hm0] at hown1
    have hbl : Below w2.heap.size w2 w3 := (Below.refl _ _).grown hgrow1 (Nat.le_refl _) (fun k hk => by cases hk)
    obtain ⟨W4, hW4⟩ : ∃ W, W = w3.alloc (.cells #[.int .i64 C, .slice (some ⟨w2.heap.size, 0, none⟩) d d] 56) := ⟨_, rfl⟩
    have hb4 : Below w3.heap.size w3 W4 := hW4 ▸ (Below.refl _ _).alloc (Nat.le_refl _) _
    have hlt2 : w2.heap.size < w3.heap.size := (hown1.lt _ rfl).2
    have HP0 := Lib.hid (show PBox 3 w2 W4 w3.heap.size w2.heap.size d d C (List.replicate d 0) from
      ⟨by rw [hW4]; simp, by rw [hW4]; simp, ownI_only ⟨by rw [List.length_replicate]; exact hown1, rfl, fun x hx => by rw [List.mem_replicate] at hx; rw [hx.2]; exact ⟨by decide, by decide⟩⟩ (Only.of_below (fp := []) hb4) (by simp), by simp, by omega, hbl.size, Nat.le_refl _, hbl.trans (hb4.mono hbl.size)⟩)
    have HW4 := Lib.hid hW4
    have HWL := Lib.hid (show ((starS l).drop 1).length = q from by rw [List.length_drop, HPM.out]; omega)
    rw [← HW4.out]
    clear hm0 hgrow1 hown1 hbl hb4 hW4 hib hlt2
    go_loopw [29] (fun si wr => ∃ (i : Nat) (ps : List Int), si = .int .i64 i ∧ i ≤ q ∧ PBox 3 w2 wr w3.heap.size w2.heap.size d d C ps ∧ ps = powsW digI (((starS l).drop 1).take i) (List.replicate d 0) ∧ (((starS l).drop 1).take i).all (varB d) = true) (fun si _ => q - (intOf si).toNat)
    case atStart => exact ⟨0, _, rfl, Nat.zero_le _, HP0.out, rfl, rfl⟩
    case round =>
      obtain ⟨wk, rfl⟩ : ∃ W, W = wr := ⟨_, rfl⟩
      clear HP0
      obtain ⟨i, ps, rfl, hiq, hP, hps, hall⟩ := hrel
      have hbk := HB2.out.trans (hP.below.mono HB2.out.size)
      have hbr := HRR.out.below.trans (hbk.mono HRR.out.below.size)
      have hr0 := cell_below hbr HR.out.1
      have hr1 := cell_below hbr HR.out.2.1
      have hf0 := (hbr.frozen (p := ⟨w.heap.size, 0, none⟩) hsz).trans HR.out.2.2.1
      have hf1 := (hbr.frozen (p := ⟨w.heap.size, 1, none⟩) hsz).trans HR.out.2.2.2
      have hp0 := hP.c0
      have hp1 := hP.c1
      have HP := Lib.hid hP
      have HPS := Lib.hid hps
      have HALL := Lib.hid hall
      have HBK := Lib.hid (HB0.out.trans (hbr.mono HB0.out.size))
      have hB1 : w.heap.size < w2.heap.size := by have := HRR.out.below.size; have := HB2.out.size; omega
      -- the result: whatever is left, in the result's own cells
      have HEND := Lib.hid (fun (b : Bool) (hb : b = iMonB d l) (hbi : b = true → ps = powsW digI ((starS l).drop 1) (List.replicate d 0)) => show MonRead d l w (.returned (.tuple #[.agg #[.int .i64 C, .slice (some ⟨w2.heap.size, 0, none⟩) d d], .bool b])) ((wk.setCell ⟨w.heap.size, 0, none⟩ (.int .i64 C)).setCell ⟨w.heap.size, 1, none⟩ (.slice (some ⟨w2.heap.size, 0, none⟩) d d)) from by
        have hO : Only [w.heap.size] wk ((wk.setCell ⟨w.heap.size, 0, none⟩ (.int .i64 C)).setCell ⟨w.heap.size, 1, none⟩ (.slice (some ⟨w2.heap.size, 0, none⟩) d d)) := ((Only.refl _ _).setCell (by simp) _).setCell (by simp) _
        refine ⟨C, ps, _, _, by rw [hb], ownI_only HP.out.own hO (fun b hb hm => by simp at hb hm; omega), by omega, hCI, fun hi => ?_, (HBK.out.setCell (Nat.le_refl _) _).setCell (Nat.le_refl _) _⟩
        rw [iMon, hbi (hb.trans hi), HX0.out]
        show (⟨C, _⟩ : MonZ) = ⟨numV x0, _⟩
        rw [HC.out])
      clear hP hps hall hbk hbr
      by_cases hlt : i < q
      case neg =>
        obtain rfl : i = q := by omega
        have htk : ((starS l).drop 1).take i = (starS l).drop 1 := List.take_of_length_le (by rw [HWL.out]; exact Nat.le_refl _)
        have HF := Lib.hid (HEND.out ok (by rw [iMonB, ← htk, HALL.out, HX0.out, Bool.and_true]; exact HOK.out.symm) (fun _ => by rw [HPS.out, htk]))
        clear HEND
        go_wp2
        exact bodyPost_ret (v := .tuple #[.agg #[.int .i64 C, .slice (some ⟨w2.heap.size, 0, none⟩) d d], .bool ok]) (by simp [results, Tryz.results89, go_sem, hr0, hr1]) rfl HF.out
      case pos => exfalso; omega
  · have hcapI : ¬ ((cap : Int) = 1) := by omega
    go_wp2_with (first
      | (at_make; refine wpList_make_full _ rfl _ _ 35 rfl 0 3 i0 (.int .i64 0) 1 Tryz.underlying35 hi hz0 hz1 .i64 .i64 _ _ d rfl rfl rfl rfl hib (by unfold maxLen; omega) (Nat.zero_le _) ?_; intro w3 hown1 hgrow1))
    have hm0 : (madeCells (Value.int .i64 0).cells (d * 1)).toList = (List.replicate d (0 : Int)).map (Value.int .i64) := by
      rw [Nat.mul_one, List.map_replicate]; exact toList_madeCells_one _ _
    rw [hm0] at hown1
    have hbl : Below w2.heap.size w2 w3 := (Below.refl _ _).grown hgrow1 (Nat.le_refl _) (fun k hk => by cases hk)
    obtain ⟨W4, hW4⟩ : ∃ W, W = w3.alloc (.cells #[.int .i64 C, .slice (some ⟨w2.heap.size, 0, none⟩) d d] 56) := ⟨_, rfl⟩
    have hb4 : Below w3.heap.size w3 W4 := hW4 ▸ (Below.refl _ _).alloc (Nat.le_refl _) _
    have hlt2 : w2.heap.size < w3.heap.size := (hown1.lt _ rfl).2
    have HP0 := Lib.hid (show PBox 3 w2 W4 w3.heap.size w2.heap.size d d C (List.replicate d 0) from
      ⟨by rw [hW4]; simp, by rw [hW4]; simp, ownI_only ⟨by rw [List.length_replicate]; exact hown1, rfl, fun x hx => by rw [List.mem_replicate] at hx; rw [hx.2]; exact ⟨by decide, by decide⟩⟩ (Only.of_below (fp := []) hb4) (by simp), by simp, by omega, hbl.size, Nat.le_refl _, hbl.trans (hb4.mono hbl.size)⟩)
    have HW4 := Lib.hid hW4
    have HWL := Lib.hid (show ((starS l).drop 1).length = q from by rw [List.length_drop, HPM.out]; omega)
    rw [← HW4.out]
    clear hm0 hgrow1 hown1 hbl hb4 hW4 hib hlt2
    go_loopw [29] (fun si wr => ∃ (i : Nat) (ps : List Int), si = .int .i64 i ∧ i ≤ q ∧ PBox 3 w2 wr w3.heap.size w2.heap.size d d C ps ∧ ps = powsW digI (((starS l).drop 1).take i) (List.replicate d 0) ∧ (((starS l).drop 1).take i).all (varB d) = true) (fun si _ => q - (intOf si).toNat)
    case atStart => exact ⟨0, _, rfl, Nat.zero_le _, HP0.out, rfl, rfl⟩
    case round =>
      obtain ⟨wk, rfl⟩ : ∃ W, W = wr := ⟨_, rfl⟩
      clear HP0
      obtain ⟨i, ps, rfl, hiq, hP, hps, hall⟩ := hrel
      have hbk := HB2.out.trans (hP.below.mono HB2.out.size)
      have hbr := HRR.out.below.trans (hbk.mono HRR.out.below.size)
      have hr0 := cell_below hbr HR.out.1
      have hr1 := cell_below hbr HR.out.2.1
      have hf0 := (hbr.frozen (p := ⟨w.heap.size, 0, none⟩) hsz).trans HR.out.2.2.1
      have hf1 := (hbr.frozen (p := ⟨w.heap.size, 1, none⟩) hsz).trans HR.out.2.2.2
      have hp0 := hP.c0
      have hp1 := hP.c1
      have HP := Lib.hid hP
      have HPS := Lib.hid hps
      have HALL := Lib.hid hall
      have HBK := Lib.hid (HB0.out.trans (hbr.mono HB0.out.size))
      have hB1 : w.heap.size < w2.heap.size := by have := HRR.out.below.size; have := HB2.out.size; omega
      -- the result: whatever is left, in the result's own cells
      have HEND := Lib.hid (fun (b : Bool) (hb : b = iMonB d l) (hbi : b = true → ps = powsW digI ((starS l).drop 1) (List.replicate d 0)) => show MonRead d l w (.returned (.tuple #[.agg #[.int .i64 C, .slice (some ⟨w2.heap.size, 0, none⟩) d d], .bool b])) ((wk.setCell ⟨w.heap.size, 0, none⟩ (.int .i64 C)).setCell ⟨w.heap.size, 1, none⟩ (.slice (some ⟨w2.heap.size, 0, none⟩) d d)) from by
        have hO : Only [w.heap.size] wk ((wk.setCell ⟨w.heap.size, 0, none⟩ (.int .i64 C)).setCell ⟨w.heap.size, 1, none⟩ (.slice (some ⟨w2.heap.size, 0, none⟩) d d)) := ((Only.refl _ _).setCell (by simp) _).setCell (by simp) _
        refine ⟨C, ps, _, _, by rw [hb], ownI_only HP.out.own hO (fun b hb hm => by simp at hb hm; omega), by omega, hCI, fun hi => ?_, (HBK.out.setCell (Nat.le_refl _) _).setCell (Nat.le_refl _) _⟩
        rw [iMon, hbi (hb.trans hi), HX0.out]
        show (⟨C, _⟩ : MonZ) = ⟨numV x0, _⟩
        rw [HC.out])
      clear hP hps hall hbk hbr
      by_cases hlt : i < q
      case neg =>
        obtain rfl : i = q := by omega
        have htk : ((starS l).drop 1).take i = (starS l).drop 1 := List.take_of_length_le (by rw [HWL.out]; exact Nat.le_refl _)
        have HF := Lib.hid (HEND.out ok (by rw [iMonB, ← htk, HALL.out, HX0.out, Bool.and_true]; exact HOK.out.symm) (fun _ => by rw [HPS.out, htk]))
        clear HEND
        go_wp2
        exact bodyPost_ret (v := .tuple #[.agg #[.int .i64 C, .slice (some ⟨w2.heap.size, 0, none⟩) d d], .bool ok]) (by simp [results, Tryz.results89, go_sem, hr0, hr1]) rfl HF.out
      case pos =>
        obtain ⟨x, hx⟩ : ∃ x, ((starS l).drop 1)[i]? = some x := ⟨_, List.getElem?_eq_getElem (by rw [HWL.out]; exact hlt)⟩
        have hx' : (starS l)[1 + i]? = some x := by rw [← List.getElem?_drop]; exact hx
        obtain ⟨y, hy⟩ : ∃ y, y = ByteArray.mk x.toArray := ⟨_, rfl⟩
        have hcx := cell_below (HB2.out.trans (HP.out.below.mono HB2.out.size)) (HRR.out.at hx' hy)
        have hem := str_empty hy
        have hiI : (i : Int) < q := by omega
        have HXI := Lib.hid hx
        have HTK := Lib.hid (take_snoc hx)
        cases hxx : x with
        | nil =>
          have hem' : y.toList.isEmpty = true := by rw [hem, hxx]; rfl
          have hbadW : varB d x = false := by rw [hxx]; rfl
          have HF := Lib.hid (HEND.out false (by
            have : ((starS l).drop 1).all (varB d) = false := List.all_eq_false.2 ⟨x, List.mem_of_getElem? hx, by rw [hbadW]; simp⟩
            rw [iMonB, this, Bool.and_false]) (fun h => by cases h))
          clear HEND hx hx' hy hem
          go_wp2
          exact bodyPost_ret (v := .tuple #[.agg #[.int .i64 C, .slice (some ⟨w2.heap.size, 0, none⟩) d d], .bool false]) (by simp [results, Tryz.results89, go_sem, hr0, hr1]) rfl HF.out
        | cons b r =>
          have hem' : y.toList.isEmpty = false := by rw [hem, hxx]; rfl
          obtain ⟨z, hz⟩ : ∃ z : Int, (b.toNat : Int) = z := ⟨_, rfl⟩
          obtain ⟨hi0, hs0⟩ := str_at (i := 0) hy (by rw [hxx]; rfl)
          have hzb : (y[0]'hi0).toNat = b.toNat := by rw [hs0]
          have hz255 : z ≤ 255 := by have := b.toNat_lt; omega
          have hysz := str_size hy
          obtain ⟨yn, hyn⟩ : ∃ n, x.length = n := ⟨_, rfl⟩
          rw [hyn] at hysz
          have hyn1 : 1 ≤ yn := by rw [← hyn, hxx]; simp
          have hynI : (0 : Int) < yn := by omega
          have hynN : 0 < yn := by omega
          have hvB := varB_cons (d := d) (r := r) hz
          rw [← hxx] at hvB
          by_cases hlo : z < 97
          · have HF := Lib.hid (HEND.out false (by
              have : ((starS l).drop 1).all (varB d) = false := List.all_eq_false.2 ⟨x, List.mem_of_getElem? hx, by rw [hvB]; simp; omega⟩
              rw [iMonB, this, Bool.and_false]) (fun h => by cases h))
            clear HEND hx hx' hy hem hs0 hvB hxx
            go_wp2
            exact bodyPost_ret (v := .tuple #[.agg #[.int .i64 C, .slice (some ⟨w2.heap.size, 0, none⟩) d d], .bool false]) (by simp [results, Tryz.results89, go_sem, hr0, hr1]) rfl HF.out
          obtain ⟨v, hv⟩ : ∃ v : Nat, z - 97 = (v : Int) := ⟨(z - 97).toNat, by omega⟩
          have hu8 := u8_sub (by omega) hz255 hv
          have hw64 : IntKind.i64.wrap (v : Int) = v := IntWalk.i64_in _ (by omega)
          by_cases hhi : (d : Int) ≤ v
          · have HF := Lib.hid (HEND.out false (by
              have : ((starS l).drop 1).all (varB d) = false := List.all_eq_false.2 ⟨x, List.mem_of_getElem? hx, by rw [hvB]; simp; omega⟩
              rw [iMonB, this, Bool.and_false]) (fun h => by cases h))
            clear HEND hx hx' hy hem hs0 hvB hxx hv
            go_wp2
            exact bodyPost_ret (v := .tuple #[.agg #[.int .i64 C, .slice (some ⟨w2.heap.size, 0, none⟩) d d], .bool false]) (by simp [results, Tryz.results89, go_sem, hr0, hr1]) rfl HF.out
          obtain ⟨PW, hPW⟩ : ∃ p, powW digI x = p := ⟨_, rfl⟩
          have hPI : I64 PW := hPW ▸ powW_i64 digI_bd x
          obtain ⟨⟨cu, hcu⟩, hfz, hPS⟩ := HP.out.set (v := v) (by omega) hPI
          have hvn : varN x = v := by rw [hxx]; exact varN_cons hz hv
          have hvd : (v : Int) < d := by omega
          have HN := Lib.hid (show PBox 3 w2 ((wk.setCell ⟨w2.heap.size, v, none⟩ (.int .i64 PW)).drew) w3.heap.size w2.heap.size d d C (ps.set v PW) ∧ ps.set v PW = powsW digI (((starS l).drop 1).take (i + 1)) (List.replicate d 0) ∧ (((starS l).drop 1).take (i + 1)).all (varB d) = true from
            ⟨hPS.step ((Below.refl _ _).drew), by rw [HTK.out, powsW_snoc, ← HPS.out, hvn, hPW], by rw [HTK.out, List.all_append, HALL.out]; simp [hvB]; omega⟩)
          by_cases hy1 : 1 < yn
          · have hy1I : (1 : Int) < yn := by omega
            have hy1J : (1 : Int) ≤ yn := by omega
            obtain ⟨u, hu⟩ : ∃ u, y.extract 1 yn = u := ⟨_, rfl⟩
            have hur : u = ByteArray.mk (x.drop 1).toArray := txt_inj (by
              rw [← hu, str_cut hy, List.take_of_length_le (by rw [List.length_drop]; omega)])
            have RD := Lib.hid (fun W : World => show Calls Tryz.prog 142 #[.string u] W fun e w' => e = .returned (.int .i64 PW) ∧ W = w' from by
              have := readDec_any (x.drop 1) u hur W
              rwa [show digI (x.drop 1) = PW from by rw [← hPW, powW, if_pos (by omega)]] at this)
            clear HEND hx hx' hy hem hs0 hvB hxx hv hPS hvn hPW hur
            go_wp2_with fail
            refine (RD.out _).mono ?_
            rintro e w' ⟨rfl, rfl⟩
            go_wp2
            (refine wp_region_still_tail 7 (by kernel_rfl) (by kernel_rfl) ?_; simp only [List.take_succ_cons, List.take_zero, List.drop_succ_cons, List.drop_zero]; (repeat (first | still_step )); refine wpStill_nil ?_; change wpList _ _ _ _ _ (World.drew _))
            go_wp2
            go_roundw
            case rel => exact ⟨i + 1, _, by go_num, by omega, HN.out⟩
            case measure => (simp [intOf]; try omega)
          · have hy1I : ¬ ((1 : Int) < yn) := by omega
            have hPW1 : PW = 1 := by rw [← hPW, powW, if_neg (by omega)]
            clear HEND hx hx' hy hem hs0 hvB hxx hv hPS hvn hPW
            subst hPW1
            go_wp2
            (refine wp_region_still_tail 7 (by kernel_rfl) (by kernel_rfl) ?_; simp only [List.take_succ_cons, List.take_zero, List.drop_succ_cons, List.drop_zero]; (repeat (first | still_step )); refine wpStill_nil ?_; change wpList _ _ _ _ _ (World.drew _))
            go_wp2
            go_roundw
            case rel => exact ⟨i + 1, _, by go_num, by omega, HN.out⟩
            case measure => (simp [intOf]; try omega)
end Go.Proofs.YtbcjhpgkodeoeaaGreatDoor
