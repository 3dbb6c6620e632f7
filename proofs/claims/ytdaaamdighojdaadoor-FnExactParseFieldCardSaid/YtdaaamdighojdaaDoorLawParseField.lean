/- The law FnExactParseField returns true for every text, and changes nothing that was there. Conditions: the cell of a variable of the library's own holds some number. -/
import Derived.Test.YtdaaamdighojdaaDoorSFld
import Derived.Test.YtdaaamdighojdaaDoorRFld
import Derived.Test.YtdaaamdighojdaaDoorFine
import Derived.Test.YtdaaamdighojdaaDoorKinds
import Derived.Test.YtdaaamdighojdaaDoorShut
import Derived.Test.YtdaaamdighojdaaDoorOpen
set_option linter.unusedSimpArgs false
set_option linter.unusedVariables false
namespace Go.Proofs.YtdaaamdighojdaaDoor
open Go.ChangeShapes Go.WideShapes Go.ChangeAt Go.RowKit

theorem parB_ok {l : List UInt8} (h : parB l = true) : fldOkB (sFld l) = true := by
  cases ho : fldOkB (sFld l) with
  | true => rfl
  | false =>
    rw [parB, fldT_no' ho] at h
    cases l <;> simp at h
theorem parF_cnt (l : List UInt8) : cnt_Fld (parF l) ≤ 10000000000000 := by
  cases h : parB l with
  | false => rw [parF_no h]; simp [cnt_Fld, cnt_Mss, cntL]
  | true =>
    rw [parF_yes h]
    obtain ⟨n, _, hpn, _, hn6, hp⟩ := fldOk_parts (parB_ok h)
    have hm : ∀ p ∈ (sFld l).parts, cnt_Ms p ≤ 12 * 7 := fun p hq =>
      cntL_le (cnt := cnt_Mon) (hp p hq).1 (m := 7) (fun m hm => by have := ((hp p hq).2 m hm).2.1; unfold cnt_Mon; omega)
    have hx : cnt_Fld (sFld l) ≤ 6 * (12 * 7) := cntL_le (cnt := cnt_Ms) (by omega) (m := 12 * 7) hm
    omega
/-- What both compute, its definition out of sight. -/
theorem par_c : ∃ (F : List UInt8 → FldZ) (B : List UInt8 → Bool), (∀ l, cnt_Fld (F l) ≤ 10000000000000) ∧
    (∀ (l : List UInt8) (s : ByteArray) (w : World), s = ByteArray.mk l.toArray → l.length ≤ 1048576 → Calls Tryd.prog 4 #[.string s] w (Gives2 (fun w' v fp => Own_Fld w' v (F l) fp) (B l) w)) ∧
    (∀ (l : List UInt8) (s : ByteArray) (w : World), s = ByteArray.mk l.toArray → l.length ≤ 1048576 → MaxCell w → Calls Tryd.prog 5 #[.string s] w (Gives2 (fun w' v fp => Own_Fld w' v (F l) fp) (B l) w)) :=
  ⟨parF, parB, parF_cnt, fun l s w hs hl => sParse_any l s hs hl w, fun l s w hs hl hm => parse_any l s hs hl w hm⟩

set_option maxRecDepth 100000 in
set_option maxHeartbeats 4000000 in
theorem fnExactParseField_walk (s_aS : ByteArray) (x_aS : List UInt8) (w0 : World) (h_aS : s_aS = ByteArray.mk x_aS.toArray) (hm : MaxCell w0) :
    Calls Tryd.prog 3 #[.string s_aS] w0 fun e w' => e = .returned (.bool true) ∧ Below w0.heap.size w0 w' := by
  have sz_aS : s_aS.size = x_aS.length := str_size h_aS
  have HS_aS := Lib.hid h_aS
  clear h_aS
  by_cases big_aS : 1048576 < s_aS.size
  · have big_i : (1048576 : Int) < s_aS.size := by omega
    go_enter Tryd.func3, Tryd.ntmps3
    go_wp2
    go_ret
    exact ⟨rfl, (Below.refl _ _)⟩
  have bigI_aS : ¬ ((1048576 : Int) < s_aS.size) := by omega
  have lt_aS : x_aS.length ≤ 1048576 := by omega
  clear sz_aS
  obtain ⟨F, B, hcF, SP, IP⟩ := par_c
  go_enter Tryd.func3, Tryd.ntmps3
  go_wp2_with fail
  refine (SP x_aS s_aS _  HS_aS.out lt_aS).mono ?_
  rintro e w1 ⟨v1, fp1, rfl, ho1, hn1, hb1⟩
  have HZ1 := Lib.hid hb1.size
  have c1_w := hb1
  have new_w0 := hn1
  have lt_w0 := own_Fld_lt ho1
  have ho1_k := ho1
  obtain ⟨vP_w0, rfl, hI_w0, hoP_w0⟩ := ho1_k
  obtain ⟨vPa_w0, vPl_w0, vPc_w0, rfl⟩ := ownMss_slice hoP_w0
  go_wp2_with fail
  obtain ⟨w2, hw2⟩ : ∃ W, W = w1.alloc (.cells #[.int .i64 ((F x_aS)).dim, .slice vPa_w0 vPl_w0 vPc_w0] 24) := ⟨_, rfl⟩
  rw [← hw2]
  have hb2 : Below w1.heap.size w1 w2 := hw2 ▸ (Below.refl _ _).alloc (Nat.le_refl _) _
  have HZ2 : Hid (w1.heap.size + 1 ≤ w2.heap.size) := Lib.hid (by rw [hw2]; simp)
  have b2_w0_0 : w2.cell? ⟨w1.heap.size, 0, none⟩ = some (.int .i64 ((F x_aS)).dim) := by rw [hw2]; simp
  have b2_w0_1 : w2.cell? ⟨w1.heap.size, 1, none⟩ = some (.slice vPa_w0 vPl_w0 vPc_w0) := by rw [hw2]; simp
  clear hw2
  have c2_w := c1_w.trans (hb2.mono c1_w.size)
  have c2_w0 := hb2
  go_wp2_with fail
  refine (IP x_aS s_aS _  HS_aS.out lt_aS (maxCell_mono c2_w hm)).mono ?_
  rintro e w3 ⟨v3, fp3, rfl, ho3, hn3, hb3⟩
  have HZ3 := Lib.hid hb3.size
  have c3_w := c2_w.trans (hb3.mono c2_w.size)
  have c3_w0 := c2_w0.trans (hb3.mono c2_w0.size)
  have b3_w0_0 := cell_below hb3 b2_w0_0
  have b3_w0_1 := cell_below hb3 b2_w0_1
  clear b2_w0_0 b2_w0_1
  have new_g0 := hn3
  have lt_g0 := own_Fld_lt ho3
  have ho3_k := ho3
  obtain ⟨vP_g0, rfl, hI_g0, hoP_g0⟩ := ho3_k
  obtain ⟨vPa_g0, vPl_g0, vPc_g0, rfl⟩ := ownMss_slice hoP_g0
  have q4_w0_0 := cell_below (w := w3) ((Below.refl _ _).alloc (Nat.le_refl _) (.cells #[.int .i64 ((F x_aS)).dim, .slice vPa_g0 vPl_g0 vPc_g0] 24)) b3_w0_0
  have q4_w0_1 := cell_below (w := w3) ((Below.refl _ _).alloc (Nat.le_refl _) (.cells #[.int .i64 ((F x_aS)).dim, .slice vPa_g0 vPl_g0 vPc_g0] 24)) b3_w0_1
  go_wp2_with fail
  clear q4_w0_0 q4_w0_1
  obtain ⟨w4, hw4⟩ : ∃ W, W = w3.alloc (.cells #[.int .i64 ((F x_aS)).dim, .slice vPa_g0 vPl_g0 vPc_g0] 24) := ⟨_, rfl⟩
  rw [← hw4]
  have hb4 : Below w3.heap.size w3 w4 := hw4 ▸ (Below.refl _ _).alloc (Nat.le_refl _) _
  have HZ4 : Hid (w3.heap.size + 1 ≤ w4.heap.size) := Lib.hid (by rw [hw4]; simp)
  have b4_g0_0 : w4.cell? ⟨w3.heap.size, 0, none⟩ = some (.int .i64 ((F x_aS)).dim) := by rw [hw4]; simp
  have b4_g0_1 : w4.cell? ⟨w3.heap.size, 1, none⟩ = some (.slice vPa_g0 vPl_g0 vPc_g0) := by rw [hw4]; simp
  clear hw4
  have c4_w := c3_w.trans (hb4.mono c3_w.size)
  have c4_w0 := c3_w0.trans (hb4.mono c3_w0.size)
  have c4_g0 := hb4
  have b4_w0_0 := cell_below hb4 b3_w0_0
  have b4_w0_1 := cell_below hb4 b3_w0_1
  clear b3_w0_0 b3_w0_1
  go_wp2_with fail
  refine (eq_Fld (.agg #[.int .i64 ((F x_aS)).dim, .slice vPa_g0 vPl_g0 vPc_g0]) (.agg #[.int .i64 ((F x_aS)).dim, .slice vPa_w0 vPl_w0 vPc_w0]) (F x_aS) _ (own_Fld_rd (own_Fld_only ho3 (Only.of_below (fp := []) c4_g0) (by simp))) (own_Fld_rd (own_Fld_only ho1 (Only.of_below (fp := []) c4_w0) (by simp)))).mono ?_
  rintro e w5 ⟨rfl, hb5⟩
  have HZ5 := Lib.hid hb5.size
  have c5_w := c4_w.trans (hb5.mono c4_w.size)
  have c5_w0 := c4_w0.trans (hb5.mono c4_w0.size)
  have c5_g0 := c4_g0.trans (hb5.mono c4_g0.size)
  have b5_w0_0 := cell_below hb5 b4_w0_0
  have b5_w0_1 := cell_below hb5 b4_w0_1
  clear b4_w0_0 b4_w0_1
  have b5_g0_0 := cell_below hb5 b4_g0_0
  have b5_g0_1 := cell_below hb5 b4_g0_1
  clear b4_g0_0 b4_g0_1
  have hc_g0 : cnt_Fld (F x_aS) ≤ 10000000000000 := hcF _
  go_wp2_with fail
  refine (mark_Fld (.agg #[.int .i64 ((F x_aS)).dim, .slice vPa_g0 vPl_g0 vPc_g0]) (F x_aS) fp3 _ _ (own_Fld_only ho3 (Only.of_below (fp := []) c5_g0) (by simp)) (by omega) (by omega)).mono ?_
  rintro e w6 ⟨rfl, ho6, hb6⟩
  have HZ6 := Lib.hid hb6.size
  have c6_w := c5_w.trans (hb6.below c5_w.size (fun g hg => by have := new_g0 g hg; have := HZ1.out; have := HZ2.out; have := HZ3.out; have := HZ4.out; have := HZ5.out; have := HZ6.out; omega))
  have c6_w0 := c5_w0.trans (hb6.below c5_w0.size (fun g hg => by have := new_g0 g hg; have := HZ1.out; have := HZ2.out; have := HZ3.out; have := HZ4.out; have := HZ5.out; have := HZ6.out; omega))
  have b6_w0_0 := cell_only hb6 (fun hm => by have := new_g0 _ hm; have := lt_g0 _ hm; have := HZ1.out; have := HZ2.out; have := HZ3.out; have := HZ4.out; have := HZ5.out; have := HZ6.out; omega) b5_w0_0
  have b6_w0_1 := cell_only hb6 (fun hm => by have := new_g0 _ hm; have := lt_g0 _ hm; have := HZ1.out; have := HZ2.out; have := HZ3.out; have := HZ4.out; have := HZ5.out; have := HZ6.out; omega) b5_w0_1
  clear b5_w0_0 b5_w0_1
  have b6_g0_0 := cell_only hb6 (fun hm => by have := new_g0 _ hm; have := lt_g0 _ hm; have := HZ1.out; have := HZ2.out; have := HZ3.out; have := HZ4.out; have := HZ5.out; have := HZ6.out; omega) b5_g0_0
  have b6_g0_1 := cell_only hb6 (fun hm => by have := new_g0 _ hm; have := lt_g0 _ hm; have := HZ1.out; have := HZ2.out; have := HZ3.out; have := HZ4.out; have := HZ5.out; have := HZ6.out; omega) b5_g0_1
  clear b5_g0_0 b5_g0_1
  go_wp2_with fail
  refine (held_Fld (.agg #[.int .i64 ((F x_aS)).dim, .slice vPa_g0 vPl_g0 vPc_g0]) (F x_aS) 1 _ (own_Fld_rd ho6) (by omega) (by omega)).mono ?_
  rintro e w7 ⟨rfl, hb7⟩
  have HZ7 := Lib.hid hb7.size
  have c7_w := c6_w.trans (hb7.mono c6_w.size)
  have c7_w0 := c6_w0.trans (hb7.mono c6_w0.size)
  have c7_g0 := hb7
  have b7_w0_0 := cell_below hb7 b6_w0_0
  have b7_w0_1 := cell_below hb7 b6_w0_1
  clear b6_w0_0 b6_w0_1
  have b7_g0_0 := cell_below hb7 b6_g0_0
  have b7_g0_1 := cell_below hb7 b6_g0_1
  clear b6_g0_0 b6_g0_1
  go_wp2_with fail
  refine (IP x_aS s_aS _  HS_aS.out lt_aS (maxCell_mono c7_w hm)).mono ?_
  rintro e w8 ⟨v8, fp8, rfl, ho8, hn8, hb8⟩
  have HZ8 := Lib.hid hb8.size
  have c8_w := c7_w.trans (hb8.mono c7_w.size)
  have c8_w0 := c7_w0.trans (hb8.mono c7_w0.size)
  have c8_g0 := c7_g0.trans (hb8.mono c7_g0.size)
  have b8_w0_0 := cell_below hb8 b7_w0_0
  have b8_w0_1 := cell_below hb8 b7_w0_1
  clear b7_w0_0 b7_w0_1
  have b8_g0_0 := cell_below hb8 b7_g0_0
  have b8_g0_1 := cell_below hb8 b7_g0_1
  clear b7_g0_0 b7_g0_1
  have new_h0 := hn8
  have lt_h0 := own_Fld_lt ho8
  have ho8_k := ho8
  obtain ⟨vP_h0, rfl, hI_h0, hoP_h0⟩ := ho8_k
  obtain ⟨vPa_h0, vPl_h0, vPc_h0, rfl⟩ := ownMss_slice hoP_h0
  have q9_w0_0 := cell_below (w := w8) ((Below.refl _ _).alloc (Nat.le_refl _) (.cells #[.int .i64 ((F x_aS)).dim, .slice vPa_h0 vPl_h0 vPc_h0] 24)) b8_w0_0
  have q9_w0_1 := cell_below (w := w8) ((Below.refl _ _).alloc (Nat.le_refl _) (.cells #[.int .i64 ((F x_aS)).dim, .slice vPa_h0 vPl_h0 vPc_h0] 24)) b8_w0_1
  have q9_g0_0 := cell_below (w := w8) ((Below.refl _ _).alloc (Nat.le_refl _) (.cells #[.int .i64 ((F x_aS)).dim, .slice vPa_h0 vPl_h0 vPc_h0] 24)) b8_g0_0
  have q9_g0_1 := cell_below (w := w8) ((Below.refl _ _).alloc (Nat.le_refl _) (.cells #[.int .i64 ((F x_aS)).dim, .slice vPa_h0 vPl_h0 vPc_h0] 24)) b8_g0_1
  go_wp2_with fail
  clear q9_w0_0 q9_w0_1 q9_g0_0 q9_g0_1
  obtain ⟨w9, hw9⟩ : ∃ W, W = w8.alloc (.cells #[.int .i64 ((F x_aS)).dim, .slice vPa_h0 vPl_h0 vPc_h0] 24) := ⟨_, rfl⟩
  rw [← hw9]
  have hb9 : Below w8.heap.size w8 w9 := hw9 ▸ (Below.refl _ _).alloc (Nat.le_refl _) _
  have HZ9 : Hid (w8.heap.size + 1 ≤ w9.heap.size) := Lib.hid (by rw [hw9]; simp)
  have b9_h0_0 : w9.cell? ⟨w8.heap.size, 0, none⟩ = some (.int .i64 ((F x_aS)).dim) := by rw [hw9]; simp
  have b9_h0_1 : w9.cell? ⟨w8.heap.size, 1, none⟩ = some (.slice vPa_h0 vPl_h0 vPc_h0) := by rw [hw9]; simp
  clear hw9
  have c9_w := c8_w.trans (hb9.mono c8_w.size)
  have c9_w0 := c8_w0.trans (hb9.mono c8_w0.size)
  have c9_g0 := c8_g0.trans (hb9.mono c8_g0.size)
  have c9_h0 := hb9
  have b9_w0_0 := cell_below hb9 b8_w0_0
  have b9_w0_1 := cell_below hb9 b8_w0_1
  clear b8_w0_0 b8_w0_1
  have b9_g0_0 := cell_below hb9 b8_g0_0
  have b9_g0_1 := cell_below hb9 b8_g0_1
  clear b8_g0_0 b8_g0_1
  go_wp2_with fail
  refine (eq_Fld (.agg #[.int .i64 ((F x_aS)).dim, .slice vPa_h0 vPl_h0 vPc_h0]) (.agg #[.int .i64 ((F x_aS)).dim, .slice vPa_w0 vPl_w0 vPc_w0]) (F x_aS) _ (own_Fld_rd (own_Fld_only ho8 (Only.of_below (fp := []) c9_h0) (by simp))) (own_Fld_rd (own_Fld_only ho1 (Only.of_below (fp := []) c9_w0) (by simp)))).mono ?_
  rintro e w10 ⟨rfl, hb10⟩
  have HZ10 := Lib.hid hb10.size
  have c10_w := c9_w.trans (hb10.mono c9_w.size)
  have c10_w0 := c9_w0.trans (hb10.mono c9_w0.size)
  have c10_g0 := c9_g0.trans (hb10.mono c9_g0.size)
  have c10_h0 := c9_h0.trans (hb10.mono c9_h0.size)
  have b10_w0_0 := cell_below hb10 b9_w0_0
  have b10_w0_1 := cell_below hb10 b9_w0_1
  clear b9_w0_0 b9_w0_1
  have b10_g0_0 := cell_below hb10 b9_g0_0
  have b10_g0_1 := cell_below hb10 b9_g0_1
  clear b9_g0_0 b9_g0_1
  have b10_h0_0 := cell_below hb10 b9_h0_0
  have b10_h0_1 := cell_below hb10 b9_h0_1
  clear b9_h0_0 b9_h0_1
  go_wp2_with fail
  refine (held_Fld (.agg #[.int .i64 ((F x_aS)).dim, .slice vPa_g0 vPl_g0 vPc_g0]) (F x_aS) 1 _ (own_Fld_rd (own_Fld_only ho6 (Only.of_below (fp := []) c10_g0) (by simp))) (by omega) (by omega)).mono ?_
  rintro e w11 ⟨rfl, hb11⟩
  have HZ11 := Lib.hid hb11.size
  have c11_w := c10_w.trans (hb11.mono c10_w.size)
  have c11_w0 := c10_w0.trans (hb11.mono c10_w0.size)
  have c11_g0 := c10_g0.trans (hb11.mono c10_g0.size)
  have c11_h0 := c10_h0.trans (hb11.mono c10_h0.size)
  have b11_w0_0 := cell_below hb11 b10_w0_0
  have b11_w0_1 := cell_below hb11 b10_w0_1
  clear b10_w0_0 b10_w0_1
  have b11_g0_0 := cell_below hb11 b10_g0_0
  have b11_g0_1 := cell_below hb11 b10_g0_1
  clear b10_g0_0 b10_g0_1
  have b11_h0_0 := cell_below hb11 b10_h0_0
  have b11_h0_1 := cell_below hb11 b10_h0_1
  clear b10_h0_0 b10_h0_1
  go_wp2
  go_ret
  exact ⟨rfl, c11_w⟩

#print axioms fnExactParseField_walk
end Go.Proofs.YtdaaamdighojdaaDoor
