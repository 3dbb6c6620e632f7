/- The law FnExactRotorField returns true for every three numbers, and changes nothing that was there. Conditions: none. -/
import Derived.Test.YtkmcpcbfoiflbaaSRotor
import Derived.Test.YtkmcpcbfoiflbaaKinds
import Derived.Test.YtkmcpcbfoiflbaaShut
import Derived.Test.YtkmcpcbfoiflbaaOpenF
set_option linter.unusedSimpArgs false
set_option linter.unusedVariables false
namespace Go.Proofs.Ytkmcpcbfoiflbaa
open Go.ChangeShapes Go.WideShapes Go.ChangeAt Go.RowKit

theorem rotM_cnt (i : Nat) (x : Int) : cnt_Ms (rotM i x) ≤ 4 := by
  unfold rotM
  split
  · simp [cnt_Ms, cntL]
  · simp [cnt_Ms, cntL, cnt_Mon]
theorem rotF_cnt (a b c : Int) : cnt_Fld (rotF a b c) ≤ 10000000000000 := by
  have h0 := rotM_cnt 0 a
  have h1 := rotM_cnt 1 b
  have h2 := rotM_cnt 2 c
  show cntL cnt_Ms [rotM 0 a, rotM 1 b, rotM 2 c] ≤ _
  simp only [cntL, List.map_cons, List.map_nil, List.sum_cons, List.sum_nil]
  omega
theorem sRotorField_c (a b c : Int) (w : World) (ha : I64 a) (hb : I64 b) (hc : I64 c) :
    Calls Try.prog 19 #[.int .i64 a, .int .i64 b, .int .i64 c] w (Gives (fun w' v fp => Own_Fld w' v (rotF a b c) fp) w) := sRotor_any a b c w ha hb hc
theorem rotorField_c (a b c : Int) (w : World) (ha : I64 a) (hb : I64 b) (hc : I64 c) :
    Calls Try.prog 20 #[.int .i64 a, .int .i64 b, .int .i64 c] w (Gives (fun w' v fp => Own_Fld w' v (rotF a b c) fp) w) := rotor_any a b c w ha hb hc

set_option maxRecDepth 100000 in
set_option maxHeartbeats 4000000 in
theorem fnExactRotorField_walk (n_aA : Int) (n_aB : Int) (n_aC : Int) (w0 : World) (i_aA : I64 n_aA) (i_aB : I64 n_aB) (i_aC : I64 n_aC) :
    Calls Try.prog 5 #[.int .i64 n_aA, .int .i64 n_aB, .int .i64 n_aC] w0 fun e w' => e = .returned (.bool true) ∧ Below w0.heap.size w0 w' := by
  go_enter Try.func5, Try.ntmps5
  go_wp2_with fail
  refine (sRotorField_c n_aA n_aB n_aC _  i_aA i_aB i_aC).mono ?_
  rintro e w1 ⟨v1, fp1, rfl, ho1, hn1, hb1⟩
  have HZ1 := Lib.hid hb1.size
  have c1_w := hb1
  have new_w0 := hn1
  have lt_w0 := own_Fld_lt ho1
  have ho1_k := ho1
  obtain ⟨vP_w0, rfl, hI_w0, hoP_w0⟩ := ho1_k
  obtain ⟨vPa_w0, vPl_w0, vPc_w0, rfl⟩ := ownMss_slice hoP_w0
  go_wp2_with fail
  obtain ⟨w2, hw2⟩ : ∃ W, W = w1.alloc (.cells #[.int .i64 ((rotF n_aA n_aB n_aC)).dim, .slice vPa_w0 vPl_w0 vPc_w0] 38) := ⟨_, rfl⟩
  rw [← hw2]
  have hb2 : Below w1.heap.size w1 w2 := hw2 ▸ (Below.refl _ _).alloc (Nat.le_refl _) _
  have HZ2 : Hid (w1.heap.size + 1 ≤ w2.heap.size) := Lib.hid (by rw [hw2]; simp)
  have b2_w0_0 : w2.cell? ⟨w1.heap.size, 0, none⟩ = some (.int .i64 ((rotF n_aA n_aB n_aC)).dim) := by rw [hw2]; simp
  have b2_w0_1 : w2.cell? ⟨w1.heap.size, 1, none⟩ = some (.slice vPa_w0 vPl_w0 vPc_w0) := by rw [hw2]; simp
  clear hw2
  have c2_w := c1_w.trans (hb2.mono c1_w.size)
  have c2_w0 := hb2
  go_wp2_with fail
  refine (rotorField_c n_aA n_aB n_aC _  i_aA i_aB i_aC).mono ?_
  rintro e w3 ⟨v3, fp3, rfl, ho3, hn3, hb3⟩
  have HZ3 := Lib.hid hb3.size
  have c3_w := c2_w.trans (hb3.mono c2_w.size)
  have c3_w0 := c2_w0.trans (hb3.mono c2_w0.size)
  have b3_w0_0 := cell_below hb3 b2_w0_0
  have b3_w0_1 := cell_below hb3 b2_w0_1
  clear b2_w0_0 b2_w0_1
  have new_g0 := hn3
  have lt_g0 := own_Fld_lt ho3
  have ho3_k := ho3
  obtain ⟨vP_g0, rfl, hI_g0, hoP_g0⟩ := ho3_k
  obtain ⟨vPa_g0, vPl_g0, vPc_g0, rfl⟩ := ownMss_slice hoP_g0
  have q4_w0_0 := cell_below (w := w3) ((Below.refl _ _).alloc (Nat.le_refl _) (.cells #[.int .i64 ((rotF n_aA n_aB n_aC)).dim, .slice vPa_g0 vPl_g0 vPc_g0] 38)) b3_w0_0
  have q4_w0_1 := cell_below (w := w3) ((Below.refl _ _).alloc (Nat.le_refl _) (.cells #[.int .i64 ((rotF n_aA n_aB n_aC)).dim, .slice vPa_g0 vPl_g0 vPc_g0] 38)) b3_w0_1
  go_wp2_with fail
  clear q4_w0_0 q4_w0_1
  obtain ⟨w4, hw4⟩ : ∃ W, W = w3.alloc (.cells #[.int .i64 ((rotF n_aA n_aB n_aC)).dim, .slice vPa_g0 vPl_g0 vPc_g0] 38) := ⟨_, rfl⟩
  rw [← hw4]
  have hb4 : Below w3.heap.size w3 w4 := hw4 ▸ (Below.refl _ _).alloc (Nat.le_refl _) _
  have HZ4 : Hid (w3.heap.size + 1 ≤ w4.heap.size) := Lib.hid (by rw [hw4]; simp)
  have b4_g0_0 : w4.cell? ⟨w3.heap.size, 0, none⟩ = some (.int .i64 ((rotF n_aA n_aB n_aC)).dim) := by rw [hw4]; simp
  have b4_g0_1 : w4.cell? ⟨w3.heap.size, 1, none⟩ = some (.slice vPa_g0 vPl_g0 vPc_g0) := by rw [hw4]; simp
  clear hw4
  have c4_w := c3_w.trans (hb4.mono c3_w.size)
  have c4_w0 := c3_w0.trans (hb4.mono c3_w0.size)
  have c4_g0 := hb4
  have b4_w0_0 := cell_below hb4 b3_w0_0
  have b4_w0_1 := cell_below hb4 b3_w0_1
  clear b3_w0_0 b3_w0_1
  go_wp2_with fail
  refine (eq_Fld (.agg #[.int .i64 ((rotF n_aA n_aB n_aC)).dim, .slice vPa_g0 vPl_g0 vPc_g0]) (.agg #[.int .i64 ((rotF n_aA n_aB n_aC)).dim, .slice vPa_w0 vPl_w0 vPc_w0]) (rotF n_aA n_aB n_aC) _ (own_Fld_rd (own_Fld_only ho3 (Only.of_below (fp := []) c4_g0) (by simp))) (own_Fld_rd (own_Fld_only ho1 (Only.of_below (fp := []) c4_w0) (by simp)))).mono ?_
  rintro e w5 ⟨rfl, hb5⟩
  have HZ5 := Lib.hid hb5.size
  have c5_w := c4_w.trans (hb5.mono c4_w.size)
  have c5_w0 := c4_w0.trans (hb5.mono c4_w0.size)
  have c5_g0 := c4_g0.trans (hb5.mono c4_g0.size)
  have b5_w0_0 := cell_below hb5 b4_w0_0
  have b5_w0_1 := cell_below hb5 b4_w0_1
  clear b4_w0_0 b4_w0_1
  have b5_g0_0 := cell_below hb5 b4_g0_0
  have b5_g0_1 := cell_below hb5 b4_g0_1
  clear b4_g0_0 b4_g0_1
  have hc_g0 : cnt_Fld (rotF n_aA n_aB n_aC) ≤ 10000000000000 := rotF_cnt _ _ _
  go_wp2_with fail
  refine (mark_Fld (.agg #[.int .i64 ((rotF n_aA n_aB n_aC)).dim, .slice vPa_g0 vPl_g0 vPc_g0]) (rotF n_aA n_aB n_aC) fp3 _ _ (own_Fld_only ho3 (Only.of_below (fp := []) c5_g0) (by simp)) (by omega) (by omega)).mono ?_
  rintro e w6 ⟨rfl, ho6, hb6⟩
  have HZ6 := Lib.hid hb6.size
  have c6_w := c5_w.trans (hb6.below c5_w.size (fun g hg => by have := new_g0 g hg; have := HZ1.out; have := HZ2.out; have := HZ3.out; have := HZ4.out; have := HZ5.out; have := HZ6.out; omega))
  have c6_w0 := c5_w0.trans (hb6.below c5_w0.size (fun g hg => by have := new_g0 g hg; have := HZ1.out; have := HZ2.out; have := HZ3.out; have := HZ4.out; have := HZ5.out; have := HZ6.out; omega))
  have b6_w0_0 := cell_only hb6 (fun hm => by have := new_g0 _ hm; have := lt_g0 _ hm; have := HZ1.out; have := HZ2.out; have := HZ3.out; have := HZ4.out; have := HZ5.out; have := HZ6.out; omega) b5_w0_0
  have b6_w0_1 := cell_only hb6 (fun hm => by have := new_g0 _ hm; have := lt_g0 _ hm; have := HZ1.out; have := HZ2.out; have := HZ3.out; have := HZ4.out; have := HZ5.out; have := HZ6.out; omega) b5_w0_1
  clear b5_w0_0 b5_w0_1
  have b6_g0_0 := cell_only hb6 (fun hm => by have := new_g0 _ hm; have := lt_g0 _ hm; have := HZ1.out; have := HZ2.out; have := HZ3.out; have := HZ4.out; have := HZ5.out; have := HZ6.out; omega) b5_g0_0
  have b6_g0_1 := cell_only hb6 (fun hm => by have := new_g0 _ hm; have := lt_g0 _ hm; have := HZ1.out; have := HZ2.out; have := HZ3.out; have := HZ4.out; have := HZ5.out; have := HZ6.out; omega) b5_g0_1
  clear b5_g0_0 b5_g0_1
  go_wp2_with fail
  refine (held_Fld (.agg #[.int .i64 ((rotF n_aA n_aB n_aC)).dim, .slice vPa_g0 vPl_g0 vPc_g0]) (rotF n_aA n_aB n_aC) 1 _ (own_Fld_rd ho6) (by omega) (by omega)).mono ?_
  rintro e w7 ⟨rfl, hb7⟩
  have HZ7 := Lib.hid hb7.size
  have c7_w := c6_w.trans (hb7.mono c6_w.size)
  have c7_w0 := c6_w0.trans (hb7.mono c6_w0.size)
  have c7_g0 := hb7
  have b7_w0_0 := cell_below hb7 b6_w0_0
  have b7_w0_1 := cell_below hb7 b6_w0_1
  clear b6_w0_0 b6_w0_1
  have b7_g0_0 := cell_below hb7 b6_g0_0
  have b7_g0_1 := cell_below hb7 b6_g0_1
  clear b6_g0_0 b6_g0_1
  go_wp2_with fail
  refine (rotorField_c n_aA n_aB n_aC _  i_aA i_aB i_aC).mono ?_
  rintro e w8 ⟨v8, fp8, rfl, ho8, hn8, hb8⟩
  have HZ8 := Lib.hid hb8.size
  have c8_w := c7_w.trans (hb8.mono c7_w.size)
  have c8_w0 := c7_w0.trans (hb8.mono c7_w0.size)
  have c8_g0 := c7_g0.trans (hb8.mono c7_g0.size)
  have b8_w0_0 := cell_below hb8 b7_w0_0
  have b8_w0_1 := cell_below hb8 b7_w0_1
  clear b7_w0_0 b7_w0_1
  have b8_g0_0 := cell_below hb8 b7_g0_0
  have b8_g0_1 := cell_below hb8 b7_g0_1
  clear b7_g0_0 b7_g0_1
  have new_h0 := hn8
  have lt_h0 := own_Fld_lt ho8
  have ho8_k := ho8
  obtain ⟨vP_h0, rfl, hI_h0, hoP_h0⟩ := ho8_k
  obtain ⟨vPa_h0, vPl_h0, vPc_h0, rfl⟩ := ownMss_slice hoP_h0
  have q9_w0_0 := cell_below (w := w8) ((Below.refl _ _).alloc (Nat.le_refl _) (.cells #[.int .i64 ((rotF n_aA n_aB n_aC)).dim, .slice vPa_h0 vPl_h0 vPc_h0] 38)) b8_w0_0
  have q9_w0_1 := cell_below (w := w8) ((Below.refl _ _).alloc (Nat.le_refl _) (.cells #[.int .i64 ((rotF n_aA n_aB n_aC)).dim, .slice vPa_h0 vPl_h0 vPc_h0] 38)) b8_w0_1
  have q9_g0_0 := cell_below (w := w8) ((Below.refl _ _).alloc (Nat.le_refl _) (.cells #[.int .i64 ((rotF n_aA n_aB n_aC)).dim, .slice vPa_h0 vPl_h0 vPc_h0] 38)) b8_g0_0
  have q9_g0_1 := cell_below (w := w8) ((Below.refl _ _).alloc (Nat.le_refl _) (.cells #[.int .i64 ((rotF n_aA n_aB n_aC)).dim, .slice vPa_h0 vPl_h0 vPc_h0] 38)) b8_g0_1
  go_wp2_with fail
  clear q9_w0_0 q9_w0_1 q9_g0_0 q9_g0_1
  obtain ⟨w9, hw9⟩ : ∃ W, W = w8.alloc (.cells #[.int .i64 ((rotF n_aA n_aB n_aC)).dim, .slice vPa_h0 vPl_h0 vPc_h0] 38) := ⟨_, rfl⟩
  rw [← hw9]
  have hb9 : Below w8.heap.size w8 w9 := hw9 ▸ (Below.refl _ _).alloc (Nat.le_refl _) _
  have HZ9 : Hid (w8.heap.size + 1 ≤ w9.heap.size) := Lib.hid (by rw [hw9]; simp)
  have b9_h0_0 : w9.cell? ⟨w8.heap.size, 0, none⟩ = some (.int .i64 ((rotF n_aA n_aB n_aC)).dim) := by rw [hw9]; simp
  have b9_h0_1 : w9.cell? ⟨w8.heap.size, 1, none⟩ = some (.slice vPa_h0 vPl_h0 vPc_h0) := by rw [hw9]; simp
  clear hw9
  have c9_w := c8_w.trans (hb9.mono c8_w.size)
  have c9_w0 := c8_w0.trans (hb9.mono c8_w0.size)
  have c9_g0 := c8_g0.trans (hb9.mono c8_g0.size)
  have c9_h0 := hb9
  have b9_w0_0 := cell_below hb9 b8_w0_0
  have b9_w0_1 := cell_below hb9 b8_w0_1
  clear b8_w0_0 b8_w0_1
  have b9_g0_0 := cell_below hb9 b8_g0_0
  have b9_g0_1 := cell_below hb9 b8_g0_1
  clear b8_g0_0 b8_g0_1
  go_wp2_with fail
  refine (eq_Fld (.agg #[.int .i64 ((rotF n_aA n_aB n_aC)).dim, .slice vPa_h0 vPl_h0 vPc_h0]) (.agg #[.int .i64 ((rotF n_aA n_aB n_aC)).dim, .slice vPa_w0 vPl_w0 vPc_w0]) (rotF n_aA n_aB n_aC) _ (own_Fld_rd (own_Fld_only ho8 (Only.of_below (fp := []) c9_h0) (by simp))) (own_Fld_rd (own_Fld_only ho1 (Only.of_below (fp := []) c9_w0) (by simp)))).mono ?_
  rintro e w10 ⟨rfl, hb10⟩
  have HZ10 := Lib.hid hb10.size
  have c10_w := c9_w.trans (hb10.mono c9_w.size)
  have c10_w0 := c9_w0.trans (hb10.mono c9_w0.size)
  have c10_g0 := c9_g0.trans (hb10.mono c9_g0.size)
  have c10_h0 := c9_h0.trans (hb10.mono c9_h0.size)
  have b10_w0_0 := cell_below hb10 b9_w0_0
  have b10_w0_1 := cell_below hb10 b9_w0_1
  clear b9_w0_0 b9_w0_1
  have b10_g0_0 := cell_below hb10 b9_g0_0
  have b10_g0_1 := cell_below hb10 b9_g0_1
  clear b9_g0_0 b9_g0_1
  have b10_h0_0 := cell_below hb10 b9_h0_0
  have b10_h0_1 := cell_below hb10 b9_h0_1
  clear b9_h0_0 b9_h0_1
  go_wp2_with fail
  refine (held_Fld (.agg #[.int .i64 ((rotF n_aA n_aB n_aC)).dim, .slice vPa_g0 vPl_g0 vPc_g0]) (rotF n_aA n_aB n_aC) 1 _ (own_Fld_rd (own_Fld_only ho6 (Only.of_below (fp := []) c10_g0) (by simp))) (by omega) (by omega)).mono ?_
  rintro e w11 ⟨rfl, hb11⟩
  have HZ11 := Lib.hid hb11.size
  have c11_w := c10_w.trans (hb11.mono c10_w.size)
  have c11_w0 := c10_w0.trans (hb11.mono c10_w0.size)
  have c11_g0 := c10_g0.trans (hb11.mono c10_g0.size)
  have c11_h0 := c10_h0.trans (hb11.mono c10_h0.size)
  have b11_w0_0 := cell_below hb11 b10_w0_0
  have b11_w0_1 := cell_below hb11 b10_w0_1
  clear b10_w0_0 b10_w0_1
  have b11_g0_0 := cell_below hb11 b10_g0_0
  have b11_g0_1 := cell_below hb11 b10_g0_1
  clear b10_g0_0 b10_g0_1
  have b11_h0_0 := cell_below hb11 b10_h0_0
  have b11_h0_1 := cell_below hb11 b10_h0_1
  clear b10_h0_0 b10_h0_1
  go_wp2
  go_ret
  exact ⟨rfl, c11_w⟩

set_option maxRecDepth 100000 in
theorem fnExactRotorField_lifted (os : Os) (started : os.Started) (H : Type) (enc : TypeId × Value → H) :
    ReturnsInHanded {} Try.checked os 5 .any (Rows.fnExactRotorFieldSpec.pre6 enc Try.prog Try.f5 Rows.fnExactRotorFieldRow.domain false) (Rows.fnExactRotorFieldSpec.post enc Try.prog Try.f5 false true false false) := by
  refine returnsInHanded_of_change (C := Try.checked) Try.own started (by kernel_rfl) Try.func5
    (ChangeSpec.witness6 (enc := enc) (C := Try.checked) false ⟨#[], #[.int .i64 0, .int .i64 0, .int .i64 0], []⟩ 8 (by kernel_rfl) (by kernel_rfl) (by kernel_rfl) (by kernel_rfl)) ?_
  intro W base args ds gs before hval0 hW hcnd _
  have hval : ∀ (j : Nat) t v, Try.f5.params[j]? = some t → args[j]? = some v → Value.okWide Try.prog W .any base t v := hval0
  have hW' := hW
  obtain ⟨p, q, hA0, hV, rfl, hfz, hnd⟩ := hW
  have hA : DataW.TrodAll enc Try.prog W 0 (fun _ => true) true Try.f5.params.toList args.toList ds p := hA0
  rw [Try.params5] at hA hval
  obtain ⟨v0, vs0, d0, ds0, p0, q0, hargs, rfl, rfl, h0, r0⟩ := trodAll_cons hA
  obtain ⟨v1, vs1, d1, ds1, p1, q1, rfl, rfl, rfl, h1, r1⟩ := trodAll_cons r0
  obtain ⟨v2, vs2, d2, ds2, p2, q2, rfl, rfl, rfl, h2, r2⟩ := trodAll_cons r1
  obtain ⟨rfl, rfl, rfl⟩ := trodAll_nil r2
  obtain rfl : args = #[v0, v1, v2] := by cases args; simp_all
  obtain ⟨rfl, rfl⟩ := trodVars_none hV
  have lt0 : ∀ x ∈ p0, x.block < W.heap.size := by obtain ⟨m, hm⟩ := h0; exact DataW.trod_lt m _ _ _ hm
  have k0 := h0
  obtain ⟨x0, rfl, w0⟩ := int_of_arg Try.underlying3 (hval 0 3 v0 rfl rfl) h0
  have lt1 : ∀ x ∈ p1, x.block < W.heap.size := by obtain ⟨m, hm⟩ := h1; exact DataW.trod_lt m _ _ _ hm
  have k1 := h1
  obtain ⟨x1, rfl, w1⟩ := int_of_arg Try.underlying3 (hval 1 3 v1 rfl rfl) h1
  have lt2 : ∀ x ∈ p2, x.block < W.heap.size := by obtain ⟨m, hm⟩ := h2; exact DataW.trod_lt m _ _ _ hm
  have k2 := h2
  obtain ⟨x2, rfl, w2⟩ := int_of_arg Try.underlying3 (hval 2 3 v2 rfl rfl) h2
  clear hA0 hval0
  refine (fnExactRotorField_walk x0 x1 x2 W w0 w1 w2).mono fun e W' ⟨he, bel⟩ => ?_
  subst he
  exact ⟨_, rfl, _, _, _, [], _, [], hW', trodAll_mk1 (shut_bool Try.underlying4 _), (trodAll_cons_mk (Below.trod Try.laidOut (by kernel_rfl) (of_decide_eq_true (by kernel_rfl)) k0 bel lt0) (trodAll_cons_mk (Below.trod Try.laidOut (by kernel_rfl) (of_decide_eq_true (by kernel_rfl)) k1 bel lt1) (trodAll_cons_mk (Below.trod Try.laidOut (by kernel_rfl) (of_decide_eq_true (by kernel_rfl)) k2 bel lt2) trodAll_mk0))), rfl, bel.frame _, fun h => by cases h⟩

theorem fnExactRotorField_holds : Rows.FnExactRotorFieldSaid :=
  OpenClaim.holds_of_wide 5 Try.f5 rfl rfl rfl rfl rfl rfl rfl ⟨rfl, rfl, rfl, rfl, rfl⟩ rfl rfl rfl rfl rfl (by kernel_rfl) Try.func5 (by kernel_rfl)
    (of_decide_eq_true (by kernel_rfl)) (by unfold Func.isWrapper; first | (rw [if_pos (by decide +kernel)]; kernel_rfl) | (rw [if_neg (by decide +kernel)]; exact ⟨rfl, rfl⟩))
    (fun os started H enc _ => fnExactRotorField_lifted os started H enc)

#print axioms fnExactRotorField_holds
end Go.Proofs.Ytkmcpcbfoiflbaa
