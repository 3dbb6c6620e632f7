/- The law FnExactPolynomialAlong returns true for every polynomial and path, and changes nothing that was there. Conditions: none. -/
import Derived.Test.YtdaaamdighojdaaPAlong
import Derived.Test.YtdaaamdighojdaaKinds
import Derived.Test.YtdaaamdighojdaaShut
import Derived.Test.YtdaaamdighojdaaOpenF
namespace Go.Proofs.Ytdaaamdighojdaa
open Go.ChangeShapes Go.WideShapes Go.ChangeAt Go.RowKit

theorem hdL_fit2 {xs : List (List Int)} (h : Fit_II xs) : hdL xs ≤ 1048576 := by
  unfold hdL
  cases xs with
  | nil => simp
  | cons y ys => exact h.2 y (by simp)
theorem polyAlongL_cnt (p : List MonZ) (xs : List (List Int)) : cnt_I (polyAlongL p xs) ≤ 10000000000000 := by
  unfold cnt_I polyAlongL
  split
  · rename_i hd
    simp only [paOkB, Bool.and_eq_true] at hd
    have h1 := pathOk_facts hd.2.1
    have h2 := polyOk_facts hd.2.2
    rw [dervL, dervP_len, hdL_turn (by omega)]
    omega
  · simp
theorem sPolynomialAlong_c (v : Value) (p : List MonZ) (u : Value) (xs : List (List Int)) (w : World) (h : Rd_Ms w v p) (g : Rd_II w u xs) (hf : Fit_II xs) :
    Calls Try.prog 36 #[v, u] w (Gives (fun w' v fp => Own_I w' v (polyAlongL p xs) fp) w) := sPAlong_any v u p xs w h g (hdL_fit2 hf)
theorem polynomialAlong_c (v : Value) (p : List MonZ) (u : Value) (xs : List (List Int)) (w : World) (h : Rd_Ms w v p) (g : Rd_II w u xs) (hf : Fit_II xs) (hm : Fit_Ms p) :
    Calls Try.prog 37 #[v, u] w (Gives (fun w' v fp => Own_I w' v (polyAlongL p xs) fp) w) := pAlong_any v u p xs w h g hm.2 (hdL_fit2 hf)

set_option maxRecDepth 100000 in
set_option maxHeartbeats 4000000 in
theorem fnExactPolynomialAlong_walk (v_aH : Value) (x_aH : List MonZ) (v_aPath : Value) (x_aPath : List (List Int)) (w0 : World) (h_aH : Rd_Ms w0 v_aH x_aH) (h_aPath : Rd_II w0 v_aPath x_aPath) :
    Calls Try.prog 6 #[v_aH, v_aPath] w0 fun e w' => e = .returned (.bool true) ∧ Below w0.heap.size w0 w' := by
  go_enter Try.func6, Try.ntmps6
  go_wp2_with fail
  refine (sz_Ms v_aH x_aH 1048576 _ (rd_Ms_mono (Below.refl w0.heap.size w0) h_aH) (by omega) (by omega)).mono ?_
  rintro e w1 ⟨r1, rfl, hr1, hb1⟩
  have HZ1 := Lib.hid hb1.size
  have c1_w := hb1
  rcases hr1 with rfl | ⟨hra1, hrb1, fit_aH⟩
  · go_wp2
    go_ret
    exact ⟨rfl, c1_w⟩
  go_wp2_with fail
  refine (sz_II v_aPath x_aPath r1 _ (rd_II_mono c1_w h_aPath) (by omega) (by omega)).mono ?_
  rintro e w2 ⟨r2, rfl, hr2, hb2⟩
  have HZ2 := Lib.hid hb2.size
  have c2_w := c1_w.trans (hb2.mono c1_w.size)
  rcases hr2 with rfl | ⟨hra2, hrb2, fit_aPath⟩
  · go_wp2
    go_ret
    exact ⟨rfl, c2_w⟩
  go_wp2_with fail
  refine (to_Ms v_aH x_aH _ (rd_Ms_mono c2_w h_aH) fit_aH).mono ?_
  rintro e w3 ⟨v3, fp3, rfl, ho3, hn3, hb3⟩
  have HZ3 := Lib.hid hb3.size
  have c3_w := c2_w.trans (hb3.mono c2_w.size)
  have new_t3 := hn3
  have lt_t3 := own_Ms_lt ho3
  go_wp2_with fail
  refine (to_II v_aPath x_aPath _ (rd_II_mono c3_w h_aPath) fit_aPath).mono ?_
  rintro e w4 ⟨v4, fp4, rfl, ho4, hn4, hb4⟩
  have HZ4 := Lib.hid hb4.size
  have c4_w := c3_w.trans (hb4.mono c3_w.size)
  have c4_t3 := hb4
  have new_t4 := hn4
  have lt_t4 := own_II_lt ho4
  go_wp2_with fail
  refine (sPolynomialAlong_c v3 x_aH v4 x_aPath _ (own_Ms_rd (own_Ms_only ho3 (Only.of_below (fp := []) c4_t3) (by simp))) (own_II_rd ho4) fit_aPath).mono ?_
  rintro e w5 ⟨v5, fp5, rfl, ho5, hn5, hb5⟩
  have HZ5 := Lib.hid hb5.size
  have c5_w := c4_w.trans (hb5.mono c4_w.size)
  have c5_t3 := c4_t3.trans (hb5.mono c4_t3.size)
  have c5_t4 := hb5
  have new_w0 := hn5
  have lt_w0 := own_I_lt ho5
  go_wp2_with fail
  refine (to_Ms v_aH x_aH _ (rd_Ms_mono c5_w h_aH) fit_aH).mono ?_
  rintro e w6 ⟨v6, fp6, rfl, ho6, hn6, hb6⟩
  have HZ6 := Lib.hid hb6.size
  have c6_w := c5_w.trans (hb6.mono c5_w.size)
  have c6_w0 := hb6
  have new_x0 := hn6
  have lt_x0 := own_Ms_lt ho6
  go_wp2_with fail
  refine (to_II v_aPath x_aPath _ (rd_II_mono c6_w h_aPath) fit_aPath).mono ?_
  rintro e w7 ⟨v7, fp7, rfl, ho7, hn7, hb7⟩
  have HZ7 := Lib.hid hb7.size
  have c7_w := c6_w.trans (hb7.mono c6_w.size)
  have c7_w0 := c6_w0.trans (hb7.mono c6_w0.size)
  have c7_x0 := hb7
  have new_x1 := hn7
  have lt_x1 := own_II_lt ho7
  go_wp2_with fail
  refine (polynomialAlong_c v6 x_aH v7 x_aPath _ (own_Ms_rd (own_Ms_only ho6 (Only.of_below (fp := []) c7_x0) (by simp))) (own_II_rd ho7) fit_aPath fit_aH).mono ?_
  rintro e w8 ⟨v8, fp8, rfl, ho8, hn8, hb8⟩
  have HZ8 := Lib.hid hb8.size
  have c8_w := c7_w.trans (hb8.mono c7_w.size)
  have c8_w0 := c7_w0.trans (hb8.mono c7_w0.size)
  have c8_x0 := c7_x0.trans (hb8.mono c7_x0.size)
  have c8_x1 := hb8
  have new_g0 := hn8
  have lt_g0 := own_I_lt ho8
  go_wp2_with fail
  refine (eq_I v8 v5 (polyAlongL x_aH x_aPath) _ (own_I_rd ho8) (own_I_rd (own_I_only ho5 (Only.of_below (fp := []) c8_w0) (by simp)))).mono ?_
  rintro e w9 ⟨rfl, hb9⟩
  have HZ9 := Lib.hid hb9.size
  have c9_w := c8_w.trans (hb9.mono c8_w.size)
  have c9_w0 := c8_w0.trans (hb9.mono c8_w0.size)
  have c9_x0 := c8_x0.trans (hb9.mono c8_x0.size)
  have c9_x1 := c8_x1.trans (hb9.mono c8_x1.size)
  have c9_g0 := hb9
  go_wp2_with fail
  refine (to_Ms v_aH x_aH _ (rd_Ms_mono c9_w h_aH) fit_aH).mono ?_
  rintro e w10 ⟨v10, fp10, rfl, ho10, hn10, hb10⟩
  have HZ10 := Lib.hid hb10.size
  have c10_w := c9_w.trans (hb10.mono c9_w.size)
  have c10_w0 := c9_w0.trans (hb10.mono c9_w0.size)
  have c10_x0 := c9_x0.trans (hb10.mono c9_x0.size)
  have c10_x1 := c9_x1.trans (hb10.mono c9_x1.size)
  have c10_g0 := c9_g0.trans (hb10.mono c9_g0.size)
  have new_t10 := hn10
  have lt_t10 := own_Ms_lt ho10
  go_wp2_with fail
  refine (eq_Ms v6 v10 x_aH _ (own_Ms_rd (own_Ms_only ho6 (Only.of_below (fp := []) c10_x0) (by simp))) (own_Ms_rd ho10)).mono ?_
  rintro e w11 ⟨rfl, hb11⟩
  have HZ11 := Lib.hid hb11.size
  have c11_w := c10_w.trans (hb11.mono c10_w.size)
  have c11_w0 := c10_w0.trans (hb11.mono c10_w0.size)
  have c11_x0 := c10_x0.trans (hb11.mono c10_x0.size)
  have c11_x1 := c10_x1.trans (hb11.mono c10_x1.size)
  have c11_g0 := c10_g0.trans (hb11.mono c10_g0.size)
  have c11_t10 := hb11
  go_wp2_with fail
  refine (to_II v_aPath x_aPath _ (rd_II_mono c11_w h_aPath) fit_aPath).mono ?_
  rintro e w12 ⟨v12, fp12, rfl, ho12, hn12, hb12⟩
  have HZ12 := Lib.hid hb12.size
  have c12_w := c11_w.trans (hb12.mono c11_w.size)
  have c12_w0 := c11_w0.trans (hb12.mono c11_w0.size)
  have c12_x0 := c11_x0.trans (hb12.mono c11_x0.size)
  have c12_x1 := c11_x1.trans (hb12.mono c11_x1.size)
  have c12_g0 := c11_g0.trans (hb12.mono c11_g0.size)
  have new_t12 := hn12
  have lt_t12 := own_II_lt ho12
  go_wp2_with fail
  refine (eq_II v7 v12 x_aPath _ (own_II_rd (own_II_only ho7 (Only.of_below (fp := []) c12_x1) (by simp))) (own_II_rd ho12)).mono ?_
  rintro e w13 ⟨rfl, hb13⟩
  have HZ13 := Lib.hid hb13.size
  have c13_w := c12_w.trans (hb13.mono c12_w.size)
  have c13_w0 := c12_w0.trans (hb13.mono c12_w0.size)
  have c13_x0 := c12_x0.trans (hb13.mono c12_x0.size)
  have c13_x1 := c12_x1.trans (hb13.mono c12_x1.size)
  have c13_g0 := c12_g0.trans (hb13.mono c12_g0.size)
  have c13_t12 := hb13
  have hc_x0 := cnt_Ms_le fit_aH
  go_wp2_with fail
  refine (mark_Ms v6 x_aH fp6 _ _ (own_Ms_only ho6 (Only.of_below (fp := []) c13_x0) (by simp)) (by omega) (by omega)).mono ?_
  rintro e w14 ⟨rfl, ho14, hb14⟩
  have HZ14 := Lib.hid hb14.size
  have c14_w := c13_w.trans (hb14.below c13_w.size (fun g hg => by have := new_x0 g hg; have := HZ1.out; have := HZ2.out; have := HZ3.out; have := HZ4.out; have := HZ5.out; have := HZ6.out; have := HZ7.out; have := HZ8.out; have := HZ9.out; have := HZ10.out; have := HZ11.out; have := HZ12.out; have := HZ13.out; have := HZ14.out; omega))
  have c14_w0 := c13_w0.trans (hb14.below c13_w0.size (fun g hg => by have := new_x0 g hg; have := HZ1.out; have := HZ2.out; have := HZ3.out; have := HZ4.out; have := HZ5.out; have := HZ6.out; have := HZ7.out; have := HZ8.out; have := HZ9.out; have := HZ10.out; have := HZ11.out; have := HZ12.out; have := HZ13.out; have := HZ14.out; omega))
  have ho14_x1 := own_II_only (own_II_only ho7 (Only.of_below (fp := []) c13_x1) (by simp)) hb14 (fun b hb hm => by have := new_x1 b hb; have := lt_x0 b hm; have := HZ1.out; have := HZ2.out; have := HZ3.out; have := HZ4.out; have := HZ5.out; have := HZ6.out; have := HZ7.out; have := HZ8.out; have := HZ9.out; have := HZ10.out; have := HZ11.out; have := HZ12.out; have := HZ13.out; have := HZ14.out; omega)
  have ho14_g0 := own_I_only (own_I_only ho8 (Only.of_below (fp := []) c13_g0) (by simp)) hb14 (fun b hb hm => by have := new_g0 b hb; have := lt_x0 b hm; have := HZ1.out; have := HZ2.out; have := HZ3.out; have := HZ4.out; have := HZ5.out; have := HZ6.out; have := HZ7.out; have := HZ8.out; have := HZ9.out; have := HZ10.out; have := HZ11.out; have := HZ12.out; have := HZ13.out; have := HZ14.out; omega)
  have hc_x1 := cnt_II_le fit_aPath
  go_wp2_with fail
  refine (mark_II v7 x_aPath fp7 _ _ ho14_x1 (by omega) (by omega)).mono ?_
  rintro e w15 ⟨rfl, ho15, hb15⟩
  have HZ15 := Lib.hid hb15.size
  have c15_w := c14_w.trans (hb15.below c14_w.size (fun g hg => by have := new_x1 g hg; have := HZ1.out; have := HZ2.out; have := HZ3.out; have := HZ4.out; have := HZ5.out; have := HZ6.out; have := HZ7.out; have := HZ8.out; have := HZ9.out; have := HZ10.out; have := HZ11.out; have := HZ12.out; have := HZ13.out; have := HZ14.out; have := HZ15.out; omega))
  have c15_w0 := c14_w0.trans (hb15.below c14_w0.size (fun g hg => by have := new_x1 g hg; have := HZ1.out; have := HZ2.out; have := HZ3.out; have := HZ4.out; have := HZ5.out; have := HZ6.out; have := HZ7.out; have := HZ8.out; have := HZ9.out; have := HZ10.out; have := HZ11.out; have := HZ12.out; have := HZ13.out; have := HZ14.out; have := HZ15.out; omega))
  have ho15_g0 := own_I_only ho14_g0 hb15 (fun b hb hm => by have := new_g0 b hb; have := lt_x1 b hm; have := HZ1.out; have := HZ2.out; have := HZ3.out; have := HZ4.out; have := HZ5.out; have := HZ6.out; have := HZ7.out; have := HZ8.out; have := HZ9.out; have := HZ10.out; have := HZ11.out; have := HZ12.out; have := HZ13.out; have := HZ14.out; have := HZ15.out; omega)
  go_wp2_with fail
  refine (eq_I v8 v5 (polyAlongL x_aH x_aPath) _ (own_I_rd ho15_g0) (own_I_rd (own_I_only ho5 (Only.of_below (fp := []) c15_w0) (by simp)))).mono ?_
  rintro e w16 ⟨rfl, hb16⟩
  have HZ16 := Lib.hid hb16.size
  have c16_w := c15_w.trans (hb16.mono c15_w.size)
  have c16_w0 := c15_w0.trans (hb16.mono c15_w0.size)
  have c16_g0 := hb16
  have hc_g0 : cnt_I (polyAlongL x_aH x_aPath) ≤ 10000000000000 := polyAlongL_cnt _ _
  go_wp2_with fail
  refine (mark_I v8 (polyAlongL x_aH x_aPath) fp8 _ _ (own_I_only ho15_g0 (Only.of_below (fp := []) c16_g0) (by simp)) (by omega) (by omega)).mono ?_
  rintro e w17 ⟨rfl, ho17, hb17⟩
  have HZ17 := Lib.hid hb17.size
  have c17_w := c16_w.trans (hb17.below c16_w.size (fun g hg => by have := new_g0 g hg; have := HZ1.out; have := HZ2.out; have := HZ3.out; have := HZ4.out; have := HZ5.out; have := HZ6.out; have := HZ7.out; have := HZ8.out; have := HZ9.out; have := HZ10.out; have := HZ11.out; have := HZ12.out; have := HZ13.out; have := HZ14.out; have := HZ15.out; have := HZ16.out; have := HZ17.out; omega))
  have c17_w0 := c16_w0.trans (hb17.below c16_w0.size (fun g hg => by have := new_g0 g hg; have := HZ1.out; have := HZ2.out; have := HZ3.out; have := HZ4.out; have := HZ5.out; have := HZ6.out; have := HZ7.out; have := HZ8.out; have := HZ9.out; have := HZ10.out; have := HZ11.out; have := HZ12.out; have := HZ13.out; have := HZ14.out; have := HZ15.out; have := HZ16.out; have := HZ17.out; omega))
  go_wp2_with fail
  refine (held_I v8 (polyAlongL x_aH x_aPath) 1 _ (own_I_rd ho17) (by omega) (by omega)).mono ?_
  rintro e w18 ⟨rfl, hb18⟩
  have HZ18 := Lib.hid hb18.size
  have c18_w := c17_w.trans (hb18.mono c17_w.size)
  have c18_w0 := c17_w0.trans (hb18.mono c17_w0.size)
  have c18_g0 := hb18
  go_wp2_with fail
  refine (to_Ms v_aH x_aH _ (rd_Ms_mono c18_w h_aH) fit_aH).mono ?_
  rintro e w19 ⟨v19, fp19, rfl, ho19, hn19, hb19⟩
  have HZ19 := Lib.hid hb19.size
  have c19_w := c18_w.trans (hb19.mono c18_w.size)
  have c19_w0 := c18_w0.trans (hb19.mono c18_w0.size)
  have c19_g0 := c18_g0.trans (hb19.mono c18_g0.size)
  have new_t19 := hn19
  have lt_t19 := own_Ms_lt ho19
  go_wp2_with fail
  refine (to_II v_aPath x_aPath _ (rd_II_mono c19_w h_aPath) fit_aPath).mono ?_
  rintro e w20 ⟨v20, fp20, rfl, ho20, hn20, hb20⟩
  have HZ20 := Lib.hid hb20.size
  have c20_w := c19_w.trans (hb20.mono c19_w.size)
  have c20_w0 := c19_w0.trans (hb20.mono c19_w0.size)
  have c20_g0 := c19_g0.trans (hb20.mono c19_g0.size)
  have c20_t19 := hb20
  have new_t20 := hn20
  have lt_t20 := own_II_lt ho20
  go_wp2_with fail
  refine (polynomialAlong_c v19 x_aH v20 x_aPath _ (own_Ms_rd (own_Ms_only ho19 (Only.of_below (fp := []) c20_t19) (by simp))) (own_II_rd ho20) fit_aPath fit_aH).mono ?_
  rintro e w21 ⟨v21, fp21, rfl, ho21, hn21, hb21⟩
  have HZ21 := Lib.hid hb21.size
  have c21_w := c20_w.trans (hb21.mono c20_w.size)
  have c21_w0 := c20_w0.trans (hb21.mono c20_w0.size)
  have c21_g0 := c20_g0.trans (hb21.mono c20_g0.size)
  have c21_t19 := c20_t19.trans (hb21.mono c20_t19.size)
  have c21_t20 := hb21
  have new_h0 := hn21
  have lt_h0 := own_I_lt ho21
  go_wp2_with fail
  refine (eq_I v21 v5 (polyAlongL x_aH x_aPath) _ (own_I_rd ho21) (own_I_rd (own_I_only ho5 (Only.of_below (fp := []) c21_w0) (by simp)))).mono ?_
  rintro e w22 ⟨rfl, hb22⟩
  have HZ22 := Lib.hid hb22.size
  have c22_w := c21_w.trans (hb22.mono c21_w.size)
  have c22_w0 := c21_w0.trans (hb22.mono c21_w0.size)
  have c22_g0 := c21_g0.trans (hb22.mono c21_g0.size)
  have c22_h0 := hb22
  go_wp2_with fail
  refine (held_I v8 (polyAlongL x_aH x_aPath) 1 _ (own_I_rd (own_I_only ho17 (Only.of_below (fp := []) c22_g0) (by simp))) (by omega) (by omega)).mono ?_
  rintro e w23 ⟨rfl, hb23⟩
  have HZ23 := Lib.hid hb23.size
  have c23_w := c22_w.trans (hb23.mono c22_w.size)
  have c23_w0 := c22_w0.trans (hb23.mono c22_w0.size)
  have c23_g0 := c22_g0.trans (hb23.mono c22_g0.size)
  have c23_h0 := c22_h0.trans (hb23.mono c22_h0.size)
  go_wp2
  go_ret
  exact ⟨rfl, c23_w⟩

set_option maxRecDepth 100000 in
theorem fnExactPolynomialAlong_lifted (os : Os) (started : os.Started) (H : Type) (enc : TypeId × Value → H) :
    ReturnsInHanded {} Try.checked os 6 .any (Rows.fnExactPolynomialAlongSpec.pre6 enc Try.prog Try.f6 Rows.fnExactPolynomialAlongRow.domain false) (Rows.fnExactPolynomialAlongSpec.post enc Try.prog Try.f6 false true false false) := by
  refine returnsInHanded_of_change (C := Try.checked) Try.own started (by kernel_rfl) Try.func6
    (ChangeSpec.witness6 (enc := enc) (C := Try.checked) false ⟨#[], #[.slice none 0 0, .slice none 0 0], []⟩ 8 (by kernel_rfl) (by kernel_rfl) (by kernel_rfl) (by kernel_rfl)) ?_
  intro W base args ds gs before hval0 hW hcnd _
  have hval : ∀ (j : Nat) t v, Try.f6.params[j]? = some t → args[j]? = some v → Value.okWide Try.prog W .any base t v := hval0
  have hW' := hW
  obtain ⟨p, q, hA0, hV, rfl, hfz, hnd⟩ := hW
  have hA : DataW.TrodAll enc Try.prog W 0 (fun _ => true) true Try.f6.params.toList args.toList ds p := hA0
  rw [Try.params6] at hA hval
  obtain ⟨v0, vs0, d0, ds0, p0, q0, hargs, rfl, rfl, h0, r0⟩ := trodAll_cons hA
  obtain ⟨v1, vs1, d1, ds1, p1, q1, rfl, rfl, rfl, h1, r1⟩ := trodAll_cons r0
  obtain ⟨rfl, rfl, rfl⟩ := trodAll_nil r1
  obtain rfl : args = #[v0, v1] := by cases args; simp_all
  obtain ⟨rfl, rfl⟩ := trodVars_none hV
  have lt0 : ∀ x ∈ p0, x.block < W.heap.size := by obtain ⟨m, hm⟩ := h0; exact DataW.trod_lt m _ _ _ hm
  have k0 := h0
  obtain ⟨x0, w0⟩ := ms_arg (hval 0 41 v0 rfl rfl) h0
  have lt1 : ∀ x ∈ p1, x.block < W.heap.size := by obtain ⟨m, hm⟩ := h1; exact DataW.trod_lt m _ _ _ hm
  have k1 := h1
  obtain ⟨x1, w1⟩ := rdS_of_arg Try.underlying22 Try.cells_ints (by omega) (elII_of_trod Try.underlying24 Try.underlying3 Try.cells_int) (hval 1 22 v1 rfl rfl) h1
  clear hA0 hval0
  refine (fnExactPolynomialAlong_walk v0 x0 v1 x1 W w0 w1).mono fun e W' ⟨he, bel⟩ => ?_
  subst he
  exact ⟨_, rfl, _, _, _, [], _, [], hW', trodAll_mk1 (shut_bool Try.underlying4 _), (trodAll_cons_mk (Below.trod Try.laidOut (by kernel_rfl) (of_decide_eq_true (by kernel_rfl)) k0 bel lt0) (trodAll_cons_mk (Below.trod Try.laidOut (by kernel_rfl) (of_decide_eq_true (by kernel_rfl)) k1 bel lt1) trodAll_mk0)), rfl, bel.frame _, fun h => by cases h⟩

theorem fnExactPolynomialAlong_holds : Rows.FnExactPolynomialAlongSaid :=
  OpenClaim.holds_of_wide 6 Try.f6 rfl rfl rfl rfl rfl rfl rfl ⟨rfl, rfl, rfl, rfl, rfl⟩ rfl rfl rfl rfl rfl (by kernel_rfl) Try.func6 (by kernel_rfl)
    (of_decide_eq_true (by kernel_rfl)) (by unfold Func.isWrapper; first | (rw [if_pos (by decide +kernel)]; kernel_rfl) | (rw [if_neg (by decide +kernel)]; exact ⟨rfl, rfl⟩))
    (fun os started H enc _ => fnExactPolynomialAlong_lifted os started H enc)

#print axioms fnExactPolynomialAlong_holds
end Go.Proofs.Ytdaaamdighojdaa
