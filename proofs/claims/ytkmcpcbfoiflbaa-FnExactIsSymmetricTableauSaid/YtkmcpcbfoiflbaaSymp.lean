/- Symplectic tableaus: the tests of the program and of the reference. Conditions: none. -/
import Derived.Test.YtkmcpcbfoiflbaaTOk
import Derived.Test.YtkmcpcbfoiflbaaEqual
set_option linter.unusedSimpArgs false
set_option linter.unusedVariables false
namespace Go.Proofs.Ytkmcpcbfoiflbaa
open Go.RowKit Go.Sort

def sympAt (n : Nat) (A B : List Int) (i j : Nat) : Bool :=
  decide (plusZ (timesZ (atZ B i) (atZ A (i * n + j))) (timesZ (atZ B j) (atZ A (j * n + i))) = timesZ (atZ B i) (atZ B j))
def sympB (t : TabZ) : Bool := tabOkB t && (List.range t.B.length).all fun i => (List.range t.B.length).all (sympAt t.B.length t.A t.B i)
theorem rng_bad {n k : Nat} {f : Nat → Bool} (hk : k < n) (h : f k = false) : (List.range n).all f = false := by
  rw [List.all_eq_false]
  exact ⟨k, by simpa using hk, by simp [h]⟩
theorem rng_snoc {k : Nat} {f : Nat → Bool} (h : (List.range k).all f = true) (hk : f k = true) : (List.range (k + 1)).all f = true := by
  rw [List.range_succ]; simp_all
set_option maxRecDepth 100000 in
set_option maxHeartbeats 3200000 in
theorem sSymp_any (v : Value) (t : TabZ) (w : World) (h : RdTab w v t) :
    Calls Try.prog 15 #[v] w fun e w' => e = .returned (.bool (sympB t)) ∧ Below w.heap.size w w' := by
  obtain ⟨vA, vB, rfl, hI, hA, hB⟩ := h
  obtain ⟨W, hW⟩ : ∃ W, W = w.alloc (.cells #[.int .i64 t.stages, vA, vB] 32) := ⟨_, rfl⟩
  have hb0 : Below w.heap.size w W := hW ▸ (Below.refl _ _).alloc (Nat.le_refl _) _
  have gA := rdI_mono hb0 hA
  have gB := rdI_mono hb0 hB
  obtain ⟨aA, nA, cA, rfl, lA, _, _, gA⟩ := rdS_open gA
  obtain ⟨aB, n, cB, rfl, lB, _, _, gB⟩ := rdS_open gB
  have d0 : W.cell? ⟨w.heap.size, 0, none⟩ = some (.int .i64 t.stages) := by rw [hW]; simp
  have d1 : W.cell? ⟨w.heap.size, 1, none⟩ = some (.slice aA nA cA) := by rw [hW]; simp
  have d2 : W.cell? ⟨w.heap.size, 2, none⟩ = some (.slice aB n cB) := by rw [hW]; simp
  have LA := Lib.hid lA
  have LB := Lib.hid lB
  have HW := Lib.hid hW
  have HB0 := Lib.hid hb0
  clear hA hB lA lB hW
  cases hok : tabOkB t with
  | false =>
    have HT := Lib.hid (show sympB t = false by rw [sympB, hok]; rfl)
    go_enter Try.func15, Try.ntmps15
    go_wp2_with fail
    rw [← HW.out]
    refine (sTabOk_eq _ t _ ⟨_, _, rfl, hI, gA, gB⟩ hok).mono ?_
    rintro e w1 ⟨rfl, hb1⟩
    go_wp2
    go_ret
    exact ⟨ret_bool (by rw [HT.out]), HB0.out.trans (hb1.mono HB0.out.size)⟩
  | true =>
  obtain ⟨hs, hAn, hn8⟩ := tabOk_num hok
  rw [LB.out] at hs hAn hn8
  rw [LA.out] at hAn
  have HT := Lib.hid (show sympB t = (List.range n).all fun i => (List.range n).all (sympAt n t.A t.B i) by rw [sympB, hok, LB.out]; rfl)
  have HS := Lib.hid hs
  rw [hs] at d0
  have HAN := Lib.hid hAn
  clear hs hAn
  go_enter Try.func15, Try.ntmps15
  go_wp2_with fail
  rw [← HW.out]
  refine (sTabOk_eq _ t _ ⟨_, _, rfl, hI, gA, gB⟩ hok).mono ?_
  rintro e w1 ⟨rfl, hb1⟩
  go_wp2
  go_loopw [3] (fun i wr => ∃ k : Nat, k ≤ n ∧ i = .int .i64 k ∧ (List.range k).all (fun i => (List.range n).all (sympAt n t.A t.B i)) = true ∧ Below W.heap.size W wr) (fun i _ => n - (intOf i).toNat)
  case atStart => exact ⟨0, Nat.zero_le _, rfl, by simp, hb1⟩
  case round =>
    obtain ⟨k, hk, rfl, ha, hbw⟩ := hrel
    have HA := Lib.hid ha
    have e0 := cell_below hbw d0
    clear ha hb1
    by_cases hlt : k < n
    case neg =>
      go_wp2
      go_ret
      obtain rfl : k = n := by omega
      exact ⟨ret_bool (by rw [HT.out, HA.out]), HB0.out.trans (hbw.mono HB0.out.size)⟩
    go_wp2
    go_loopw [4] (fun j wq => ∃ q : Nat, q ≤ n ∧ j = .int .i64 q ∧ (List.range q).all (sympAt n t.A t.B k) = true ∧ Below W.heap.size W wq) (fun j _ => n - (intOf j).toNat)
    case atStart => exact ⟨0, Nat.zero_le _, rfl, by simp, hbw⟩
    case round =>
      obtain ⟨q, hq, rfl, hb, hbq⟩ := hrel
      have HBq := Lib.hid hb
      have f0 := cell_below hbq d0
      have f1 := cell_below hbq d1
      have f2 := cell_below hbq d2
      have gAq := rdI_mono hbq gA
      have gBq := rdI_mono hbq gB
      clear hb e0
      by_cases hql : q < n
      case neg =>
        obtain rfl : q = n := by omega
        go_wp2
        go_roundw
        case rel => exact ⟨k + 1, by omega, by go_num, rng_snoc HA.out HBq.out, hbq⟩
        case measure => simp [intOf]; omega
      obtain ⟨bB, oB, x1, rfl, hx1, hc1, _, _⟩ := rdI_get gBq hlt
      obtain ⟨bB', oB', x2, hbe, hx2, hc2, _, _⟩ := rdI_get gBq hql
      simp only [Option.some.injEq, Addr.mk.injEq] at hbe
      obtain ⟨rfl, rfl, _⟩ := hbe
      have i1 := idx_lt hlt hql
      have i2 := idx_lt hql hlt
      rw [← HAN.out] at i1 i2
      obtain ⟨bA, oA, x3, rfl, hx3, hc3, _, _⟩ := rdI_get gAq i1
      obtain ⟨bA', oA', x4, hbe, hx4, hc4, _, _⟩ := rdI_get gAq i2
      simp only [Option.some.injEq, Addr.mk.injEq] at hbe
      obtain ⟨rfl, rfl, _⟩ := hbe
      obtain ⟨p0, p1, p2, p3, p4⟩ := idx_bd hlt hql hn8
      obtain ⟨r0, r1, r2, r3, r4⟩ := idx_bd hql hlt hn8
      have p5 : (k : Int) * n + q < nA := by omega
      have r5 : (q : Int) * n + k < nA := by omega
      have u1 : IntKind.i64.wrap ((k : Int) * n) = (k : Int) * n := IntWalk.i64_in _ (by omega)
      have u2 : IntKind.i64.wrap ((q : Int) * n) = (q : Int) * n := IntWalk.i64_in _ (by omega)
      have u3 : IntKind.i64.wrap ((k : Int) * n + q) = (k : Int) * n + q := IntWalk.i64_in _ (by omega)
      have u4 : IntKind.i64.wrap ((q : Int) * n + k) = (q : Int) * n + k := IntWalk.i64_in _ (by omega)
      have HSY := Lib.hid (show sympAt n t.A t.B k q = decide (plusZ (timesZ x1 x3) (timesZ x2 x4) = timesZ x1 x2) by rw [sympAt, atZ_get hx1, atZ_get hx2, atZ_get hx3, atZ_get hx4])
      clear hx1 hx2 hx3 hx4
      go_wp2
      go_quiet ((first | (go_at_call 44; exact quiet_same (sTimes_any _ _ _)) | (go_at_call 43; exact quiet_same (sPlus_any _ _ _))))
      obtain ⟨wz, hwz⟩ : ∃ wz, wz = wr.drewN nq := ⟨_, rfl⟩
      have hbz : Below wr.heap.size wr wz := hwz ▸ blw_drewN (Below.refl _ _) _
      have hbW := hbq.trans (hbz.mono hbq.size)
      rw [← hwz]
      have k2 := cell_below hbz f2
      have k3 := cell_below hbz hc1
      have k4 := cell_below hbz hc2
      clear hwz f0 f1 f2 hc1 hc2 hc3 hc4 u1 u2 u3 u4
      by_cases heq : plusZ (timesZ x1 x3) (timesZ x2 x4) = timesZ x1 x2
      · have hne : (plusZ (timesZ x1 x3) (timesZ x2 x4) != timesZ x1 x2) = false := by simpa using heq
        have HY := Lib.hid (HSY.out.trans (decide_eq_true heq))
        clear heq
        go_wp2
        go_quiet ((go_at_call 44; exact quiet_same (sTimes_any _ _ _)))
        go_wp2
        go_roundw
        case rel => exact ⟨q + 1, by omega, by go_num, rng_snoc HBq.out HY.out, blw_drewN hbW _⟩
        case measure => simp [intOf]; omega
      · have hne : (plusZ (timesZ x1 x3) (timesZ x2 x4) != timesZ x1 x2) = true := by simpa using heq
        have HY := Lib.hid (HSY.out.trans (decide_eq_false heq))
        clear heq
        go_wp2
        go_quiet ((go_at_call 44; exact quiet_same (sTimes_any _ _ _)))
        go_wp2
        go_ret
        exact ⟨ret_bool (by rw [HT.out]; exact (rng_bad hlt (rng_bad hql HY.out)).symm), blw_drewN (HB0.out.trans (hbW.mono HB0.out.size)) _⟩

set_option maxHeartbeats 800000 in
/-- An element of A. -/
theorem tabA_any (v : Value) (t : TabZ) (w : World) (h : RdTab w v t) (hok : tabOkB t = true) {i j : Nat} (hi : i < t.B.length) (hj : j < t.B.length) :
    Calls Try.prog 68 #[v, .int .i64 i, .int .i64 j] w fun e w' => e = .returned (.int .i64 (atZ t.A (i * t.B.length + j))) ∧ Below w.heap.size w w' := by
  obtain ⟨vA, vB, rfl, hI, hA, hB⟩ := h
  obtain ⟨hs, hAn, hn8⟩ := tabOk_num hok
  obtain ⟨n, hn⟩ : ∃ n, n = t.B.length := ⟨_, rfl⟩
  rw [← hn] at hs hAn hn8 hi hj ⊢
  have hb0 : Below w.heap.size w (w.alloc (.cells #[.int .i64 t.stages, vA, vB] 32)) := (Below.refl _ _).alloc (Nat.le_refl _) _
  rw [hs] at hb0 ⊢
  have gA := rdI_mono hb0 hA
  obtain ⟨aA, nA, cA, rfl, lA, _, _, hA⟩ := rdS_open hA
  have i1 := idx_lt hi hj
  rw [← hAn, lA] at i1
  obtain ⟨bA, oA, x, rfl, hx, hc, _, hlt⟩ := rdI_get gA i1
  obtain ⟨p0, p1, p2, p3, p4⟩ := idx_bd hi hj hn8
  have p5 : (i : Int) * n + j < nA := by omega
  obtain ⟨_, _, _, hbe, _, hc', _, hlt'⟩ := rdI_get hA i1
  simp only [Option.some.injEq, Addr.mk.injEq] at hbe
  obtain ⟨rfl, rfl, _⟩ := hbe
  have HX := Lib.hid hx
  clear hs hAn hn lA hx hB gA hA
  go_enter Try.func68, Try.ntmps68
  go_wp2
  go_ret
  exact ⟨ret_int (atZ_get HX.out).symm, hb0⟩

theorem tabA_eq {x : Int} (v : Value) (t : TabZ) (w : World) (h : RdTab w v t) (hok : tabOkB t = true) {i j n : Nat} (hn : t.B.length = n) (hi : i < n) (hj : j < n) (hx : t.A[i * n + j]? = some x) :
    Calls Try.prog 68 #[v, .int .i64 i, .int .i64 j] w fun e w' => e = .returned (.int .i64 x) ∧ Below w.heap.size w w' := by
  subst hn
  have := tabA_any v t w h hok hi hj
  rwa [atZ_get hx] at this

set_option maxRecDepth 100000 in
set_option maxHeartbeats 3200000 in
theorem symp_any (va vb : Value) (t : TabZ) (w : World) (ha : RdTab w va t) (hb : RdTab w vb t) :
    Calls Try.prog 45 #[va, vb] w fun e w' => e = .returned (.bool (sympB t)) ∧ Below w.heap.size w w' := by
  obtain ⟨vA, vB, rfl, hI, hA, hB⟩ := ha
  obtain ⟨uA, uB, rfl, _, gA, gB⟩ := hb
  obtain ⟨W, hW⟩ : ∃ W, W = (w.alloc (.cells #[.int .i64 t.stages, vA, vB] 32)).alloc (.cells #[.int .i64 t.stages, uA, uB] 32) := ⟨_, rfl⟩
  have hb0 : Below w.heap.size w W := hW ▸ ((Below.refl _ _).alloc (Nat.le_refl _) _).alloc (by simp) _
  have hA := rdI_mono hb0 hA
  have hB := rdI_mono hb0 hB
  have gA := rdI_mono hb0 gA
  have gB := rdI_mono hb0 gB
  obtain ⟨aA, nA, cA, rfl, lA, _, _, hA⟩ := rdS_open hA
  obtain ⟨aB, n, cB, rfl, lB, _, _, hB⟩ := rdS_open hB
  obtain ⟨aA2, nA2, cA2, rfl, lA2, _, _, gA⟩ := rdS_open gA
  obtain ⟨aB2, n2, cB2, rfl, lB2, _, _, gB⟩ := rdS_open gB
  have d0 : W.cell? ⟨w.heap.size, 0, none⟩ = some (.int .i64 t.stages) := by rw [hW]; simp
  have d1 : W.cell? ⟨w.heap.size, 1, none⟩ = some (.slice aA nA cA) := by rw [hW]; simp
  have d2 : W.cell? ⟨w.heap.size, 2, none⟩ = some (.slice aB n cB) := by rw [hW]; simp
  have d3 : W.cell? ⟨w.heap.size + 1, 0, none⟩ = some (.int .i64 t.stages) := by rw [hW]; simp
  have d4 : W.cell? ⟨w.heap.size + 1, 1, none⟩ = some (.slice aA2 nA2 cA2) := by rw [hW]; simp
  have d5 : W.cell? ⟨w.heap.size + 1, 2, none⟩ = some (.slice aB2 n2 cB2) := by rw [hW]; simp
  have LA := Lib.hid lA
  have LB := Lib.hid lB
  have HW := Lib.hid hW
  have HB0 := Lib.hid hb0
  clear lA lB lA2 lB2 hW
  cases hok : tabOkB t with
  | false =>
    have HT := Lib.hid (show sympB t = false by rw [sympB, hok]; rfl)
    go_enter Try.func45, Try.ntmps45
    go_wp2_with fail
    rw [← HW.out]
    refine (tabOk_eq _ t _ ⟨_, _, rfl, hI, hA, hB⟩ hok).mono ?_
    rintro e w1 ⟨rfl, hb1⟩
    go_wp2
    go_ret
    exact ⟨ret_bool (by rw [HT.out]), HB0.out.trans (hb1.mono HB0.out.size)⟩
  | true =>
  obtain ⟨hs, hAn, hn8⟩ := tabOk_num hok
  rw [LB.out] at hs hAn hn8
  rw [LA.out] at hAn
  have HT := Lib.hid (show sympB t = (List.range n).all fun i => (List.range n).all (sympAt n t.A t.B i) by rw [sympB, hok, LB.out]; rfl)
  have HAN := Lib.hid hAn
  clear hs hAn
  go_enter Try.func45, Try.ntmps45
  go_wp2_with fail
  rw [← HW.out]
  refine (tabOk_eq _ t _ ⟨_, _, rfl, hI, hA, hB⟩ hok).mono ?_
  rintro e w1 ⟨rfl, hb1⟩
  have m3 := cell_below hb1 d3
  have m4 := cell_below hb1 d4
  have m5 := cell_below hb1 d5
  go_wp2_with fail
  refine (tabOk_eq _ t _ ⟨_, _, rfl, hI, rdI_mono hb1 gA, rdI_mono hb1 gB⟩ hok).mono ?_
  rintro e w2 ⟨rfl, hb2⟩
  have hbw2 := hb1.trans (hb2.mono hb1.size)
  clear m3 m4 m5
  have m2 := cell_below hbw2 d2
  have m5 := cell_below hbw2 d5
  go_wp2_with fail
  refine (equal_eq _ _ t.B t.B _ (rdI_mono hbw2 hB) (rdI_mono hbw2 gB) (decide_eq_true rfl)).mono ?_
  rintro e w3 hq3
  obtain ⟨rfl, hb3⟩ := hq3.below
  have hbw3 := hbw2.trans (hb3.mono hbw2.size)
  clear m2 m5 hq3
  have m2 := cell_below hbw3 d2
  go_wp2
  clear m2
  go_loopw [28] (fun i wr => ∃ k : Nat, k ≤ n ∧ i = .int .i64 k ∧ (List.range k).all (fun i => (List.range n).all (sympAt n t.A t.B i)) = true ∧ Below W.heap.size W wr) (fun i _ => n - (intOf i).toNat)
  case atStart => exact ⟨0, Nat.zero_le _, rfl, by simp, hbw3⟩
  case round =>
    obtain ⟨k, hk, rfl, ha, hbw⟩ := hrel
    have HA := Lib.hid ha
    clear ha hb1 hb2 hb3 hbw2 hbw3
    by_cases hlt : k < n
    case neg =>
      go_wp2
      go_ret
      obtain rfl : k = n := by omega
      exact ⟨ret_bool (by rw [HT.out, HA.out]), HB0.out.trans (hbw.mono HB0.out.size)⟩
    go_wp2
    go_loopw [33] (fun j wq => ∃ q : Nat, q ≤ n ∧ j = .int .i64 q ∧ (List.range q).all (sympAt n t.A t.B k) = true ∧ Below W.heap.size W wq) (fun j _ => n - (intOf j).toNat)
    case atStart => exact ⟨0, Nat.zero_le _, rfl, by simp, hbw⟩
    case round =>
      obtain ⟨q, hq, rfl, hb, hbq⟩ := hrel
      have HBq := Lib.hid hb
      clear hb
      by_cases hql : q < n
      case neg =>
        obtain rfl : q = n := by omega
        go_wp2
        go_roundw
        case rel => exact ⟨k + 1, by omega, by go_num, rng_snoc HA.out HBq.out, hbq⟩
        case measure => simp [intOf]; omega
      have f0 := cell_below hbq d0
      have f1 := cell_below hbq d1
      have f2 := cell_below hbq d2
      have f3 := cell_below hbq d3
      have f4 := cell_below hbq d4
      have f5 := cell_below hbq d5
      have hBq := rdI_mono hbq hB
      have hAq := rdI_mono hbq hA
      have gAq := rdI_mono hbq gA
      have gBq := rdI_mono hbq gB
      obtain ⟨bB, oB, x1, rfl, hx1, hc1, _, _⟩ := rdI_get hBq hlt
      obtain ⟨bB', oB', x2, hbe, hx2, hc2, _, _⟩ := rdI_get hBq hql
      simp only [Option.some.injEq, Addr.mk.injEq] at hbe
      obtain ⟨rfl, rfl, _⟩ := hbe
      have i1 := idx_lt hlt hql
      have i2 := idx_lt hql hlt
      rw [← HAN.out, ← LA.out] at i1 i2
      have hx3 : t.A[k * n + q]? = some (t.A[k * n + q]'i1) := List.getElem?_eq_getElem i1
      have hx4 : t.A[q * n + k]? = some (t.A[q * n + k]'i2) := List.getElem?_eq_getElem i2
      obtain ⟨x3, h3⟩ : ∃ x3, x3 = t.A[k * n + q]'i1 := ⟨_, rfl⟩
      obtain ⟨x4, h4⟩ : ∃ x4, x4 = t.A[q * n + k]'i2 := ⟨_, rfl⟩
      rw [← h3] at hx3
      rw [← h4] at hx4
      have HSY := Lib.hid (show sympAt n t.A t.B k q = decide (plusZ (timesZ x1 x3) (timesZ x2 x4) = timesZ x1 x2) by rw [sympAt, atZ_get hx1, atZ_get hx2, atZ_get hx3, atZ_get hx4])
      have HX3 := Lib.hid hx3
      have HX4 := Lib.hid hx4
      have Q1 := Lib.hid (fun d os => Calls.regrown_of (w := wr) (d := d) (os := os) (tabA_eq (.agg #[.int .i64 t.stages, .slice aA2 nA2 cA2, .slice aB2 n2 cB2]) t _ ⟨_, _, rfl, hI, rdI_mono (below_regrown _ _ _) gAq, rdI_mono (below_regrown _ _ _) gBq⟩ hok LB.out hlt hql HX3.out))
      have Q2 := Lib.hid (fun d os => Calls.regrown_of (w := wr) (d := d) (os := os) (tabA_eq (.agg #[.int .i64 t.stages, .slice aA nA cA, .slice (some ⟨bB, oB, none⟩) n cB]) t _ ⟨_, _, rfl, hI, rdI_mono (below_regrown _ _ _) hAq, rdI_mono (below_regrown _ _ _) hBq⟩ hok LB.out hql hlt HX4.out))
      have Q3 := Lib.hid (fun a b d os => Calls.regrown_of (w := wr) (d := d) (os := os) (same_below (times_any a b _)))
      have Q4 := Lib.hid (fun a b d os => Calls.regrown_of (w := wr) (d := d) (os := os) (same_below (plus_any a b _)))
      clear hAq gAq gBq hBq
      have r1 := cell_regrown hc1
      have r2 := cell_regrown hc2
      have r3 := cell_regrown f0
      have r4 := cell_regrown f1
      have r5 := cell_regrown f2
      have r6 := cell_regrown f3
      have r7 := cell_regrown f4
      have r8 := cell_regrown f5
      clear hx1 hx2 hx3 hx4 h3 h4 i1 i2 hc1 hc2
      by_cases heq : plusZ (timesZ x1 x3) (timesZ x2 x4) = timesZ x1 x2
      · have hne : (plusZ (timesZ x1 x3) (timesZ x2 x4) != timesZ x1 x2) = false := by simpa using heq
        have HY := Lib.hid (HSY.out.trans (decide_eq_true heq))
        clear heq
        go_wp2
        (refine wp_region_quiet_below (by kernel_rfl) (by kernel_rfl) ?_; (repeat (go_big_quiet_step ((first | (with_reducible exact Q1.out _ _) | (with_reducible exact Q2.out _ _) | (with_reducible exact Q3.out _ _ _ _) | (with_reducible exact Q4.out _ _ _ _))))); refine wpQuiet_nil ?_; rintro _ ⟨⟨dq, osq⟩, rfl⟩)
        have hbz := below_regrown wr dq osq
        obtain ⟨wz, hwz⟩ : ∃ wz, wz = grow (redrawn wr dq) osq := ⟨_, rfl⟩
        rw [← hwz] at hbz ⊢
        clear hwz r1 r2 r3 r4 r5 r6 r7 r8
        go_wp2
        go_roundw
        case rel => exact ⟨q + 1, by omega, by go_num, rng_snoc HBq.out HY.out, hbq.trans (hbz.mono hbq.size)⟩
        case measure => simp [intOf]; omega
      · have hne : (plusZ (timesZ x1 x3) (timesZ x2 x4) != timesZ x1 x2) = true := by simpa using heq
        have HY := Lib.hid (HSY.out.trans (decide_eq_false heq))
        clear heq
        go_wp2
        (refine wp_region_quiet_below (by kernel_rfl) (by kernel_rfl) ?_; (repeat (go_big_quiet_step ((first | (with_reducible exact Q1.out _ _) | (with_reducible exact Q2.out _ _) | (with_reducible exact Q3.out _ _ _ _) | (with_reducible exact Q4.out _ _ _ _))))); refine wpQuiet_nil ?_; rintro _ ⟨⟨dq, osq⟩, rfl⟩)
        have hbz := below_regrown wr dq osq
        obtain ⟨wz, hwz⟩ : ∃ wz, wz = grow (redrawn wr dq) osq := ⟨_, rfl⟩
        rw [← hwz] at hbz ⊢
        clear hwz r1 r2 r3 r4 r5 r6 r7 r8
        have hbx := hbq.trans (hbz.mono hbq.size)
        go_wp2
        go_ret
        exact ⟨ret_bool (by rw [HT.out]; exact (rng_bad hlt (rng_bad hql HY.out)).symm), HB0.out.trans (hbx.mono HB0.out.size)⟩

set_option maxHeartbeats 800000 in
theorem isSymp_any (v : Value) (t : TabZ) (w : World) (h : RdTab w v t) :
    Calls Try.prog 17 #[v] w fun e w' => e = .returned (.bool (sympB t)) ∧ Below w.heap.size w w' := by
  obtain ⟨vA, vB, rfl, hI, hA, hB⟩ := h
  have hb0 : Below w.heap.size w (w.alloc (.cells #[.int .i64 t.stages, vA, vB] 32)) := (Below.refl _ _).alloc (Nat.le_refl _) _
  have gA := rdI_mono hb0 hA
  have gB := rdI_mono hb0 hB
  obtain ⟨_, _, _, rfl⟩ := rdI_slice hA
  obtain ⟨_, _, _, rfl⟩ := rdI_slice hB
  go_enter Try.func17, Try.ntmps17
  go_wp2_with fail
  refine (symp_any _ _ t _ ⟨_, _, rfl, hI, gA, gB⟩ ⟨_, _, rfl, hI, gA, gB⟩).mono ?_
  rintro e w1 ⟨rfl, hb1⟩
  have hbx := hb0.trans (hb1.mono hb0.size)
  go_wp2
  go_ret
  exact ⟨rfl, hbx⟩
end Go.Proofs.Ytkmcpcbfoiflbaa
