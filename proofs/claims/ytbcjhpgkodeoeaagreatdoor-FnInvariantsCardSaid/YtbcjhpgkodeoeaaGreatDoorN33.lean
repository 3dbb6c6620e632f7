/- Sorting monomials in place: merging two sorted neighbours, of which one has one element. Conditions: none. -/
import Derived.Test.YtbcjhpgkodeoeaaGreatDoorN32
set_option linter.unusedSimpArgs false
set_option linter.unusedVariables false

namespace Go.Proofs.YtbcjhpgkodeoeaaGreatDoor
open Go.RowKit Go.Sort

/-- One element put into a sorted list. -/
theorem place_done {X : List ElS} {x : ElS} {i : Nat} (h : SrtS X) (hi : i ≤ X.length) (h1 : i = 0 ∨ ∃ y, X[i - 1]? = some y ∧ leS y x) (h2 : i = X.length ∨ ∃ y, X[i]? = some y ∧ leS x y) : SrtS (X.take i ++ x :: X.drop i) ∧ (X.take i ++ x :: X.drop i).Perm (x :: X) := by
  refine ⟨?_, ?_⟩
  · have hs : SrtS (X.take i ++ X.drop i) := by rwa [List.take_append_drop]
    rw [srt_append] at hs ⊢
    have hA : ∀ a ∈ X.take i, leS a x := by
      intro a ha
      obtain ⟨k, hk, rfl⟩ := List.getElem_of_mem ha
      rw [List.length_take] at hk
      rcases h1 with rfl | ⟨y, hy, hyx⟩
      · omega
      · rw [List.getElem_take]
        by_cases hki : k = i - 1
        · subst hki
          rw [List.getElem?_eq_getElem (by omega)] at hy
          simp only [Option.some.injEq] at hy
          rw [hy]; exact hyx
        · exact leS_trans (srt_at h (List.getElem?_eq_getElem (by omega)) hy (by omega)) hyx
    have hB : ∀ b ∈ X.drop i, leS x b := by
      intro b hb
      obtain ⟨k, hk, rfl⟩ := List.getElem_of_mem hb
      rw [List.length_drop] at hk
      rcases h2 with rfl | ⟨y, hy, hxy⟩
      · omega
      · rw [List.getElem_drop]
        by_cases hk0 : k = 0
        · subst hk0
          rw [List.getElem?_eq_getElem (by omega)] at hy
          simp only [Option.some.injEq] at hy
          rw [show X[i + 0] = X[i] from rfl, hy]; exact hxy
        · exact leS_trans hxy (srt_at h hy (List.getElem?_eq_getElem (by omega)) (by omega))
    refine ⟨hs.1, List.pairwise_cons.2 ⟨hB, hs.2.1⟩, fun a ha b hb => ?_⟩
    rw [List.mem_cons] at hb
    rcases hb with rfl | hb
    · exact hA a ha
    · exact leS_trans (hA a ha) (hB b hb)
  · exact List.perm_middle.trans (by rw [List.take_append_drop])
theorem at_row {A X C : List ElS} {a k : Nat} {x : ElS} (ha : A.length = a) (hx : X[k]? = some x) : (A ++ (X ++ C))[a + k]? = some x := by
  have hk := (List.getElem?_eq_some_iff.1 hx).1
  rw [List.getElem?_append_right (by omega), show a + k - A.length = k by omega, List.getElem?_append_left hk, hx]

set_option maxRecDepth 100000 in
set_option maxHeartbeats 3200000 in
theorem symMergeL_any (g n cap : Nat) (A : List ElS) (x : ElS) (R C : List ElS) (a m b : Nat) (w0 w : World) (h : SSt 56 g n cap w0 w (A ++ (x :: (R ++ C)))) (ha : A.length = a) (hm : a + 1 = m) (hb : m + R.length = b) (hn : n ≤ 1048576) (hR : SrtS R) (HX : ReadS g w0 (x :: R)) :
    Calls Tryz.prog 188 #[.slice (some ⟨g, 0, none⟩) n cap, .int .i64 a, .int .i64 m, .int .i64 b, .func (.func 109) #[] #[]] w (Sorted1 56 g n cap w0 A (x :: R) C) := by
  have hln := h.len
  simp only [List.length_append, List.length_cons] at hln
  have hbn : b ≤ n := by omega
  have hmb : m ≤ b := by omega
  have ham : a < m := by omega
  have han : a < n := by omega
  have hRb : R.length = b - m := by omega
  have q9 : (m : Int) - a = 1 := by omega
  have HRB := Lib.hid hRb
  have HS := Lib.hid h
  have HA := Lib.hid ha
  have HM := Lib.hid hm
  have HXX := Lib.hid HX
  have HRS := Lib.hid hR
  clear h ha HX hln hRb hm hb hR
  go_enter Tryz.func188, Tryz.ntmps188
  go_wp2
  go_loopw [10, 11] (fun si sj wr => ∃ (i j : Nat), si = .int .i64 i ∧ sj = .int .i64 j ∧ m ≤ i ∧ i ≤ j ∧ j ≤ b ∧ (i = m ∨ ∃ y, R[i - m - 1]? = some y ∧ leS y x) ∧ (j = b ∨ ∃ y, R[j - m]? = some y ∧ leS x y) ∧ Below w.heap.size w wr) (fun si sj _ => (intOf sj).toNat - (intOf si).toNat)
  case atStart => exact ⟨m, b, rfl, rfl, Nat.le_refl _, hmb, Nat.le_refl _, .inl rfl, .inl rfl, Below.refl _ _⟩
  case round =>
    obtain ⟨wk, rfl⟩ : ∃ W, W = wr := ⟨_, rfl⟩
    obtain ⟨i, j, rfl, rfl, hmi, hij, hjb, h1, h2, hbw⟩ := hrel
    have H1 := Lib.hid h1
    have H2 := Lib.hid h2
    clear h1 h2
    have hsk := HS.out.below hbw
    by_cases hlt : i < j
    · obtain ⟨h, hh⟩ : ∃ h, h = (i + j) / 2 := ⟨_, rfl⟩
      have q1 : ((i : Int) + (j : Int)) / 2 = (h : Int) := by omega
      have q2 : i ≤ h := by omega
      have q3 : h < j := by omega
      have q4 : (h : Int) < n := by omega
      have q5 : (a : Int) < n := by omega
      obtain ⟨y, hy⟩ : ∃ y, R[h - m]? = some y := ⟨_, List.getElem?_eq_getElem (by rw [HRB.out]; omega)⟩
      have e1 : (A ++ (x :: (R ++ C)))[h]? = some y := by
        have := at_row (A := A ++ [x]) (a := m) (C := C) (by rw [List.length_append, HA.out]; have := HM.out; simpa using this) hy
        rw [show m + (h - m) = h by omega] at this
        simpa using this
      obtain ⟨hcy0, hcy1, _, _⟩ := hsk.cells e1
      obtain ⟨hcx0, hcx1, _, _⟩ := hsk.cells (k := a) (x := x) (at_mid HA.out)
      have hry : RdI wk y.v y.ps := HXX.out y (by right; exact List.mem_of_getElem? hy) wk hsk.only
      have hrx : RdI wk x.v x.ps := HXX.out x (by simp) wk hsk.only
      obtain ⟨c, hc⟩ : ∃ c, cmpL x.ps y.ps = c := ⟨_, rfl⟩
      have hls : ltS y x = decide (c < 0) := by
        rw [Bool.eq_iff_iff, decide_eq_true_iff, ← hc, cmpL_neg]
        rfl
      have CMP := Lib.hid (fun (w' : World) (hb : Below wk.heap.size wk w') => cmpS_any y x w' (rdI_mono hb hry) (rdI_mono hb hrx) hc)
      have HLT := Lib.hid hls
      have HY := Lib.hid hy
      have hcy0r := cell_regrown hcy0
      have hcy1r := cell_regrown hcy1
      have hcx0r := cell_regrown hcx0
      have hcx1r := cell_regrown hcx1
      clear hry hrx hc hls hy e1 hsk hh
      by_cases hneg : c < 0
      · go_wp2
        (refine wp_region_quiet_below (by kernel_rfl) (by kernel_rfl) ?_; (repeat (go_big_quiet_step ((first | exact Calls.regrown_of (CMP.out _ (below_regrown _ _ _)))))); refine wpQuiet_nil ?_; rintro _ ⟨⟨dq, osq⟩, rfl⟩)
        have hbq := below_regrown wk dq osq
        obtain ⟨wq, hwq⟩ : ∃ wq, wq = grow (redrawn wk dq) osq := ⟨_, rfl⟩
        rw [← hwq] at hbq ⊢
        clear hwq hcy0r hcy1r hcx0r hcx1r hcy0 hcy1 hcx0 hcx1
        go_wp2
        go_roundw
        case rel => exact ⟨h + 1, j, by go_num, rfl, by omega, by omega, hjb, .inr ⟨y, by rw [show h + 1 - m - 1 = h - m by omega]; exact HY.out, leS_of_lt (by rw [HLT.out]; simpa using hneg)⟩, H2.out, hbw.trans (hbq.mono hbw.size)⟩
        case measure => (simp [intOf]; try omega)
      · go_wp2
        (refine wp_region_quiet_below (by kernel_rfl) (by kernel_rfl) ?_; (repeat (go_big_quiet_step ((first | exact Calls.regrown_of (CMP.out _ (below_regrown _ _ _)))))); refine wpQuiet_nil ?_; rintro _ ⟨⟨dq, osq⟩, rfl⟩)
        have hbq := below_regrown wk dq osq
        obtain ⟨wq, hwq⟩ : ∃ wq, wq = grow (redrawn wk dq) osq := ⟨_, rfl⟩
        rw [← hwq] at hbq ⊢
        clear hwq hcy0r hcy1r hcx0r hcx1r hcy0 hcy1 hcx0 hcx1
        go_wp2
        go_roundw
        case rel => exact ⟨i, h, rfl, rfl, hmi, by omega, by omega, H1.out, .inr ⟨y, HY.out, leS_of_not (by rw [HLT.out]; simpa using hneg)⟩, hbw.trans (hbq.mono hbw.size)⟩
        case measure => (simp [intOf]; try omega)
    · obtain rfl : i = j := by omega
      have HP := Lib.hid (place_done HRS.out (i := i - m) (x := x) (by rw [HRB.out]; omega) (H1.out.elim (fun h => .inl (by omega)) .inr) (H2.out.elim (fun h => .inl (by rw [HRB.out]; omega)) .inr))
      have l1 : (R.take (i - m)).length = i - m := by rw [List.length_take, HRB.out]; omega
      have L1 := Lib.hid l1
      have HSK := Lib.hid (show SSt 56 g n cap w0 wk (A ++ ([] ++ (x :: (R.take (i - m) ++ (R.drop (i - m) ++ C))))) from by
        rw [← List.append_assoc (R.take (i - m)), List.take_append_drop]
        exact hsk)
      clear hsk l1
      go_wp2
      go_loopw [13] (fun sk wr => ∃ (R1 R2 : List ElS) (k : Nat), sk = .int .i64 k ∧ R.take (i - m) = R1 ++ R2 ∧ a + R1.length = k ∧ SSt 56 g n cap w0 wr (A ++ (R1 ++ (x :: (R2 ++ (R.drop (i - m) ++ C)))))) (fun sk _ => i - (intOf sk).toNat)
      case atStart => exact ⟨[], R.take (i - m), a, rfl, by simp, by simp, HSK.out⟩
      case round =>
        obtain ⟨wz, rfl⟩ : ∃ W, W = wr := ⟨_, rfl⟩
        obtain ⟨R1, R2, k, rfl, hR1, hk, hs⟩ := hrel
        have hlr := L1.out
        rw [hR1, List.length_append] at hlr
        cases R2 with
        | nil =>
          simp at hlr
          obtain rfl : k = i - 1 := by omega
          have HE := Lib.hid (show ∃ S, S.Perm (x :: R) ∧ SrtS S ∧ SSt 56 g n cap w0 wz (A ++ (S ++ C)) from ⟨_, HP.out.2, HP.out.1, by rw [hR1]; simpa using hs⟩)
          have q1 : (((i - 1 : Nat) : Int) < (i : Int) - 1) = False := by simp; omega
          clear hR1 hk hs hlr
          go_wp2
          go_end0
          exact ⟨rfl, HE.out⟩
        | cons y R2 =>
          simp at hlr
          have hk1 : k + 1 < i := by omega
          have q0 : (k : Int) < (i : Int) - 1 := by omega
          have e1 : A ++ (R1 ++ (x :: (y :: R2 ++ (R.drop (i - m) ++ C)))) = (A ++ R1) ++ x :: ([] ++ y :: (R2 ++ (R.drop (i - m) ++ C))) := by simp
          rw [e1] at hs
          have hl1 : (A ++ R1).length = k := by rw [List.length_append, HA.out]; omega
          obtain ⟨hcx0, hcx1, hfx0, hfx1⟩ := hs.cells (k := k) (at_mid hl1)
          obtain ⟨hcy0, hcy1, hfy0, hfy1⟩ := hs.cells (k := k + 1) (x := y) (by
            rw [show (A ++ R1) ++ x :: ([] ++ y :: (R2 ++ (R.drop (i - m) ++ C))) = ((A ++ R1) ++ [x]) ++ y :: (R2 ++ (R.drop (i - m) ++ C)) by simp]
            exact at_mid (by rw [List.length_append, hl1]; rfl))
          have HSW := Lib.hid ((hs.swap (V := []) (i := k) (j := k + 1) hl1 (by simp)).1.below (Below.refl _ _).drew)
          have HR1 := Lib.hid hR1
          have HK := Lib.hid hk
          have q2 : (k : Int) < n := by omega
          have q3 : (k : Int) + 1 < n := by omega
          have q4 : (0 : Int) ≤ (k : Int) + 1 := by omega
          have q5 : IntKind.i64.wrap ((k : Int) + 1) = (k : Int) + 1 := IntWalk.i64_in _ (by omega)
          have q6 : ((k : Int) + 1).toNat = k + 1 := by omega
          clear hR1 hk hs hlr e1 hl1
          go_wp2
          go_region_law (fail)
          all_goals (
            go_wp2
            go_roundw
            case rel => exact ⟨R1 ++ [y], R2, k + 1, by go_num, by rw [HR1.out]; simp, by have := HK.out; simp; omega, by simpa using HSW.out⟩
            case measure => (simp [intOf]; try omega))
set_option maxRecDepth 100000 in
set_option maxHeartbeats 3200000 in
theorem symMergeR_any (g n cap : Nat) (A L : List ElS) (x : ElS) (C : List ElS) (a m b : Nat) (w0 w : World) (h : SSt 56 g n cap w0 w (A ++ (L ++ (x :: C)))) (ha : A.length = a) (hm : a + L.length = m) (hb : m + 1 = b) (hL2 : 2 ≤ L.length) (hn : n ≤ 1048576) (hL : SrtS L) (HX : ReadS g w0 (x :: L)) :
    Calls Tryz.prog 188 #[.slice (some ⟨g, 0, none⟩) n cap, .int .i64 a, .int .i64 m, .int .i64 b, .func (.func 109) #[] #[]] w (Sorted1 56 g n cap w0 A (x :: L) C) := by
  have hln := h.len
  simp only [List.length_append, List.length_cons] at hln
  have hbn : b ≤ n := by omega
  have hmb : m < b := by omega
  have ham : a + 2 ≤ m := by omega
  have hmn : m < n := by omega
  have hLm : L.length = m - a := by omega
  have q8 : ((m : Int) - a == 1) = false := by simp; omega
  have q9 : (b : Int) - m = 1 := by omega
  have HLM := Lib.hid hLm
  have HS := Lib.hid h
  have HA := Lib.hid ha
  have HXX := Lib.hid HX
  have HLS := Lib.hid hL
  clear h ha HX hln hLm hm hb hL hL2
  go_enter Tryz.func188, Tryz.ntmps188
  go_wp2
  go_loopw [14, 15] (fun si sj wr => ∃ (i j : Nat), si = .int .i64 i ∧ sj = .int .i64 j ∧ a ≤ i ∧ i ≤ j ∧ j ≤ m ∧ (i = a ∨ ∃ y, L[i - a - 1]? = some y ∧ leS y x) ∧ (j = m ∨ ∃ y, L[j - a]? = some y ∧ leS x y) ∧ Below w.heap.size w wr) (fun si sj _ => (intOf sj).toNat - (intOf si).toNat)
  case atStart => exact ⟨a, m, rfl, rfl, Nat.le_refl _, by omega, Nat.le_refl _, .inl rfl, .inl rfl, Below.refl _ _⟩
  case round =>
    obtain ⟨wk, rfl⟩ : ∃ W, W = wr := ⟨_, rfl⟩
    obtain ⟨i, j, rfl, rfl, hai, hij, hjm, h1, h2, hbw⟩ := hrel
    have H1 := Lib.hid h1
    have H2 := Lib.hid h2
    clear h1 h2
    have hsk := HS.out.below hbw
    by_cases hlt : i < j
    · obtain ⟨h, hh⟩ : ∃ h, h = (i + j) / 2 := ⟨_, rfl⟩
      have q1 : ((i : Int) + (j : Int)) / 2 = (h : Int) := by omega
      have q2 : i ≤ h := by omega
      have q3 : h < j := by omega
      have q4 : (h : Int) < n := by omega
      have q5 : (m : Int) < n := by omega
      obtain ⟨y, hy⟩ : ∃ y, L[h - a]? = some y := ⟨_, List.getElem?_eq_getElem (by rw [HLM.out]; omega)⟩
      have e1 : (A ++ (L ++ (x :: C)))[h]? = some y := by
        have := at_row (C := x :: C) HA.out hy
        rwa [show a + (h - a) = h by omega] at this
      obtain ⟨hcy0, hcy1, _, _⟩ := hsk.cells e1
      obtain ⟨hcx0, hcx1, _, _⟩ := hsk.cells (k := m) (x := x) (by rw [← List.append_assoc]; exact at_mid (by rw [List.length_append, HA.out, HLM.out]; omega))
      have hry : RdI wk y.v y.ps := HXX.out y (by right; exact List.mem_of_getElem? hy) wk hsk.only
      have hrx : RdI wk x.v x.ps := HXX.out x (by simp) wk hsk.only
      obtain ⟨c, hc⟩ : ∃ c, cmpL y.ps x.ps = c := ⟨_, rfl⟩
      have hls : ltS x y = decide (c < 0) := by
        rw [Bool.eq_iff_iff, decide_eq_true_iff, ← hc, cmpL_neg]
        rfl
      have CMP := Lib.hid (fun (w' : World) (hb : Below wk.heap.size wk w') => cmpS_any x y w' (rdI_mono hb hrx) (rdI_mono hb hry) hc)
      have HLT := Lib.hid hls
      have HY := Lib.hid hy
      have hcy0r := cell_regrown hcy0
      have hcy1r := cell_regrown hcy1
      have hcx0r := cell_regrown hcx0
      have hcx1r := cell_regrown hcx1
      clear hry hrx hc hls hy e1 hsk hh
      by_cases hneg : c < 0
      · have qd : decide (c < 0) = true := by simpa using hneg
        go_wp2
        (refine wp_region_quiet_below (by kernel_rfl) (by kernel_rfl) ?_; (repeat (go_big_quiet_step ((first | exact Calls.regrown_of (CMP.out _ (below_regrown _ _ _)))))); refine wpQuiet_nil ?_; rintro _ ⟨⟨dq, osq⟩, rfl⟩)
        have hbq := below_regrown wk dq osq
        obtain ⟨wq, hwq⟩ : ∃ wq, wq = grow (redrawn wk dq) osq := ⟨_, rfl⟩
        rw [← hwq] at hbq ⊢
        clear hwq hcy0r hcy1r hcx0r hcx1r hcy0 hcy1 hcx0 hcx1
        go_wp2
        go_roundw
        case rel => exact ⟨i, h, rfl, rfl, hai, by omega, by omega, H1.out, .inr ⟨y, HY.out, leS_of_lt (by rw [HLT.out]; simpa using hneg)⟩, hbw.trans (hbq.mono hbw.size)⟩
        case measure => (simp [intOf]; try omega)
      · have qd : decide (c < 0) = false := by simpa using hneg
        go_wp2
        (refine wp_region_quiet_below (by kernel_rfl) (by kernel_rfl) ?_; (repeat (go_big_quiet_step ((first | exact Calls.regrown_of (CMP.out _ (below_regrown _ _ _)))))); refine wpQuiet_nil ?_; rintro _ ⟨⟨dq, osq⟩, rfl⟩)
        have hbq := below_regrown wk dq osq
        obtain ⟨wq, hwq⟩ : ∃ wq, wq = grow (redrawn wk dq) osq := ⟨_, rfl⟩
        rw [← hwq] at hbq ⊢
        clear hwq hcy0r hcy1r hcx0r hcx1r hcy0 hcy1 hcx0 hcx1
        go_wp2
        go_roundw
        case rel => exact ⟨h + 1, j, by go_num, rfl, by omega, by omega, hjm, .inr ⟨y, by rw [show h + 1 - a - 1 = h - a by omega]; exact HY.out, leS_of_not (by rw [HLT.out]; simpa using hneg)⟩, H2.out, hbw.trans (hbq.mono hbw.size)⟩
        case measure => (simp [intOf]; try omega)
    · obtain rfl : i = j := by omega
      have HP := Lib.hid (place_done HLS.out (i := i - a) (x := x) (by rw [HLM.out]; omega) (H1.out.elim (fun h => .inl (by omega)) .inr) (H2.out.elim (fun h => .inl (by rw [HLM.out]; omega)) .inr))
      have l1 : (L.take (i - a)).length = i - a := by rw [List.length_take, HLM.out]; omega
      have l2 : (L.drop (i - a)).length = m - i := by rw [List.length_drop, HLM.out]; omega
      have L1 := Lib.hid l1
      have L2 := Lib.hid l2
      have HSK := Lib.hid (show SSt 56 g n cap w0 wk (A ++ (L.take (i - a) ++ (L.drop (i - a) ++ (x :: C)))) from by
        rw [← List.append_assoc (L.take (i - a)), List.take_append_drop]
        exact hsk)
      clear hsk l1 l2
      go_wp2
      go_loopw [17] (fun sk wr => ∃ (L1 L2 : List ElS) (k : Nat), sk = .int .i64 k ∧ L.drop (i - a) = L1 ++ L2 ∧ i + L1.length = k ∧ SSt 56 g n cap w0 wr (A ++ (L.take (i - a) ++ (L1 ++ (x :: (L2 ++ C)))))) (fun sk _ => (intOf sk).toNat)
      case atStart => exact ⟨L.drop (i - a), [], m, rfl, by simp, by have := L2.out; omega, HSK.out⟩
      case round =>
        obtain ⟨wz, rfl⟩ : ∃ W, W = wr := ⟨_, rfl⟩
        obtain ⟨M1, M2, k, rfl, hM, hk, hs⟩ := hrel
        have hlr := L2.out
        rw [hM, List.length_append] at hlr
        rcases snoc_cases M1 with rfl | ⟨M1, y, rfl⟩
        · obtain rfl : i = k := by simpa using hk
          have HE := Lib.hid (show ∃ S, S.Perm (x :: L) ∧ SrtS S ∧ SSt 56 g n cap w0 wz (A ++ (S ++ C)) from ⟨_, HP.out.2, HP.out.1, by rw [hM]; simpa using hs⟩)
          clear hM hk hs hlr
          go_wp2
          go_end0
          exact ⟨rfl, HE.out⟩
        · simp at hlr hk
          have hk1 : i < k := by omega
          have hkm : k ≤ m := by omega
          have e1 : A ++ (L.take (i - a) ++ (M1 ++ [y] ++ (x :: (M2 ++ C)))) = (A ++ (L.take (i - a) ++ M1)) ++ y :: ([] ++ x :: (M2 ++ C)) := by simp
          rw [e1] at hs
          have hl1 : (A ++ (L.take (i - a) ++ M1)).length = k - 1 := by rw [List.length_append, List.length_append, HA.out, L1.out]; omega
          obtain ⟨hcy0, hcy1, hfy0, hfy1⟩ := hs.cells (k := k - 1) (at_mid hl1)
          obtain ⟨hcx0, hcx1, hfx0, hfx1⟩ := hs.cells (k := k) (x := x) (by
            rw [show (A ++ (L.take (i - a) ++ M1)) ++ y :: ([] ++ x :: (M2 ++ C)) = ((A ++ (L.take (i - a) ++ M1)) ++ [y]) ++ x :: (M2 ++ C) by simp]
            exact at_mid (by rw [List.length_append, hl1]; simp; omega))
          have HSW := Lib.hid ((hs.swap (V := []) (i := k - 1) (j := k) hl1 (by simp; omega)).2.below (Below.refl _ _).drew)
          have HM := Lib.hid hM
          have HK := Lib.hid hk
          have q0 : (i : Int) < (k : Int) := by omega
          have q2 : (k : Int) < n := by omega
          have q3 : (k : Int) - 1 < n := by omega
          have q4 : (0 : Int) ≤ (k : Int) - 1 := by omega
          have q4a : (1 : Int) ≤ (k : Int) := by omega
          have q5 : IntKind.i64.wrap ((k : Int) - 1) = (k : Int) - 1 := IntWalk.i64_in _ (by omega)
          have q6 : ((k : Int) - 1).toNat = k - 1 := by omega
          clear hM hk hs hlr e1 hl1
          go_wp2
          go_region_law (fail)
          all_goals (
            go_wp2
            go_roundw
            case rel => exact ⟨M1, y :: M2, k - 1, by go_num, by rw [HM.out]; simp, by have := HK.out; omega, by simpa using HSW.out⟩
            case measure => (simp [intOf]; try omega))
end Go.Proofs.YtbcjhpgkodeoeaaGreatDoor
