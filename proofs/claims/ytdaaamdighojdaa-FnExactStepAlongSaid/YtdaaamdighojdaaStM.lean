/- The reference's move of a point by the stages' values. Conditions: numbers. -/
import Derived.Test.YtdaaamdighojdaaStA
import Derived.Test.YtdaaamdighojdaaSEx
set_option linter.unusedSimpArgs false
set_option linter.unusedVariables false
namespace Go.Proofs.Ytdaaamdighojdaa
open Go.RowKit Go.Sort

/-- all stages' values are jets of this size -/
def VOk (st n size : Nat) (v : List (List (List Int))) : Prop := v.length = st ∧ ∀ a ∈ v, a.length = n ∧ AllJ size a
theorem VOk.at {st n size : Nat} {v : List (List (List Int))} (h : VOk st n size v) {s i : Nat} (hs : s < st) (hi : i < n) : (atL (atLL v s) i).length = size ∧ Nums (atL (atLL v s) i) := by
  have hx : v[s]? = some (v[s]'(by rw [h.1]; exact hs)) := List.getElem?_eq_getElem _
  have h2 := h.2 _ (List.mem_of_getElem? hx)
  have e : atLL v s = v[s]'(by rw [h.1]; exact hs) := by simp [atLL, hx]
  rw [e]
  exact allJ_atL h2.2 (by rw [h2.1]; exact hi)
theorem VOk.cube {st n size : Nat} {v : List (List (List Int))} (h : VOk st n size v) : Cube st n size v := ⟨h.1, fun _ _ hs hi => (h.at hs hi).1⟩
theorem addJ_bd (xs ys : List Int) (k : Int) : Nums (addJ xs ys k) := by
  intro x hx
  simp only [addJ, List.mem_map] at hx
  obtain ⟨i, _, rfl⟩ := hx
  exact plusZ_bd _ _
theorem atRow_nums {ys : List (List Int)} (hy : ∀ x ∈ ys, Nums x) {i : Nat} (hi : i < ys.length) (vals : List (List (List Int))) (row : List Int) : ∀ s, Nums (atRow ys vals row i s)
  | 0 => by
    rw [atRow, atL, List.getElem?_eq_getElem hi]
    exact hy _ (List.getElem_mem _)
  | s + 1 => by rw [atRow]; exact addJ_bd _ _ _
theorem atAll_ok {ys : List (List Int)} {size : Nat} (h : AllJ size ys) (vals : List (List (List Int))) (row : List Int) (st : Nat) : AllJ size (atAll ys vals row st) := by
  intro x hx
  simp only [atAll, List.mem_map, List.mem_range] at hx
  obtain ⟨i, hi, rfl⟩ := hx
  exact ⟨by rw [atRow_len]; exact (allJ_atL h hi).1, atRow_nums (fun x hx => (h x hx).2) hi _ _ _⟩
/-- one list, its first places taken from another -/
def mixJ (a b : List Int) (j : Nat) : List Int := b.take j ++ a.drop j
theorem mixJ_len {a b : List Int} (h : b.length = a.length) (j : Nat) (hj : j ≤ a.length) : (mixJ a b j).length = a.length := by simp [mixJ, h]; omega
theorem mixJ_at {a b : List Int} (h : b.length = a.length) {j : Nat} (hj : j < a.length) : (mixJ a b j)[j]? = a[j]? := by
  unfold mixJ
  rw [List.getElem?_append_right (by rw [List.length_take]; omega), List.length_take, List.getElem?_drop]
  congr 1
  omega
theorem mixJ_set {a b : List Int} (h : b.length = a.length) {j : Nat} {x : Int} (hx : b[j]? = some x) : (mixJ a b j).set j x = mixJ a b (j + 1) := by
  have hj := (List.getElem?_eq_some_iff.1 hx).1
  unfold mixJ
  rw [take_snoc hx, List.set_append_right _ _ (by rw [List.length_take]; omega), List.length_take, show j - min j b.length = 0 by omega]
  have hd : a.drop j = a[j]'(by omega) :: a.drop (j + 1) := List.drop_eq_getElem_cons (by omega)
  rw [hd, List.set_cons_zero]
  simp
theorem mixJ_start {a b : List Int} {x : Int} (ha : a[0]? = some x) (hb : b[0]? = some x) : mixJ a b 1 = a := by
  cases a with
  | nil => simp at ha
  | cons y a =>
    cases b with
    | nil => simp at hb
    | cons z b => simp at ha hb; simp [mixJ, ha, hb]
theorem mixJ_done {a b : List Int} (h : b.length = a.length) {j : Nat} (hj : a.length ≤ j) : mixJ a b j = b := by
  unfold mixJ
  rw [List.take_of_length_le (by omega), List.drop_eq_nil_of_le hj, List.append_nil]
theorem addLater_zero {a x : List Int} {c : Int} (hl : x.length = a.length) (h : 0 < a.length) (hn : Nums a) : (addJ a (laterJ x) c)[0]? = a[0]? := by
  have h0 : a[0]? = some a[0] := List.getElem?_eq_getElem h
  have h1 := nums_at hn h0
  have h2 : atZ (laterJ x) 0 = 0 := by rw [laterJ_at (by omega), if_pos rfl]
  simp only [addJ, List.getElem?_map, List.getElem?_range h, Option.map_some, h2, atZ_get h0, h0]
  congr 1
  unfold plusZ timesZ
  omega
theorem addLater_at {a x : List Int} {c z y : Int} {j : Nat} (hl : x.length = a.length) (hj : a[j + 1]? = some z) (hx : x[j]? = some y) : (addJ a (laterJ x) c)[j + 1]? = some (plusZ z (timesZ c y)) := by
  have hj' := (List.getElem?_eq_some_iff.1 hj).1
  have h2 : atZ (laterJ x) (j + 1) = y := by
    rw [laterJ_at (by omega), if_neg (by omega)]
    exact atZ_get (by simpa using hx)
  simp only [addJ, List.getElem?_map, List.getElem?_range hj', Option.map_some, h2, atZ_get hj]
  congr 1
  unfold timesZ
  rw [Int.mul_comm]

set_option maxRecDepth 100000 in
set_option maxHeartbeats 6400000 in
theorem moved_any (vy vr vs : Value) (ys : List (List Int)) (row : List Int) (vals : List (List (List Int))) (n st size : Nat) (w : World) (hy : RdII w vy ys) (hr : RdI w vr row) (hv : RdIII w vs vals) (hyl : ys.length = n) (hyj : AllJ size ys)
    (hrl : row.length = st) (hvo : VOk st n size vals) (hn6 : n ≤ 6) (hs1 : 1 ≤ size) (hs7 : size ≤ 7) (hst : st ≤ 8) :
    Calls Try.prog 108 #[vy, vr, vs] w (Gives (fun w' v fp => OwnII 24 3 w' v (atAll ys vals row st) fp) w) := by
  obtain ⟨ad1, len1, cap1, rfl, hl1, hlc1, hcm1, h1'⟩ := rdS_open hy
  obtain ⟨ad2, len2, cap2, rfl, hl2, hlc2, hcm2, h2'⟩ := rdS_open hr
  obtain ⟨ad3, len3, cap3, rfl, hl3, hlc3, hcm3, h3'⟩ := rdS_open hv
  obtain rfl : len1 = n := by omega
  obtain rfl : len2 = st := by omega
  obtain rfl : len3 = len2 := by have := hvo.1; omega
  have HYL := Lib.hid hyl
  have HYJ := Lib.hid hyj
  have HRL := Lib.hid hrl
  have HVO := Lib.hid hvo
  clear hy hr hv hl1 hl2 hl3 hyl hyj hrl hvo
  obtain ⟨i0, hi, hz0, hz1, hz2⟩ := info_parts Try.info_int
  obtain ⟨j1, hj1, hw0, hw1, hw2⟩ := info_parts Try.info_ints
  go_enter Try.func108, Try.ntmps108
  go_wp2
  have HO0 := Lib.hid (show OwnII 24 3 (w.alloc (.cells #[] 24)) (.slice (some ⟨w.heap.size, 0, none⟩) 0 0) [] [w.heap.size] from ⟨[], [], by simpa using World.ownsRow_lit (base := 0) (e := 24) (size := 1) w #[] 0 (Nat.zero_le _) (Nat.zero_le _) rfl, by simp, rfl, rfl, by simp⟩)
  have HB0 := Lib.hid (show Below w.heap.size w (w.alloc (.cells #[] 24)) from (Below.refl _ _).alloc (Nat.le_refl _) _)
  go_loopw [7, 8] (fun u i wr => ∃ (k : Nat) (fs : List Nat), k ≤ len1 ∧ i = .int .i64 k ∧ OwnII 24 3 wr u ((atAll ys vals row len3).take k) fs ∧ (∀ b ∈ fs, w.heap.size ≤ b) ∧ Below w.heap.size w wr) (fun _ i _ => len1 - (intOf i).toNat)
  case atStart => exact ⟨0, [w.heap.size], Nat.zero_le _, rfl, by simpa using HO0.out, by simp, HB0.out⟩
  case round =>
    obtain ⟨wk, rfl⟩ : ∃ W, W = wr := ⟨_, rfl⟩
    obtain ⟨k, fs0, hk, rfl, ho, hf, hb⟩ := hrel
    clear HO0 HB0
    have htl : (atAll ys vals row len3).length = len1 := by rw [atAll_len, HYL.out]
    by_cases hlt : k < len1
    case neg =>
      obtain rfl : k = len1 := by omega
      rw [List.take_of_length_le (by omega)] at ho
      go_wp2
      go_ret
      exact ⟨_, fs0, rfl, ho, hf, hb⟩
    have hkl : ((atAll ys vals row len3).take k).length = k := by rw [List.length_take]; omega
    obtain ⟨us, fs, hown, hone, hels, rfl, hnd⟩ := ho
    have HOWN := Lib.hid hown
    rw [hkl] at hown
    obtain ⟨adu, capu, rfl, hluc, hcum, _⟩ := row_open hown
    have HNU := Lib.hid hown
    have HONE := Lib.hid hone
    have HELS := Lib.hid hels
    have HND := Lib.hid hnd
    have HF := Lib.hid hf
    have HKL := Lib.hid hkl
    have HB := Lib.hid hb
    obtain ⟨b5, o5, ad5, l5, c5, y, rfl, hy5, hcy, h61, h62, h63, h64, _⟩ := rdII_get (rdII_mono hb h1') hlt
    obtain ⟨hyl5, hyn5⟩ := allJ_at HYJ.out hy5
    obtain rfl : l5 = size := by omega
    obtain ⟨byy, oyy, hady⟩ : ∃ b o, ad5 = some ⟨b, o, none⟩ := by obtain ⟨b, o, _, h, _⟩ := rdI_get h64 (k := 0) (by omega); exact ⟨b, o, h⟩
    subst hady
    have hal0 : Below wk.heap.size wk (wk.alloc (.cells #[] 3)) := (Below.refl _ _).alloc (Nat.le_refl _) _
    have HNEW := Lib.hid (rdI_news (rdI_mono hal0 h64))
    have HROW := Lib.hid (show (wk.alloc (.cells #[] 3)).ownsRow 0 3 1 (.slice (some ⟨wk.heap.size, 0, none⟩) 0 0) 0 [] from by simpa using World.ownsRow_lit (base := 0) (e := 3) (size := 1) wk #[] 0 (Nat.zero_le _) (Nat.zero_le _) rfl)
    have HY0 := Lib.hid (show atRow ys vals row k 0 = y by rw [atRow, atL_get hy5])
    have HYLN := Lib.hid hyl5
    have HYNN := Lib.hid hyn5
    have HAT := Lib.hid (show (atAll ys vals row len3).take (k + 1) = (atAll ys vals row len3).take k ++ [atRow ys vals row k len3] from take_snoc (by
      have : k < ys.length := by rw [HYL.out]; exact hlt
      simp [atAll, this]))
    have HLEN := Lib.hid (fun s : Nat => show (atRow ys vals row k s).length = l5 by rw [atRow_len, atL_get hy5, hyl5])
    have HNUM := Lib.hid (fun s : Nat => atRow_nums (fun x hx => (HYJ.out x hx).2) (by rw [HYL.out]; exact hlt) vals row s)
    clear hown hone hels hnd hf hkl htl hb hy5 h61 h64 hyl5 hyn5 hal0
    go_wp2_with (first
      | (at_builtin; refine wpList_append_lies _ rfl _ _ _ rfl 0 3 i0 _ 1 8 Try.underlying24 hi hz0 hz1 hz2 rfl (by omega) (.slice (some ⟨wk.heap.size, 0, none⟩) 0 0) 0 [] (by rfl) HROW.out ⟨byy, oyy, none⟩ l5 c5 (y.map (Value.int .i64)) (by rfl) (by rw [List.length_map, HYLN.out, Nat.mul_one]) HNEW.out (by intro u hu; simp only [List.mem_map] at hu; obtain ⟨z, _, rfl⟩ := hu; rfl) (by omega) (by unfold maxLen; omega) (by omega) (by simp) (wk.heap.size + 1) (by simp) ?_; intro gg capn wB hown1 hgrow hat hlt1))
    obtain ⟨hoy, hgg, hbB⟩ := clone_own (W := wk) (y := y) hown1 (by simpa [Value.ownBlock] using hgrow) (by simpa [Value.ownBlock] using hat) HYLN.out (fun x hx => i64_of_bd (HYNN.out x hx))
    rw [← HY0.out] at hoy
    have HOY := Lib.hid hoy
    have HBB := Lib.hid hbB
    clear hoy hbB hown1 hgrow hat hlt1
    go_loopw [10] (fun i wq => ∃ r : Nat, r ≤ len3 ∧ i = .int .i64 r ∧ OwnI 3 wq (.slice (some ⟨gg, 0, none⟩) l5 capn) (atRow ys vals row k r) [gg] ∧ Below wk.heap.size wk wq) (fun i _ => len3 - (intOf i).toNat)
    case atStart => exact ⟨0, Nat.zero_le _, rfl, HOY.out, HBB.out⟩
    case round =>
      obtain ⟨wq, rfl⟩ : ∃ W, W = wr := ⟨_, rfl⟩
      obtain ⟨r, hr, rfl, hoq, hbq⟩ := hrel
      clear HOY HBB
      by_cases hrl : r < len3
      case neg =>
        obtain rfl : r = len3 := by omega
        have hgk : ∀ b ∈ [gg], wk.heap.size ≤ b := by simpa using hgg
        have hal : Below wq.heap.size wq (wq.alloc (.cells #[.slice (some ⟨gg, 0, none⟩) l5 capn] 24)) := (Below.refl _ _).alloc (Nat.le_refl _) _
        have HNQ := Lib.hid (ownsRow_only HNU.out (Only.of_below (fp := []) hbq) (by simp))
        have HS := Lib.hid (fun (w2 : World) (g2 capn2 : Nat) (hown1 : w2.ownsRow 0 24 1 (.slice (some ⟨g2, 0, none⟩) (k + 1) capn2) (k + 1) (us.flatten ++ [.slice (some ⟨gg, 0, none⟩) l5 capn]))
            (hgrow : (wq.alloc (.cells #[.slice (some ⟨gg, 0, none⟩) l5 capn] 24)).grownBy w2 (Value.slice adu k capu).ownBlock) (hat : (Value.slice adu k capu).ownBlock = some g2 ∨ g2 = wq.heap.size + 1) =>
          ownII_push (W := w) HONE.out HELS.out HND.out HOWN.out HKL.out hoq hgk HF.out HB.out hbq hal hown1 hgrow (fun b hb => by
            simp [Value.ownBlock] at hb
            subst hb
            rcases hat with hat | hat
            · left; exact hat
            · right; rw [hat]; simp))
        clear hoq hal hgk hbq
        go_wp2_with (first | (at_builtin; refine wpList_append_lies _ rfl _ _ _ rfl 0 24 j1 _ 1 24 Try.underlying22 hj1 hw0 hw1 hw2 rfl (by omega) (.slice adu k capu) k _ (by rfl) (HNQ.out.alloc _) ⟨wq.heap.size, 0, none⟩ 1 1 [.slice (some ⟨gg, 0, none⟩) l5 capn] (by rfl) (by rfl) (World.news_of_block (cs := #[.slice (some ⟨gg, 0, none⟩) l5 capn]) (t := 24) (fr := (0, 0)) (heap_alloc_new wq _)) (by simp [Value.oneCell']) (by omega) (by unfold maxLen; omega) (by omega) (by simp) (wq.heap.size + 1) (by simp) ?_; intro g2 capn2 w2 hown1 hgrow hat hlt1; obtain ⟨f', hP1, hP2, hP3⟩ := HS.out w2 g2 capn2 hown1 hgrow hat; have HPP := Lib.hid hP1))
        all_goals (
          go_roundw
          case rel => exact ⟨k + 1, f', by omega, by go_num, by rw [HAT.out]; exact HPP.out, hP2, hP3⟩
          case measure => simp [intOf]; omega)
      obtain ⟨b6, o6, c, rfl, hc, hcc, hIc, _⟩ := rdI_get h2' hrl
      obtain ⟨b7, o7, ad7, l7, c7, V, rfl, hV, hcV, h71, h72, h73, h74, _⟩ := rdIII_get h3' hrl
      obtain ⟨hVl, hVj⟩ := HVO.out.2 V (List.mem_of_getElem? hV)
      obtain rfl : l7 = len1 := by omega
      obtain ⟨b8, o8, ad8, l8, c8, x, rfl, hx, hcx, h81, h82, h83, h84, _⟩ := rdII_get h74 hlt
      obtain ⟨hxl, hxn⟩ := allJ_at hVj hx
      obtain rfl : l8 = l5 := by omega
      have hnext : atRow ys vals row k (r + 1) = addJ (atRow ys vals row k r) (laterJ x) c := by
        rw [atRow, show atLL vals r = V by simp [atLL, hV], atL_get hx, atZ_get hc]
      have hl0 := HLEN.out r
      have hla : (addJ (atRow ys vals row k r) (laterJ x) c).length = (atRow ys vals row k r).length := addJ_len _ _ _
      have hst0 : mixJ (atRow ys vals row k r) (addJ (atRow ys vals row k r) (laterJ x) c) 1 = atRow ys vals row k r := by
        have h0 : (atRow ys vals row k r)[0]? = some ((atRow ys vals row k r)[0]'(by omega)) := List.getElem?_eq_getElem _
        exact mixJ_start h0 ((addLater_zero (by omega) (by omega) (HNUM.out r)).trans h0)
      have HO0 := Lib.hid (show OwnI 3 wq (.slice (some ⟨gg, 0, none⟩) l8 capn) (mixJ (atRow ys vals row k r) (addJ (atRow ys vals row k r) (laterJ x) c) 1) [gg] from by rw [hst0]; exact hoq)
      have HNX := Lib.hid hnext
      have HLA := Lib.hid hla
      have HXL := Lib.hid hxl
      have HL0 := Lib.hid hl0
      have HBQ := Lib.hid hbq
      have HX8 := Lib.hid h84
      clear hoq hbq hc hV h71 h74 hVl hVj hx h81 hxl hxn hnext hl0 hla hst0 h84
      go_wp2
      go_loopw [11] (fun i wz => ∃ j : Nat, j + 1 ≤ l8 ∧ i = .int .i64 ((j : Int) + 1) ∧ OwnI 3 wz (.slice (some ⟨gg, 0, none⟩) l8 capn) (mixJ (atRow ys vals row k r) (addJ (atRow ys vals row k r) (laterJ x) c) (j + 1)) [gg] ∧ Below wk.heap.size wk wz) (fun i _ => l8 - (intOf i).toNat)
      case atStart => exact ⟨0, by omega, rfl, HO0.out, HBQ.out⟩
      case round =>
        obtain ⟨wz, rfl⟩ : ∃ W, W = wr := ⟨_, rfl⟩
        obtain ⟨j, hj, rfl, hoz, hbz⟩ := hrel
        clear HO0
        by_cases hjl : j + 1 < l8
        case neg =>
          obtain rfl : l8 = j + 1 := by omega
          rw [mixJ_done HLA.out (by rw [HL0.out]; exact Nat.le_refl _), ← HNX.out] at hoz
          have HOZ := Lib.hid hoz
          have hno : ¬ ((j : Int) + 1 < (j : Int) + 1) := by omega
          clear hoz
          go_wp2
          go_roundw
          case rel => exact ⟨r + 1, by omega, by go_num, HOZ.out, hbz⟩
          case measure => simp [intOf]; omega
        have hbW := HB.out.trans (hbz.mono HB.out.size)
        have hccz := cell_below hbW hcc
        have hcVz := cell_below hbW hcV
        have hcxz := cell_below hbW hcx
        obtain ⟨b9, o9, y9, rfl, hy9, hcy9, _, _⟩ := rdI_get HX8.out (k := j) (by omega)
        have hcyz := cell_below hbW hcy9
        have hmx := mixJ_at (a := atRow ys vals row k r) (b := addJ (atRow ys vals row k r) (laterJ x) c) HLA.out (j := j + 1) (by rw [HL0.out]; exact hjl)
        obtain ⟨z, hz⟩ : ∃ z, (atRow ys vals row k r)[j + 1]? = some z := ⟨_, List.getElem?_eq_getElem (by rw [HL0.out]; exact hjl)⟩
        rw [hz] at hmx
        obtain ⟨_, _, z', hge, hz', hcz, _, _⟩ := rdI_get (ownI_rd hoz) (k := j + 1) hjl
        simp only [Option.some.injEq, Addr.mk.injEq] at hge
        obtain ⟨rfl, rfl, _⟩ := hge
        rw [hmx] at hz'
        obtain rfl := Option.some.inj hz'
        rw [Nat.zero_add] at hcz
        obtain ⟨_, hge, _, _, hfz, hset⟩ := ownI_put hoz (k := j + 1) (c := plusZ z (timesZ c y9)) (by rw [mixJ_len HLA.out _ (by rw [HL0.out]; omega), HL0.out]; exact hjl) (i64_of_bd (plusZ_bd _ _))
        simp only [Option.some.injEq, Addr.mk.injEq] at hge
        obtain ⟨rfl, _, _⟩ := hge
        rw [mixJ_set HLA.out (addLater_at (by rw [HXL.out, HL0.out]) hz hy9)] at hset
        have hdr := below_drew (wz.setCell ⟨gg, j + 1, none⟩ (.int .i64 (plusZ z (timesZ c y9))))
        have HS1 := Lib.hid (ownI_only hset (Only.of_below (fp := []) hdr) (by simp))
        have HS2 := Lib.hid (hbz.setCell (p := ⟨gg, j + 1, none⟩) hgg (.int .i64 (plusZ z (timesZ c y9)))).drew
        have u1 : IntKind.i64.wrap ((j : Int) + 1) = (j : Int) + 1 := IntWalk.i64_in _ (by omega)
        have u2 : ((j : Int) + 1).toNat = j + 1 := by omega
        have u3 : 0 ≤ (j : Int) + 1 := by omega
        have u4 : (j : Int) + 1 < l8 := by omega
        have u5 : IntKind.i64.wrap ((j : Int) + 1 - 1) = (j : Int) := by rw [Int.add_sub_cancel]; exact IntWalk.i64_in _ (by omega)
        have u6 : IntKind.i64.wrap (j : Int) = (j : Int) := IntWalk.i64_in _ (by omega)
        have u7 : (j : Int) < l8 := by omega
        have u8 : j < l8 := by omega
        clear hset hdr hoz hbz hbW hz hmx hy9
        go_wp2
        (refine wp_region_still_tail 24 (by kernel_rfl) (by kernel_rfl) ?_; simp only [List.take_succ_cons, List.take_zero, List.drop_succ_cons, List.drop_zero]; (repeat (first | still_step | still_call (still_of (sTimes_any _ _ _)) | still_call (still_of (sPlus_any _ _ _)))); refine wpStill_nil ?_; change wpList _ _ _ _ _ (World.drew _))
        go_wp2
        go_roundw
        case rel => exact ⟨j + 1, by omega, by go_num, HS1.out, HS2.out⟩
        case measure => simp [intOf]; omega
end Go.Proofs.Ytdaaamdighojdaa
