/- Products of polynomials in h, up to the power that they have. Conditions: numbers; lengths of a few. -/
import Derived.Test.YtdaaamdighojdaaTurn
set_option linter.unusedSimpArgs false
set_option linter.unusedVariables false
namespace Go.Proofs.Ytdaaamdighojdaa
open Go.RowKit Go.Sort

def Nums (xs : List Int) : Prop := ∀ x ∈ xs, 0 ≤ x ∧ x ≤ 1000000270
theorem nums_at {xs : List Int} {k : Nat} {x : Int} (h : Nums xs) (hx : xs[k]? = some x) : 0 ≤ x ∧ x ≤ 1000000270 := h x (List.mem_of_getElem? hx)
theorem nums_set {xs : List Int} {k : Nat} {x : Int} (h : Nums xs) (hx : 0 ≤ x ∧ x ≤ 1000000270) : Nums (xs.set k x) := fun y hy => by
  rcases List.mem_or_eq_of_mem_set hy with hy | rfl
  · exact h y hy
  · exact hx
theorem nums_zero (n : Nat) : Nums (List.replicate n 0) := fun x hx => by rw [List.eq_of_mem_replicate hx]; omega
theorem nums_add (xs ys : List Int) (k : Int) : Nums (addJ xs ys k) := fun x hx => by
  simp only [addJ, List.mem_map] at hx
  obtain ⟨i, _, rfl⟩ := hx
  exact plusZ_bd _ _

/-- One row of a product: j steps. -/
def mulRow (out a b : List Int) (i : Nat) : Nat → List Int
  | 0 => out
  | j + 1 => (mulRow out a b i j).set (i + j) (plusZ (atZ (mulRow out a b i j) (i + j)) (timesZ (atZ a i) (atZ b j)))
def mulCol (a b : List Int) : Nat → List Int
  | 0 => List.replicate a.length 0
  | i + 1 => mulRow (mulCol a b i) a b i (a.length - i)
def mulZ (a b : List Int) : List Int := mulCol a b a.length

theorem mulRow_len (out a b : List Int) (i j : Nat) : (mulRow out a b i j).length = out.length := by
  induction j with
  | zero => rfl
  | succ j ih => rw [mulRow, List.length_set, ih]
theorem mulCol_len (a b : List Int) (i : Nat) : (mulCol a b i).length = a.length := by
  induction i with
  | zero => simp [mulCol]
  | succ i ih => rw [mulCol, mulRow_len, ih]
theorem mulZ_len (a b : List Int) : (mulZ a b).length = a.length := mulCol_len a b _
theorem mulRow_nums {out : List Int} (h : Nums out) (a b : List Int) (i j : Nat) : Nums (mulRow out a b i j) := by
  induction j with
  | zero => exact h
  | succ j ih => exact nums_set ih (plusZ_bd _ _)
theorem mulCol_nums (a b : List Int) (i : Nat) : Nums (mulCol a b i) := by
  induction i with
  | zero => exact nums_zero _
  | succ i ih => exact mulRow_nums ih a b i _
theorem mulZ_nums (a b : List Int) : Nums (mulZ a b) := mulCol_nums a b _
theorem mulRow_nil {out a : List Int} (h : Nums out) (b : List Int) {i : Nat} (hi : a[i]? = some 0) (j : Nat) : mulRow out a b i j = out := by
  induction j with
  | zero => rfl
  | succ j ih =>
    rw [mulRow, ih, atZ_get hi]
    by_cases hlt : i + j < out.length
    · have hx : out[i + j]? = some out[i + j] := List.getElem?_eq_getElem hlt
      have hn := nums_at h hx
      have : plusZ (atZ out (i + j)) (timesZ 0 (atZ b j)) = out[i + j] := by
        rw [atZ_get hx]
        simp only [plusZ, timesZ, Int.zero_mul]
        omega
      rw [this, List.set_getElem_self]
    · exact List.set_eq_of_length_le (by omega)
theorem mulCol_skip (a b : List Int) {i : Nat} (hi : a[i]? = some 0) : mulCol a b (i + 1) = mulCol a b i := mulRow_nil (mulCol_nums a b i) b hi _

theorem own_set {w W : World} {B g e : Nat} {n cap k : Nat} {xs : List Int} {x : Int} (h : w.ownsRow B e 1 (.slice (some ⟨g, 0, none⟩) n cap) n (xs.map (Value.int .i64))) (hb : Below B W w) (hx : xs[k]? = some x) (hg : B ≤ g) (y : Int) :
    w.cell? ⟨g, k, none⟩ = some (.int .i64 x) ∧ w.frozen? ⟨g, k, none⟩ = false ∧ (w.setCell ⟨g, k, none⟩ (.int .i64 y)).ownsRow B e 1 (.slice (some ⟨g, 0, none⟩) n cap) n ((xs.set k y).map (Value.int .i64)) ∧ Below B W (w.setCell ⟨g, k, none⟩ (.int .i64 y)) := by
  have hk : k < xs.length := (List.getElem?_eq_some_iff.1 hx).1
  have hl := h.1
  have hs := (h.stored k (.int .i64 y)).1
  refine ⟨?_, h.frozenAt k, by rw [List.map_set]; exact hs, hb.setCell hg _⟩
  rw [h.cellAt k (by simp at hl; omega)]
  simp [hx]

theorem mulStep {o x y : Int} (ho : 0 ≤ o) (hm : 0 ≤ x * y) : (o + x * y).tmod 1000000271 = plusZ o (timesZ x y) := by
  rw [Int.tmod_eq_emod_of_nonneg (by omega)]
  unfold plusZ timesZ
  generalize x * y = m at hm ⊢
  omega

set_option maxRecDepth 100000 in
set_option maxHeartbeats 1600000 in
theorem timesJ_any (va vb : Value) (xs ys : List Int) (w : World) (ha : RdI w va xs) (hb : RdI w vb ys) (hl : xs.length ≤ ys.length) (hn : xs.length ≤ 7) (hxn : Nums xs) (hyn : Nums ys) :
    Calls Try.prog 66 #[va, vb] w (Gives (fun w' v fp => OwnI 3 w' v (mulZ xs ys) fp) w) := by
  obtain ⟨ad, len, cap, rfl, hl1, hlc, hcm, h'⟩ := rdS_open ha
  obtain ⟨ad2, len2, cap2, rfl, hl2, hlc2, hcm2, h2'⟩ := rdS_open hb
  rw [hl1] at hl hn
  rw [hl2] at hl
  have HL := Lib.hid hl1
  clear ha hb hl1 hl2
  obtain ⟨i0, hi, hz0, hz1, hz2⟩ := info_parts Try.info_int
  have hib : i0.bytes * len ≤ 281474976710656 := by rw [hz2]; omega
  go_enter Try.func66, Try.ntmps66
  go_wp2_with (first
    | (at_make; refine wpList_make_full _ rfl _ _ 78 rfl w.heap.size 3 i0 (.int .i64 0) 1 Try.underlying78 hi hz0 hz1 .i64 .i64 _ _ len rfl rfl rfl rfl hib (by unfold maxLen; omega) (Nat.le_refl _) ?_; intro w1 hown1 hgrow1))
  have hm0 : (madeCells (Value.int .i64 0).cells (len * 1)).toList = (List.replicate len (0 : Int)).map (Value.int .i64) := by
    rw [Nat.mul_one, List.map_replicate]; exact toList_madeCells_one _ _
  rw [hm0] at hown1
  have hbl : Below w.heap.size w w1 := (Below.refl _ _).grown hgrow1 (Nat.le_refl _) (fun k hk => by cases hk)
  clear hm0 hgrow1 hi hz0 hz1 hz2 hib
  go_loopw [14] (fun i wr => ∃ k : Nat, k ≤ len ∧ i = .int .i64 k ∧ wr.ownsRow w.heap.size 3 1 (.slice (some ⟨w.heap.size, 0, none⟩) len len) len ((mulCol xs ys k).map (Value.int .i64)) ∧ Below w.heap.size w wr)
    (fun i _ => len - (intOf i).toNat)
  case atStart => exact ⟨0, Nat.zero_le _, rfl, by rw [mulCol, HL.out]; exact hown1, hbl⟩
  case round =>
    obtain ⟨k, hk, rfl, hown, hb⟩ := hrel
    clear hown1 hbl
    by_cases hlt : k < len
    case neg =>
      obtain rfl : k = len := by omega
      go_wp2
      go_ret
      have hml := mulZ_len xs ys
      rw [HL.out] at hml
      have ho : wr.ownsRow 0 3 1 (.slice (some ⟨w.heap.size, 0, none⟩) k k) (mulZ xs ys).length ((mulZ xs ys).map (Value.int .i64)) := by
        rw [hml, mulZ, HL.out]
        obtain ⟨h1, h2⟩ := hown
        refine ⟨h1, ?_⟩
        rcases h2 with h2 | ⟨g, cap, cur, hv, hg, r⟩
        · exact .inl h2
        · exact .inr ⟨g, cap, cur, hv, Nat.zero_le _, r⟩
      exact ⟨_, [w.heap.size], rfl, ⟨ho, rfl, fun x hx => i64_of_bd (mulZ_nums xs ys x hx)⟩, by simp, hb⟩
    have h'r := rdI_mono hb h'
    obtain ⟨b, off, x, rfl, hx, hc, hI, hbs⟩ := rdI_get h'r hlt
    obtain ⟨hx0, hx1⟩ := nums_at hxn hx
    clear hI
    by_cases hx00 : x = 0
    case pos =>
      subst hx00
      have HS := Lib.hid (mulCol_skip xs ys hx)
      have HOWN := Lib.hid hown
      clear hx hown
      go_wp2
      go_roundw
      case rel => exact ⟨k + 1, by omega, by go_num, by rw [HS.out]; exact HOWN.out, hb⟩
      case measure => simp [intOf]; omega
    have hxb : (x == 0) = false := by simpa using hx00
    have HOWN := Lib.hid hown
    have HX := Lib.hid hx
    have HB := Lib.hid hb
    clear hown hx h'r hb
    go_wp2
    go_loopw [8] (fun j wq => ∃ q : Nat, k + q ≤ len ∧ j = .int .i64 q ∧ wq.ownsRow w.heap.size 3 1 (.slice (some ⟨w.heap.size, 0, none⟩) len len) len ((mulRow (mulCol xs ys k) xs ys k q).map (Value.int .i64)) ∧ Below w.heap.size w wq) (fun j _ => len - k - (intOf j).toNat)
    case atStart => exact ⟨0, by omega, rfl, HOWN.out, HB.out⟩
    case round =>
      obtain ⟨q, hq, rfl, hown, hbq⟩ := hrel
      clear HOWN
      by_cases hql : k + q < len
      case neg =>
        obtain rfl : q = len - k := by omega
        have e1 : mulCol xs ys (k + 1) = mulRow (mulCol xs ys k) xs ys k (len - k) := by rw [mulCol, HL.out]
        rw [← e1] at hown
        have HE := Lib.hid hown
        clear hown e1
        go_wp2
        go_roundw
        case rel => exact ⟨k + 1, by omega, by go_num, HE.out, hbq⟩
        case measure => simp [intOf]; omega
      have h2'r := rdI_mono hbq h2'
      obtain ⟨b2, off2, y, rfl, hy, hc2, hI2, hbs2⟩ := rdI_get h2'r (k := q) (by omega)
      obtain ⟨hy0, hy1⟩ := nums_at hyn hy
      have hlen : (mulRow (mulCol xs ys k) xs ys k q).length = len := by rw [mulRow_len, mulCol_len, HL.out]
      obtain ⟨o, ho⟩ : ∃ o, (mulRow (mulCol xs ys k) xs ys k q)[k + q]? = some o := ⟨_, List.getElem?_eq_getElem (by omega)⟩
      obtain ⟨ho0, ho1⟩ := nums_at (mulRow_nums (mulCol_nums xs ys k) xs ys k q) ho
      obtain ⟨hm0, hm1⟩ := mul_bd hx0 hx1 hy0 hy1
      have hst := mulStep ho0 hm0
      obtain ⟨hco, hfz, hset, hbs'⟩ := own_set hown hbq ho (Nat.le_refl _) (plusZ o (timesZ x y))
      have e2 : (mulRow (mulCol xs ys k) xs ys k q).set (k + q) (plusZ o (timesZ x y)) = mulRow (mulCol xs ys k) xs ys k (q + 1) := by rw [mulRow, atZ_get ho, atZ_get HX.out, atZ_get hy]
      rw [e2] at hset
      have HS := Lib.hid hset
      have hql2 : q < len2 := by omega
      have u1 : IntKind.i64.wrap ((k : Int) + q) = (k : Int) + q := IntWalk.i64_in _ (by omega)
      have u2 : IntKind.i64.wrap (x * y) = x * y := IntWalk.i64_in _ (by omega)
      have u3 : IntKind.i64.wrap (o + x * y) = o + x * y := IntWalk.i64_in _ (by omega)
      have u4 : ((k : Int) + q).toNat = k + q := by omega
      have u5 : 0 ≤ (k : Int) + q := by omega
      have u6 : (k : Int) + q < len := by omega
      clear hset e2 hown hy ho hlen
      go_wp2
      (refine wp_region_still_tail 19 (by kernel_rfl) (by kernel_rfl) ?_; simp only [List.take_succ_cons, List.take_zero, List.drop_succ_cons, List.drop_zero]; (repeat (first | still_step )); refine wpStill_nil ?_; change wpList _ _ _ _ _ (World.drew _))
      go_wp2
      go_roundw
      case rel => exact ⟨q + 1, by omega, by go_num, World.ownsRow.drew HS.out, hbs'.drew⟩
      case measure => simp [intOf]; omega

set_option maxRecDepth 100000 in
set_option maxHeartbeats 1600000 in
theorem l8Mul_any (va vb : Value) (xs ys : List Int) (w : World) (ha : RdI w va xs) (hb : RdI w vb ys) (hl : xs.length ≤ ys.length) (hn : xs.length ≤ 7) :
    Calls Try.prog 62 #[va, vb] w (Gives (fun w' v fp => OwnI 3 w' v (mulZ xs ys) fp) w) := by
  obtain ⟨ad, len, cap, rfl, hl1, hlc, hcm, h'⟩ := rdS_open ha
  obtain ⟨ad2, len2, cap2, rfl, hl2, hlc2, hcm2, h2'⟩ := rdS_open hb
  rw [hl1] at hl hn
  rw [hl2] at hl
  have HL := Lib.hid hl1
  clear ha hb hl1 hl2
  obtain ⟨i0, hi, hz0, hz1, hz2⟩ := info_parts Try.info_int
  have hib : i0.bytes * len ≤ 281474976710656 := by rw [hz2]; omega
  go_enter Try.func62, Try.ntmps62
  go_wp2_with (first
    | (at_make; refine wpList_make_full _ rfl _ _ 24 rfl w.heap.size 3 i0 (.int .i64 0) 1 Try.underlying24 hi hz0 hz1 .i64 .i64 _ _ len rfl rfl rfl rfl hib (by unfold maxLen; omega) (Nat.le_refl _) ?_; intro w1 hown1 hgrow1))
  have hm0 : (madeCells (Value.int .i64 0).cells (len * 1)).toList = (List.replicate len (0 : Int)).map (Value.int .i64) := by
    rw [Nat.mul_one, List.map_replicate]; exact toList_madeCells_one _ _
  rw [hm0] at hown1
  have hbl : Below w.heap.size w w1 := (Below.refl _ _).grown hgrow1 (Nat.le_refl _) (fun k hk => by cases hk)
  clear hm0 hgrow1 hi hz0 hz1 hz2 hib
  go_loopw [6] (fun i wr => ∃ k : Nat, k ≤ len ∧ i = .int .i64 k ∧ wr.ownsRow w.heap.size 3 1 (.slice (some ⟨w.heap.size, 0, none⟩) len len) len ((mulCol xs ys k).map (Value.int .i64)) ∧ Below w.heap.size w wr)
    (fun i _ => len - (intOf i).toNat)
  case atStart => exact ⟨0, Nat.zero_le _, rfl, by rw [mulCol, HL.out]; exact hown1, hbl⟩
  case round =>
    obtain ⟨k, hk, rfl, hown, hb⟩ := hrel
    clear hown1 hbl
    by_cases hlt : k < len
    case neg =>
      obtain rfl : k = len := by omega
      go_wp2
      go_ret
      have hml := mulZ_len xs ys
      rw [HL.out] at hml
      have ho : wr.ownsRow 0 3 1 (.slice (some ⟨w.heap.size, 0, none⟩) k k) (mulZ xs ys).length ((mulZ xs ys).map (Value.int .i64)) := by
        rw [hml, mulZ, HL.out]
        obtain ⟨h1, h2⟩ := hown
        refine ⟨h1, ?_⟩
        rcases h2 with h2 | ⟨g, cap, cur, hv, hg, r⟩
        · exact .inl h2
        · exact .inr ⟨g, cap, cur, hv, Nat.zero_le _, r⟩
      exact ⟨_, [w.heap.size], rfl, ⟨ho, rfl, fun x hx => i64_of_bd (mulZ_nums xs ys x hx)⟩, by simp, hb⟩
    have h'r := rdI_mono hb h'
    obtain ⟨b, off, x, rfl, hx, hc, hI, hbs⟩ := rdI_get h'r hlt
    have hc0 := Lib.hid hc
    have HOWN := Lib.hid hown
    have HX := Lib.hid hx
    have HB := Lib.hid hb
    clear hown hx h'r hb hc
    go_wp2
    go_loopw [7] (fun j wq => ∃ q : Nat, k + q ≤ len ∧ j = .int .i64 q ∧ wq.ownsRow w.heap.size 3 1 (.slice (some ⟨w.heap.size, 0, none⟩) len len) len ((mulRow (mulCol xs ys k) xs ys k q).map (Value.int .i64)) ∧ Below w.heap.size w wq) (fun j _ => len - k - (intOf j).toNat)
    case atStart => exact ⟨0, by omega, rfl, HOWN.out, HB.out⟩
    case round =>
      obtain ⟨q, hq, rfl, hown, hbq⟩ := hrel
      clear HOWN
      have hxr : RdI wr (.slice (some ⟨b, off, none⟩) len cap) xs := rdI_mono hbq (by assumption)
      obtain ⟨b', off', x', hbe, hx', hc', _, _⟩ := rdI_get hxr hlt
      simp only [Option.some.injEq, Addr.mk.injEq] at hbe
      obtain ⟨rfl, rfl, _⟩ := hbe
      obtain rfl : x' = x := by have := HX.out; rw [hx'] at this; exact Option.some.inj this
      have hend : ¬ (k + q < len) ∨ x' = 0 → mulCol xs ys (k + 1) = mulRow (mulCol xs ys k) xs ys k q := by
        rintro (h1 | rfl)
        · rw [mulCol, HL.out, show len - k = q by omega]
        · rw [mulCol_skip _ _ hx', mulRow_nil (mulCol_nums _ _ _) _ hx']
      by_cases hql : k + q < len
      case neg =>
        have e1 := hend (.inl hql)
        rw [← e1] at hown
        have HE := Lib.hid hown
        clear hown e1 hend hxr
        have HBQ := Lib.hid hbq
        clear hbq
        have u1 : IntKind.i64.wrap ((k : Int) + q) = (k : Int) + q := IntWalk.i64_in _ (by omega)
        clear hx'
        go_wp2
        all_goals exact ⟨⟨k + 1, by omega, by go_num, HE.out, HBQ.out⟩, by simp [intOf]; omega⟩
      by_cases hx00 : x' = 0
      case pos =>
        have u4 : ((k : Int) + q) < len := by omega
        have e1 := hend (.inr hx00)
        rw [← e1] at hown
        have HE := Lib.hid hown
        clear hown e1 hend hxr
        have HBQ := Lib.hid hbq
        clear hbq
        have u1 : IntKind.i64.wrap ((k : Int) + q) = (k : Int) + q := IntWalk.i64_in _ (by omega)
        subst hx00
        clear hx'
        go_wp2
        all_goals exact ⟨⟨k + 1, by omega, by go_num, HE.out, HBQ.out⟩, by simp [intOf]; omega⟩
      have hxb : (x' == 0) = false := by simpa using hx00
      have h2'r := rdI_mono hbq h2'
      obtain ⟨b2, off2, y, rfl, hy, hc2, hI2, hbs2⟩ := rdI_get h2'r (k := q) (by omega)
      have hlen : (mulRow (mulCol xs ys k) xs ys k q).length = len := by rw [mulRow_len, mulCol_len, HL.out]
      obtain ⟨o, ho⟩ : ∃ o, (mulRow (mulCol xs ys k) xs ys k q)[k + q]? = some o := ⟨_, List.getElem?_eq_getElem (by omega)⟩
      obtain ⟨hco, hfz, hset, hbs'⟩ := own_set hown hbq ho (Nat.le_refl _) (plusZ o (timesZ x' y))
      have e2 : (mulRow (mulCol xs ys k) xs ys k q).set (k + q) (plusZ o (timesZ x' y)) = mulRow (mulCol xs ys k) xs ys k (q + 1) := by rw [mulRow, atZ_get ho, atZ_get HX.out, atZ_get hy]
      rw [e2] at hset
      have HS := Lib.hid hset
      have hql2 : q < len2 := by omega
      have u1 : IntKind.i64.wrap ((k : Int) + q) = (k : Int) + q := IntWalk.i64_in _ (by omega)
      have u4 : ((k : Int) + q).toNat = k + q := by omega
      have u5 : 0 ≤ (k : Int) + q := by omega
      have u6 : (k : Int) + q < len := by omega
      clear hset e2 hown hy ho hlen hend hx' hxr h2'r
      go_wp2
      (refine wp_region_still_tail 21 (by kernel_rfl) (by kernel_rfl) ?_; simp only [List.take_succ_cons, List.take_zero, List.drop_succ_cons, List.drop_zero]; (repeat (first | still_step | still_call (still_of (sTimes_any _ _ _)) | still_call (still_of (sPlus_any _ _ _)))); refine wpStill_nil ?_; change wpList _ _ _ _ _ (World.drew _))
      go_wp2
      go_roundw
      case rel => exact ⟨q + 1, by omega, by go_num, World.ownsRow.drew HS.out, hbs'.drew⟩
      case measure => simp [intOf]; omega
end Go.Proofs.Ytdaaamdighojdaa
