/- The texts Mul, DrwQ in one: each says at its head what it proves. Conditions: as said there. -/
import Derived.Test.YtbcjhpgkodeoeaaGreatDoorN10
import Derived.Test.YtbcjhpgkodeoeaaGreatDoorN07
import Derived.Test.YtbcjhpgkodeoeaaGreatDoorN09
import Derived.Test.YtbcjhpgkodeoeaaGreatDoorN02
set_option linter.unusedSimpArgs false
set_option linter.unusedVariables false
/- Products of polynomials in h, up to the power that they have. Conditions: numbers; lengths of a few. -/
namespace Go.Proofs.YtbcjhpgkodeoeaaGreatDoor
open Go.RowKit Go.Sort

def Nums (xs : List Int) : Prop := ∀ x ∈ xs, 0 ≤ x ∧ x ≤ 1000000270
theorem nums_at {xs : List Int} {k : Nat} {x : Int} (h : Nums xs) (hx : xs[k]? = some x) : 0 ≤ x ∧ x ≤ 1000000270 := h x (List.mem_of_getElem? hx)
theorem nums_set {xs : List Int} {k : Nat} {x : Int} (h : Nums xs) (hx : 0 ≤ x ∧ x ≤ 1000000270) : Nums (xs.set k x) := fun y hy => by
  rcases List.mem_or_eq_of_mem_set hy with hy | rfl
  · exact h y hy
  · exact hx
theorem nums_zero (n : Nat) : Nums (List.replicate n 0) := fun x hx => by rw [List.eq_of_mem_replicate hx]; omega
theorem nums_add (xs ys : List Int) (k : Int) : Nums (addJ xs ys k) := fun x hx => by
  simp only [addJ, List.mem_map] at hx
  obtain ⟨i, _, rfl⟩ := hx
  exact plusZ_bd _ _

/-- One row of a product: j steps. -/
def mulRow (out a b : List Int) (i : Nat) : Nat → List Int
  | 0 => out
  | j + 1 => (mulRow out a b i j).set (i + j) (plusZ (atZ (mulRow out a b i j) (i + j)) (timesZ (atZ a i) (atZ b j)))
def mulCol (a b : List Int) : Nat → List Int
  | 0 => List.replicate a.length 0
  | i + 1 => mulRow (mulCol a b i) a b i (a.length - i)
def mulZ (a b : List Int) : List Int := mulCol a b a.length

theorem mulRow_len (out a b : List Int) (i j : Nat) : (mulRow out a b i j).length = out.length := by
  induction j with
  | zero => rfl
  | succ j ih => rw [mulRow, List.length_set, ih]
theorem mulCol_len (a b : List Int) (i : Nat) : (mulCol a b i).length = a.length := by
  induction i with
  | zero => simp [mulCol]
  | succ i ih => rw [mulCol, mulRow_len, ih]
theorem mulZ_len (a b : List Int) : (mulZ a b).length = a.length := mulCol_len a b _
theorem mulRow_nums {out : List Int} (h : Nums out) (a b : List Int) (i j : Nat) : Nums (mulRow out a b i j) := by
  induction j with
  | zero => exact h
  | succ j ih => exact nums_set ih (plusZ_bd _ _)
theorem mulCol_nums (a b : List Int) (i : Nat) : Nums (mulCol a b i) := by
  induction i with
  | zero => exact nums_zero _
  | succ i ih => exact mulRow_nums ih a b i _
theorem mulZ_nums (a b : List Int) : Nums (mulZ a b) := mulCol_nums a b _
theorem mulRow_nil {out a : List Int} (h : Nums out) (b : List Int) {i : Nat} (hi : a[i]? = some 0) (j : Nat) : mulRow out a b i j = out := by
  induction j with
  | zero => rfl
  | succ j ih =>
    rw [mulRow, ih, atZ_get hi]
    by_cases hlt : i + j < out.length
    · have hx : out[i + j]? = some out[i + j] := List.getElem?_eq_getElem hlt
      have hn := nums_at h hx
      have : plusZ (atZ out (i + j)) (timesZ 0 (atZ b j)) = out[i + j] := by
        rw [atZ_get hx]
        simp only [plusZ, timesZ, Int.zero_mul]
        omega
      rw [this, List.set_getElem_self]
    · exact List.set_eq_of_length_le (by omega)
theorem mulCol_skip (a b : List Int) {i : Nat} (hi : a[i]? = some 0) : mulCol a b (i + 1) = mulCol a b i := mulRow_nil (mulCol_nums a b i) b hi _

theorem own_set {w W : World} {B g e : Nat} {n cap k : Nat} {xs : List Int} {x : Int} (h : w.ownsRow B e 1 (.slice (some ⟨g, 0, none⟩) n cap) n (xs.map (Value.int .i64))) (hb : Below B W w) (hx : xs[k]? = some x) (hg : B ≤ g) (y : Int) :
    w.cell? ⟨g, k, none⟩ = some (.int .i64 x) ∧ w.frozen? ⟨g, k, none⟩ = false ∧ (w.setCell ⟨g, k, none⟩ (.int .i64 y)).ownsRow B e 1 (.slice (some ⟨g, 0, none⟩) n cap) n ((xs.set k y).map (Value.int .i64)) ∧ Below B W (w.setCell ⟨g, k, none⟩ (.int .i64 y)) := by
  have hk : k < xs.length := (List.getElem?_eq_some_iff.1 hx).1
  have hl := h.1
  have hs := (h.stored k (.int .i64 y)).1
  refine ⟨?_, h.frozenAt k, by rw [List.map_set]; exact hs, hb.setCell hg _⟩
  rw [h.cellAt k (by simp at hl; omega)]
  simp [hx]

theorem mulStep {o x y : Int} (ho : 0 ≤ o) (hm : 0 ≤ x * y) : (o + x * y).tmod 1000000271 = plusZ o (timesZ x y) := by
  rw [Int.tmod_eq_emod_of_nonneg (by omega)]
  unfold plusZ timesZ
  generalize x * y = m at hm ⊢
  omega

set_option maxRecDepth 100000 in
set_option maxHeartbeats 1600000 in
theorem timesJ_any (va vb : Value) (xs ys : List Int) (w : World) (ha : RdI w va xs) (hb : RdI w vb ys) (hl : xs.length ≤ ys.length) (hn : xs.length ≤ 7) (hxn : Nums xs) (hyn : Nums ys) :
    Calls Tryz.prog 69 #[va, vb] w (Gives (fun w' v fp => OwnI 3 w' v (mulZ xs ys) fp) w) := by
  obtain ⟨ad, len, cap, rfl, hl1, hlc, hcm, h'⟩ := rdS_open ha
  obtain ⟨ad2, len2, cap2, rfl, hl2, hlc2, hcm2, h2'⟩ := rdS_open hb
  rw [hl1] at hl hn
  rw [hl2] at hl
  have HL := Lib.hid hl1
  clear ha hb hl1 hl2
  obtain ⟨i0, hi, hz0, hz1, hz2⟩ := info_parts Tryz.info_int
  have hib : i0.bytes * len ≤ 281474976710656 := by rw [hz2]; omega
  go_enter Tryz.func69, Tryz.ntmps69
  go_wp2_with (first
    | (at_make; refine wpList_make_full _ rfl _ _ 89 rfl w.heap.size 3 i0 (.int .i64 0) 1 Tryz.underlying89 hi hz0 hz1 .i64 .i64 _ _ len rfl rfl rfl rfl hib (by unfold maxLen; omega) (Nat.le_refl _) ?_; intro w1 hown1 hgrow1))
  have hm0 : (madeCells (Value.int .i64 0).cells (len * 1)).toList = (List.replicate len (0 : Int)).map (Value.int .i64) := by
    rw [Nat.mul_one, List.map_replicate]; exact toList_madeCells_one _ _
  rw [hm0] at hown1
  have hbl : Below w.heap.size w w1 := (Below.refl _ _).grown hgrow1 (Nat.le_refl _) (fun k hk => by cases hk)
  clear hm0 hgrow1 hi hz0 hz1 hz2 hib
  go_loopw [14] (fun i wr => ∃ k : Nat, k ≤ len ∧ i = .int .i64 k ∧ wr.ownsRow w.heap.size 3 1 (.slice (some ⟨w.heap.size, 0, none⟩) len len) len ((mulCol xs ys k).map (Value.int .i64)) ∧ Below w.heap.size w wr)
    (fun i _ => len - (intOf i).toNat)
  case atStart => exact ⟨0, Nat.zero_le _, rfl, by rw [mulCol, HL.out]; exact hown1, hbl⟩
  case round =>
    obtain ⟨k, hk, rfl, hown, hb⟩ := hrel
    clear hown1 hbl
    by_cases hlt : k < len
    case neg =>
      obtain rfl : k = len := by omega
      go_wp2
      go_ret
      have hml := mulZ_len xs ys
      rw [HL.out] at hml
      have ho : wr.ownsRow 0 3 1 (.slice (some ⟨w.heap.size, 0, none⟩) k k) (mulZ xs ys).length ((mulZ xs ys).map (Value.int .i64)) := by
        rw [hml, mulZ, HL.out]
        obtain ⟨h1, h2⟩ := hown
        refine ⟨h1, ?_⟩
        rcases h2 with h2 | ⟨g, cap, cur, hv, hg, r⟩
        · exact .inl h2
        · exact .inr ⟨g, cap, cur, hv, Nat.zero_le _, r⟩
      exact ⟨_, [w.heap.size], rfl, ⟨ho, rfl, fun x hx => i64_of_bd (mulZ_nums xs ys x hx)⟩, by simp, hb⟩
    have h'r := rdI_mono hb h'
    obtain ⟨b, off, x, rfl, hx, hc, hI, hbs⟩ := rdI_get h'r hlt
    obtain ⟨hx0, hx1⟩ := nums_at hxn hx
    clear hI
    by_cases hx00 : x = 0
    case pos =>
      subst hx00
      have HS := Lib.hid (mulCol_skip xs ys hx)
      have HOWN := Lib.hid hown
      clear hx hown
      go_wp2
      go_roundw
      case rel => exact ⟨k + 1, by omega, by go_num, by rw [HS.out]; exact HOWN.out, hb⟩
      case measure => simp [intOf]; omega
    have hxb : (x == 0) = false := by simpa using hx00
    have HOWN := Lib.hid hown
    have HX := Lib.hid hx
    have HB := Lib.hid hb
    clear hown hx h'r hb
    go_wp2
    go_loopw [8] (fun j wq => ∃ q : Nat, k + q ≤ len ∧ j = .int .i64 q ∧ wq.ownsRow w.heap.size 3 1 (.slice (some ⟨w.heap.size, 0, none⟩) len len) len ((mulRow (mulCol xs ys k) xs ys k q).map (Value.int .i64)) ∧ Below w.heap.size w wq) (fun j _ => len - k - (intOf j).toNat)
    case atStart => exact ⟨0, by omega, rfl, HOWN.out, HB.out⟩
    case round =>
      obtain ⟨q, hq, rfl, hown, hbq⟩ := hrel
      clear HOWN
      by_cases hql : k + q < len
      case neg =>
        obtain rfl : q = len - k := by omega
        have e1 : mulCol xs ys (k + 1) = mulRow (mulCol xs ys k) xs ys k (len - k) := by rw [mulCol, HL.out]
        rw [← e1] at hown
        have HE := Lib.hid hown
        clear hown e1
        go_wp2
        go_roundw
        case rel => exact ⟨k + 1, by omega, by go_num, HE.out, hbq⟩
        case measure => simp [intOf]; omega
      have h2'r := rdI_mono hbq h2'
      obtain ⟨b2, off2, y, rfl, hy, hc2, hI2, hbs2⟩ := rdI_get h2'r (k := q) (by omega)
      obtain ⟨hy0, hy1⟩ := nums_at hyn hy
      have hlen : (mulRow (mulCol xs ys k) xs ys k q).length = len := by rw [mulRow_len, mulCol_len, HL.out]
      obtain ⟨o, ho⟩ : ∃ o, (mulRow (mulCol xs ys k) xs ys k q)[k + q]? = some o := ⟨_, List.getElem?_eq_getElem (by omega)⟩
      obtain ⟨ho0, ho1⟩ := nums_at (mulRow_nums (mulCol_nums xs ys k) xs ys k q) ho
      obtain ⟨hm0, hm1⟩ := mul_bd hx0 hx1 hy0 hy1
      have hst := mulStep ho0 hm0
      obtain ⟨hco, hfz, hset, hbs'⟩ := own_set hown hbq ho (Nat.le_refl _) (plusZ o (timesZ x y))
      have e2 : (mulRow (mulCol xs ys k) xs ys k q).set (k + q) (plusZ o (timesZ x y)) = mulRow (mulCol xs ys k) xs ys k (q + 1) := by rw [mulRow, atZ_get ho, atZ_get HX.out, atZ_get hy]
      rw [e2] at hset
      have HS := Lib.hid hset
      have hql2 : q < len2 := by omega
      have u1 : IntKind.i64.wrap ((k : Int) + q) = (k : Int) + q := IntWalk.i64_in _ (by omega)
      have u2 : IntKind.i64.wrap (x * y) = x * y := IntWalk.i64_in _ (by omega)
      have u3 : IntKind.i64.wrap (o + x * y) = o + x * y := IntWalk.i64_in _ (by omega)
      have u4 : ((k : Int) + q).toNat = k + q := by omega
      have u5 : 0 ≤ (k : Int) + q := by omega
      have u6 : (k : Int) + q < len := by omega
      clear hset e2 hown hy ho hlen
      go_wp2
      (refine wp_region_still_tail 19 (by kernel_rfl) (by kernel_rfl) ?_; simp only [List.take_succ_cons, List.take_zero, List.drop_succ_cons, List.drop_zero]; (repeat (first | still_step )); refine wpStill_nil ?_; change wpList _ _ _ _ _ (World.drew _))
      go_wp2
      go_roundw
      case rel => exact ⟨q + 1, by omega, by go_num, World.ownsRow.drew HS.out, hbs'.drew⟩
      case measure => simp [intOf]; omega

end Go.Proofs.YtbcjhpgkodeoeaaGreatDoor

/- Drawn polynomials: what the walk keeps. Conditions: a cursor. -/
namespace Go.Proofs.YtbcjhpgkodeoeaaGreatDoor
open Go.RowKit Go.Sort

/-- A polynomial of the call's own: its monomials are put in order. -/
structure PolD (g n : Nat) (d : Int) (W w : World) (v : Value) (Z : List ElS) : Prop where
  shape : ∃ gp cap, v = .slice (some ⟨gp, 0, none⟩) Z.length cap
  row : w.ownsRow 0 56 2 v Z.length (rowS Z)
  els : ∀ z ∈ Z, I64 z.c ∧ OwnI 3 w z.v z.ps z.f
  nd : (v.ownBlock.toList ++ Z.flatMap ElS.f).Nodup
  new : ∀ b ∈ v.ownBlock.toList ++ Z.flatMap ElS.f, W.heap.size ≤ b
  canon : Canon (Z.map monS)
  mons : ∀ z ∈ Z, MonIn n d (monS z)
  drawn : Drawn g W w
theorem PolD.only {g n : Nat} {d : Int} {W w w' : World} {v : Value} {Z : List ElS} (h : PolD g n d W w v Z) (hd : Drawn g w w') (hg : g < W.heap.size) : PolD g n d W w' v Z := by
  have hne : ∀ b ∈ v.ownBlock.toList ++ Z.flatMap ElS.f, b ∉ [g] := fun b hb => by have := h.new b hb; simp; omega
  refine ⟨h.shape, ownsRow_only h.row hd.only (fun b hb => hne b (by simp [hb])), fun z hz => ⟨(h.els z hz).1, ownI_only (h.els z hz).2 hd.only (fun b hb => hne b ?_)⟩, h.nd, h.new, h.canon, h.mons, h.drawn.trans hd⟩
  simp only [List.mem_append, List.mem_flatMap]
  exact .inr ⟨z, hz, hb⟩
theorem PolD.newer {g n : Nat} {d : Int} {W w w' : World} {v : Value} {Z : List ElS} {fp : List Nat} (h : PolD g n d W w v Z) (ho : Only fp w w') (hd : ∀ b ∈ v.ownBlock.toList ++ Z.flatMap ElS.f, b ∉ fp) (hn : ∀ b ∈ fp, W.heap.size ≤ b) (hg : g < W.heap.size) : PolD g n d W w' v Z := by
  refine ⟨h.shape, ownsRow_only h.row ho (fun b hb => hd b (by simp [hb])), fun z hz => ⟨(h.els z hz).1, ownI_only (h.els z hz).2 ho (fun b hb => hd b ?_)⟩, h.nd, h.new, h.canon, h.mons, h.drawn.newer hg ho hn⟩
  simp only [List.mem_append, List.mem_flatMap]
  exact .inr ⟨z, hz, hb⟩
theorem PolD.bel {g n : Nat} {d : Int} {W w w' : World} {v : Value} {Z : List ElS} (h : PolD g n d W w v Z) (hb : Below w.heap.size w w') : PolD g n d W w' v Z :=
  ⟨h.shape, ownsRow_only h.row (Only.of_below (fp := []) hb) (by simp), fun z hz => ⟨(h.els z hz).1, ownI_only (h.els z hz).2 (Only.of_below (fp := []) hb) (by simp)⟩, h.nd, h.new, h.canon, h.mons, h.drawn.below hb⟩
theorem PolD.start {g n : Nat} {d : Int} {w : World} (hc : Cur w g) : PolD g n d w (w.alloc (.cells #[] 56)) (.slice (some ⟨w.heap.size, 0, none⟩) 0 0) [] :=
  ⟨⟨_, _, rfl⟩, by simpa [rowS] using World.ownsRow_lit (base := 0) (e := 56) (size := 2) w #[] 0 (Nat.zero_le _) (Nat.zero_le _) rfl, by simp, by simp [Value.ownBlock], by simp [Value.ownBlock], canon_nil, by simp, (Drawn.refl hc).below ((Below.refl _ _).alloc (Nat.le_refl _) _)⟩
/-- One monomial more is put. -/
theorem polPut_any {g n zl cap gp : Nat} {d : Int} {W w : World} {Z : List ElS} (h : PolD g n d W w (.slice (some ⟨gp, 0, none⟩) zl cap) Z) (hzl : zl = Z.length) (hl : zl ≤ 1000) (x : ElS) (ho : OwnI 3 w x.v x.ps x.f) (hc : 0 ≤ x.c ∧ x.c ≤ 1000000270)
    (hf : ∀ b ∈ x.f, W.heap.size ≤ b ∧ b ∉ Z.flatMap ElS.f) (hm : MonIn n d (monS x)) :
    Calls Tryz.prog 102 #[.slice (some ⟨gp, 0, none⟩) zl cap, .agg #[.int .i64 x.c, x.v]] w fun e w' => ∃ gg cap', e = .returned (.slice (some ⟨gg, 0, none⟩) (putE Z x).length cap') ∧ PolD g n d W w' (.slice (some ⟨gg, 0, none⟩) (putE Z x).length cap') (putE Z x) ∧ (putE Z x).length ≤ zl + 1 := by
  subst hzl
  refine (put_any gp Z.length cap Z x w h.row (fun z hz => ⟨ownI_rd (h.els z hz).2, (h.els z hz).1⟩) (ownI_rd ho) (by omega)).mono ?_
  rintro e w' ⟨gg, cap', rfl, hgg, hrow, hb⟩
  have hIx : I64 x.c := ⟨by omega, by omega⟩
  have hmem : ∀ z ∈ putE Z x, z ∈ Z ∨ ∃ d, I64 d ∧ z = { x with c := d } := fun z hz => putAE_mem _ _ _ _ z hIx (List.mem_filter.1 hz).1
  have hnd := h.nd
  rw [List.nodup_append] at hnd
  obtain ⟨q1, q2⟩ := putE_nodup (Z := Z) (x := x) (by
    rw [List.nodup_append]
    exact ⟨hnd.2.1, ownI_nodup ho, fun a ha b hb' e => (hf b hb').2 (e ▸ ha)⟩)
  have hlt : ∀ b ∈ (putE Z x).flatMap ElS.f, W.heap.size ≤ b ∧ b < w.heap.size := fun b hb' => by
    rcases q2 b hb' with h1 | h1
    · refine ⟨h.new b (by simp only [List.mem_append]; exact .inr h1), ?_⟩
      obtain ⟨z, hz, hzb⟩ := List.mem_flatMap.1 h1
      exact ownI_lt (h.els z hz).2 b hzb
    · exact ⟨(hf b h1).1, ownI_lt ho b h1⟩
  have hWw := h.drawn.only.size
  refine ⟨gg, cap', rfl, ⟨⟨gg, cap', rfl⟩, hrow, fun z hz => ?_, ?_, fun b hb' => ?_, ?_, fun z hz => ?_, h.drawn.below hb⟩, ?_⟩
  · rcases hmem z hz with hz | ⟨d, hd, rfl⟩
    · exact ⟨(h.els z hz).1, ownI_only (h.els z hz).2 (Only.of_below (fp := []) hb) (by simp)⟩
    · exact ⟨hd, ownI_only ho (Only.of_below (fp := []) hb) (by simp)⟩
  · simp only [Value.ownBlock, Option.toList]
    rw [List.singleton_append, List.nodup_cons]
    exact ⟨fun hm' => by have := (hlt gg hm').2; omega, q1⟩
  · simp only [Value.ownBlock, Option.toList, List.singleton_append, List.mem_cons] at hb'
    rcases hb' with rfl | hb'
    · omega
    · exact (hlt b hb').1
  · rw [putE_map]
    exact (putL_canon h.canon (m := monS x) hc).1
  · rcases hmem z hz with hz | ⟨d, hd, rfl⟩
    · exact h.mons z hz
    · exact hm
  · have h1 := putAE_len x Z x.c false
    have h2 : (putE Z x).length ≤ (putAE x Z x.c false).length := List.length_filter_le _ _
    omega
/-- It is a slice of monomials. -/
theorem PolD.own {g n : Nat} {d : Int} {W w : World} {v : Value} {Z : List ElS} (h : PolD g n d W w v Z) : OwnMs 56 3 w v (Z.map monS) (v.ownBlock.toList ++ Z.flatMap ElS.f) := s_ownMs h.row h.els h.nd

/-- A monomial that is being made: its box, and its powers. -/
structure MBD (g n : Nat) (W w : World) (B gm : Nat) (c : Int) (ps : List Int) : Prop where
  own : OwnI 3 w (.slice (some ⟨gm, 0, none⟩) n n) ps [gm]
  c0 : w.cell? ⟨B, 0, none⟩ = some (.int .i64 c)
  c1 : w.cell? ⟨B, 1, none⟩ = some (.slice (some ⟨gm, 0, none⟩) n n)
  ne : gm ≠ B
  nB : W.heap.size ≤ B
  nm : W.heap.size ≤ gm
  drawn : Drawn g W w
theorem MBD.only {g n B gm : Nat} {c : Int} {ps : List Int} {W w w' : World} (h : MBD g n W w B gm c ps) (hd : Drawn g w w') (hg : g < W.heap.size) : MBD g n W w' B gm c ps := by
  have hB := h.nB
  have hm := h.nm
  exact ⟨ownI_only h.own hd.only (by simp; omega), cell_only hd.only (by simp; omega) h.c0, cell_only hd.only (by simp; omega) h.c1, h.ne, hB, hm, h.drawn.trans hd⟩
theorem MBD.bel {g n B gm : Nat} {c : Int} {ps : List Int} {W w w' : World} (h : MBD g n W w B gm c ps) (hb : Below w.heap.size w w') : MBD g n W w' B gm c ps :=
  ⟨ownI_only h.own (Only.of_below (fp := []) hb) (by simp), cell_below hb h.c0, cell_below hb h.c1, h.ne, h.nB, h.nm, h.drawn.below hb⟩
/-- A power is stored. -/
theorem MBD.set {g n B gm k : Nat} {c x y : Int} {ps : List Int} {W w : World} (h : MBD g n W w B gm c ps) (hx : ps[k]? = some x) (hy : I64 y) (hg : g < W.heap.size) :
    w.cell? ⟨gm, k, none⟩ = some (.int .i64 x) ∧ w.frozen? ⟨gm, k, none⟩ = false ∧ MBD g n W (w.setCell ⟨gm, k, none⟩ (.int .i64 y)) B gm c (ps.set k y) := by
  obtain ⟨ad, len, cap, he, hl, _, _, hown, _, _⟩ := ownI_open h.own
  simp only [Value.slice.injEq] at he
  obtain ⟨rfl, rfl, rfl⟩ := he
  obtain ⟨h1, h2, h3, _⟩ := own_set hown (Below.refl 0 w) hx (Nat.zero_le _) y
  have hS : Only [gm] w (w.setCell ⟨gm, k, none⟩ (.int .i64 y)) := (Only.refl _ _).setCell (by simp) _
  have hB : B ∉ [gm] := by have := h.ne; simp; omega
  refine ⟨h1, h2, ⟨⟨by rw [List.length_set, hl]; exact h3, rfl, fun z hz => ?_⟩, cell_only hS hB h.c0, cell_only hS hB h.c1, h.ne, h.nB, h.nm, h.drawn.newer hg hS (by have := h.nm; simpa using this)⟩⟩
  rcases List.mem_or_eq_of_mem_set hz with hz | rfl
  · exact h.own.2.2 z hz
  · exact hy
/-- What is made of a store into a fresh box. -/
theorem MBD.put {g n B gm : Nat} {c : Int} {v0 : Value} {ps : List Int} {W w : World} (ho : OwnI 3 w (.slice (some ⟨gm, 0, none⟩) n n) ps [gm]) (h0 : w.cell? ⟨B, 0, none⟩ = some v0) (h1 : ∃ x, w.cell? ⟨B, 1, none⟩ = some x) (hne : gm ≠ B) (hB : W.heap.size ≤ B) (hm : W.heap.size ≤ gm) (hD : Drawn g W w) (hg : g < W.heap.size) :
    MBD g n W ((w.setCell ⟨B, 0, none⟩ (.int .i64 c)).setCell ⟨B, 1, none⟩ (.slice (some ⟨gm, 0, none⟩) n n)) B gm c ps := by
  have hS : Only [B] w ((w.setCell ⟨B, 0, none⟩ (.int .i64 c)).setCell ⟨B, 1, none⟩ (.slice (some ⟨gm, 0, none⟩) n n)) := ((Only.refl _ _).setCell (by simp) _).setCell (by simp) _
  obtain ⟨x1, h1⟩ := h1
  refine ⟨ownI_only ho hS (by simpa using hne), ?_, ?_, hne, hB, hm, hD.newer hg hS (by simpa using hB)⟩
  · rw [World.cell?_setCell_other _ _ _ _ (by simp)]
    exact World.cell?_setCell_same _ _ _ h0
  · exact World.cell?_setCell_same _ _ _ ((World.cell?_setCell_other _ _ _ _ (by simp)).trans h1)
theorem sum_set {ps : List Int} {k : Nat} {x : Int} (h : ps[k]? = some x) : (ps.set k (x + 1)).sum = ps.sum + 1 := by
  induction ps generalizing k with
  | nil => simp at h
  | cons p ps ih =>
    cases k with
    | zero => simp at h; subst h; simp only [List.set_cons_zero, List.sum_cons]; omega
    | succ k => simp at h; simp only [List.set_cons_succ, List.sum_cons, ih h]; omega
end Go.Proofs.YtbcjhpgkodeoeaaGreatDoor
