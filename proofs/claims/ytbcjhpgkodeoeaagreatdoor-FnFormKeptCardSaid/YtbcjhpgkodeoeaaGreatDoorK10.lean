/- The texts Jet2, Turn, Mul in one: each says at its head what it proves. Conditions: as said there. -/
import Derived.Test.YtbcjhpgkodeoeaaGreatDoorK09
set_option linter.unusedSimpArgs false
set_option linter.unusedVariables false
/- Jets: the path of jets; sums of jets; the reference's turning and adding. Conditions: lengths of a few. -/
namespace Go.Proofs.YtbcjhpgkodeoeaaGreatDoor
open Go.RowKit Go.Sort

set_option maxRecDepth 100000 in
set_option maxHeartbeats 1600000 in
theorem points_any (v : Value) (xs : List (List Int)) (n : Nat) (w : World) (h : RdII w v xs) (hn : n ≤ 7) (hx7 : xs.length ≤ 7) (hrow : ∀ y ∈ xs, y.length = n) :
    Calls Tryz.prog 58 #[v, .int .i64 n] w (Gives (fun w' v fp => OwnII 35 3 w' v (turnZ xs n) fp) w) := by
  obtain ⟨ad, len, cap, rfl, hl, hlc, hcm, h'⟩ := rdS_open h
  have HL := Lib.hid hl
  have HR := Lib.hid hrow
  rw [hl] at hx7
  clear h hl hrow
  obtain ⟨i0, hi, hz0, hz1, hz2⟩ := info_parts Tryz.info_ints
  have hib : i0.bytes * n ≤ 281474976710656 := by rw [hz2]; omega
  go_enter Tryz.func58, Tryz.ntmps58
  go_wp2_with (first
    | (at_make; refine wpList_make_full _ rfl _ _ 25 rfl 0 35 i0 (.slice none 0 0) 1 Tryz.underlying25 hi hz0 hz1 .i64 .i64 _ _ n rfl rfl rfl rfl hib (by unfold maxLen; omega) (Nat.zero_le _) ?_; intro w1 hown1 hgrow1))
  have hbl : Below w.heap.size w w1 := (Below.refl _ _).grown hgrow1 (Nat.le_refl _) (fun k hk => by cases hk)
  have hm0 : (madeCells (Value.slice none 0 0).cells (n * 1)).toList = List.replicate n (.slice none 0 0) := by
    rw [Nat.mul_one]; exact toList_madeCells_one _ _
  rw [hm0] at hown1
  have HD0 := Lib.hid (show ColsD 35 3 w.heap.size n n w w1 [] [] [] n from ⟨by simpa using hown1, by simp, by simp, rfl, by simp, by simp, hbl, Nat.le_refl _⟩)
  clear hm0 hgrow1 hi hz0 hz1 hz2 hib hown1 hbl
  obtain ⟨j0, hj, hy0, hy1, hy2⟩ := info_parts Tryz.info_int
  go_loopw [13] (fun i wr => ∃ (k : Nat) (us : List (List Value)) (fs : List Nat), k ≤ n ∧ i = .int .i64 k ∧ ColsD 35 3 w.heap.size n n w wr ((turnZ xs n).take k) us fs (n - k)) (fun i _ => n - (intOf i).toNat)
  case atStart => exact ⟨0, [], [], Nat.zero_le _, rfl, by simpa using HD0.out⟩
  case round =>
    obtain ⟨k, us, fs, hk, rfl, hD⟩ := hrel
    have htl : (turnZ xs n).length = n := by simp [turnZ]
    by_cases hlt : k < n
    case neg =>
      obtain rfl : k = n := by omega
      rw [Nat.sub_self, List.take_of_length_le (by omega)] at hD
      go_wp2
      go_ret
      exact ⟨_, _, rfl, hD.done.1, hD.done.2, hD.below⟩
    obtain ⟨r, hr⟩ : ∃ r, n - k = r + 1 := ⟨n - k - 1, by omega⟩
    rw [hr] at hD
    have HC0 := Lib.hid hD.open
    have HRR := Lib.hid hr
    have HTL := Lib.hid htl
    clear hD hr htl
    go_wp2
    go_loopw [18] (fun j wq => ∃ (q : Nat) (u : Value) (f : List Nat), q ≤ len ∧ j = .int .i64 q ∧ Cols 35 3 w.heap.size n n w wq ((turnZ xs n).take k) us fs u ((colZ xs k).take q) f r) (fun j _ => len - (intOf j).toNat)
    case atStart => exact ⟨0, _, [], Nat.zero_le _, rfl, by simpa using HC0.out⟩
    case round =>
      obtain ⟨q, u, f, hq, rfl, hC⟩ := hrel
      have hcl : (colZ xs k).length = len := by rw [colZ, List.length_map, HL.out]
      by_cases hql : q < len
      case neg =>
        obtain rfl : q = len := by omega
        rw [List.take_of_length_le (l := colZ xs k) (by omega)] at hC
        have HE := Lib.hid hC.close
        clear hC hcl HC0
        go_wp2
        go_roundw
        case rel =>
          have e1 : (turnZ xs n).take (k + 1) = (turnZ xs n).take k ++ [colZ xs k] := take_snoc (by simp [turnZ, hlt])
          have e2 : n - (k + 1) = r := by have := HRR.out; omega
          exact ⟨k + 1, _, _, by omega, by go_num, by rw [e1, e2]; exact HE.out⟩
        case measure => simp [intOf]; omega
      obtain ⟨b, off, ad2, len2, cap2, y, rfl, hy, hcc0, h6, h7, h8, h9, hbs⟩ := rdII_get h' hql
      have hyn : y.length = n := HR.out y (List.mem_of_getElem? hy)
      obtain ⟨b3, off3, z, rfl, hz, hcz0, hIz, hb3⟩ := rdI_get h9 (k := k) (by omega)
      have hcc := cell_below hC.below hcc0
      have hcz := cell_below hC.below hcz0
      have hcol : (colZ xs k)[q]? = some z := by simp [colZ, hy, hz]
      have hk2 : k < len2 := by omega
      have hkl : ((turnZ xs n).take k).length = k := by rw [List.length_take, HTL.out]; omega
      obtain ⟨hu1, hu2⟩ := hC.cell
      rw [hkl] at hu1 hu2
      obtain ⟨adu, lenu, capu, rfl, hlu, hluc, hcum, hownu, _, _⟩ := ownI_open hC.cur
      have hlq : lenu = q := by rw [← hlu, List.length_take, hcl]; omega
      rw [hlq] at hownu hluc hu1
      have HLQ := Lib.hid hlq
      have hyl : ((colZ xs k).take q).length = q := by rw [List.length_take, hcl]; omega
      have hg1 : (Value.slice adu q capu).ownBlock ≠ some w.heap.size := fun hm => by
        have h1 := hC.cur.2.1
        rw [hlq, hm] at h1
        exact (hC.new w.heap.size (by simp [h1])).2 rfl
      have hg2 : (Value.slice adu q capu).ownBlock ≠ some b3 := fun hm => by
        have h1 := hC.cur.2.1
        rw [hlq, hm] at h1
        have := (hC.new b3 (by simp [h1])).1
        omega
      have hws := hC.below.size
      have hws2 : w.heap.size < wr.heap.size := (hC.row.lt _ rfl).2
      have hfb : f = (Value.slice adu q capu).ownBlock.toList := by have := hC.cur.2.1; rwa [hlq] at this
      have hal : Below wr.heap.size wr ((wr.alloc (.cells #[.int .i64 z] 3)).drew) := ((Below.refl _ _).alloc (Nat.le_refl _) _).drew
      rw [hlq] at hC
      have HP := Lib.hid (fun (w1 : World) (gg capn : Nat) (hown1 : w1.ownsRow 0 3 1 (.slice (some ⟨gg, 0, none⟩) (q + 1) capn) (q + 1) (((colZ xs k).take q).map (Value.int .i64) ++ [.int .i64 z]))
          (hgrow : ((wr.alloc (.cells #[.int .i64 z] 3)).drew).grownBy w1 (Value.slice adu q capu).ownBlock) (hat : (Value.slice adu q capu).ownBlock = some gg ∨ gg = wr.heap.size + 1) =>
        hC.push hIz hal (by rw [hyl]; exact hown1) hgrow (fun b hb => by
          simp [Value.ownBlock] at hb
          subst hb
          rcases hat with hat | hat
          · left; rw [hfb, hat]; simp
          · right; rw [hat]; show ((wr.alloc _).drew).heap.size ≤ _; simp [World.drew]))
      have HCOL := Lib.hid hcol
      have HKL := Lib.hid hkl
      have HNU := Lib.hid hownu
      clear hz hy h6 hyn hcol hkl hC hlu hcl HC0 hcc0 hyl hfb hlq HLQ hal hownu
      go_wp2
      go_region_law (first | (refine step_append_lies _ (by rfl) _ _ _ (by rfl) 0 3 j0 _ 1 8 Tryz.underlying35 hj hy0 hy1 hy2 rfl (by omega) (.slice adu q capu) q _ (by rfl) ((HNU.out.alloc _).drew) ⟨wr.heap.size, 0, none⟩ 1 1 [.int .i64 z] (by rfl) (by rfl) (World.news_of_block (cs := #[.int .i64 z]) (t := 3) (fr := (0, 0)) (heap_alloc_new wr _)) (by simp [Value.oneCell']) (by omega) (by unfold maxLen; omega) (by omega) (by simp) (wr.heap.size + 1) (by simp) ?_; intro gg capn w1 hown1 hgrow hat hlt1; have hpp := HP.out w1 gg capn hown1 hgrow hat; rw [HKL.out] at hpp; obtain ⟨hp1, hp2, hp3, f', hP⟩ := hpp; have hp4 := cell_below hp3 hcz0; have HPP := Lib.hid hP; clear hP))
      all_goals
        go_wp2
        go_roundw
        case rel => exact ⟨q + 1, _, _, by omega, by go_num, by rw [take_snoc HCOL.out]; exact HPP.out⟩
        case measure => simp [intOf]; omega

def addJ (xs ys : List Int) (k : Int) : List Int := (List.range xs.length).map fun i => plusZ (atZ xs i) (timesZ (atZ ys i) k)
theorem addJ_len (xs ys : List Int) (k : Int) : (addJ xs ys k).length = xs.length := by simp [addJ]
theorem addJ_get {xs ys : List Int} {k : Int} {i : Nat} {x y : Int} (hx : xs[i]? = some x) (hy : ys[i]? = some y) : (addJ xs ys k)[i]? = some (plusZ x (timesZ y k)) := by
  have := (List.getElem?_eq_some_iff.1 hx).1
  simp [addJ, this, atZ_get hx, atZ_get hy]
theorem addJ_i64 (xs ys : List Int) (k : Int) : ∀ x ∈ addJ xs ys k, I64 x := by
  intro x hx
  simp only [addJ, List.mem_map] at hx
  obtain ⟨i, _, rfl⟩ := hx
  exact i64_of_bd (plusZ_bd _ _)

set_option maxRecDepth 100000 in
set_option maxHeartbeats 1600000 in
theorem plusJ_any (va vb : Value) (xs ys : List Int) (k0 : Int) (w : World) (ha : RdI w va xs) (hb : RdI w vb ys) (hl : xs.length ≤ ys.length) (hn : xs.length ≤ 1048576) :
    Calls Tryz.prog 68 #[va, vb, .int .i64 k0] w (Gives (fun w' v fp => OwnI 3 w' v (addJ xs ys k0) fp) w) := by
  obtain ⟨ad, len, cap, rfl, hl1, hlc, hcm, h'⟩ := rdS_open ha
  obtain ⟨ad2, len2, cap2, rfl, hl2, hlc2, hcm2, h2'⟩ := rdS_open hb
  rw [hl1] at hl hn
  rw [hl2] at hl
  have HL := Lib.hid hl1
  clear ha hb hl1 hl2
  obtain ⟨i0, hi, hz0, hz1, hz2⟩ := info_parts Tryz.info_int
  have hib : i0.bytes * len ≤ 281474976710656 := by rw [hz2]; omega
  go_enter Tryz.func68, Tryz.ntmps68
  go_wp2_with (first
    | (at_make; refine wpList_make_full _ rfl _ _ 89 rfl w.heap.size 3 i0 (.int .i64 0) 1 Tryz.underlying89 hi hz0 hz1 .i64 .i64 _ _ len rfl rfl rfl rfl hib (by unfold maxLen; omega) (Nat.le_refl _) ?_; intro w1 hown1 hgrow1))
  have hm0 : (madeCells (Value.int .i64 0).cells (len * 1)).toList = List.replicate len (.int .i64 0) := by
    rw [Nat.mul_one]; exact toList_madeCells_one _ _
  rw [hm0] at hown1
  have hbl : Below w.heap.size w w1 := (Below.refl _ _).grown hgrow1 (Nat.le_refl _) (fun k hk => by cases hk)
  clear hm0 hgrow1 hi hz0 hz1 hz2 hib
  go_loopw [14] (fun i wr => ∃ k : Nat, k ≤ len ∧ i = .int .i64 k ∧ wr.ownsRow w.heap.size 3 1 (.slice (some ⟨w.heap.size, 0, none⟩) len len) len (((addJ xs ys k0).take k).map (Value.int .i64) ++ List.replicate (len - k) (.int .i64 0)) ∧ Below w.heap.size w wr)
    (fun i _ => len - (intOf i).toNat)
  case atStart => exact ⟨0, Nat.zero_le _, rfl, by simpa using hown1, hbl⟩
  case round =>
    obtain ⟨k, hk, rfl, hown, hb⟩ := hrel
    clear hown1 hbl
    by_cases hlt : k < len
    · have h'r := rdI_mono hb h'
      have h2'r := rdI_mono hb h2'
      obtain ⟨b, off, x, rfl, hx, hc, hI, hbs⟩ := rdI_get h'r hlt
      obtain ⟨b2, off2, y, rfl, hy, hc2, hI2, hbs2⟩ := rdI_get h2'r (k := k) (by omega)
      have hk2 : k < len2 := by omega
      obtain ⟨⟨u, hcN⟩, hfz, hset⟩ := own_fill hown hb (addJ_get (k := k0) hx hy) (by rw [addJ_len, HL.out]) (Nat.le_refl _)
      have HS := Lib.hid hset
      clear hset hx hy hown
      go_wp2
      (refine wp_region_still_tail 14 (by kernel_rfl) (by kernel_rfl) ?_; simp only [List.take_succ_cons, List.take_zero, List.drop_succ_cons, List.drop_zero]; (repeat (first | still_step | still_call (still_of (times_any _ _ _)) | still_call (still_of (plus_any _ _ _)))); refine wpStill_nil ?_; change wpList _ _ _ _ _ (World.drew _))
      go_wp2
      go_roundw
      case rel => exact ⟨k + 1, by omega, by go_num, World.ownsRow.drew HS.out.1, HS.out.2.drew⟩
      case measure => simp [intOf]; omega
    · go_wp2
      go_ret
      exact ⟨_, [w.heap.size], rfl, own_i64 hown (by rw [addJ_len, HL.out]) (by omega) (addJ_i64 _ _ _), by simp, hb⟩

end Go.Proofs.YtbcjhpgkodeoeaaGreatDoor

/- The reference's turning of a path. Conditions: lengths of a few. -/
namespace Go.Proofs.YtbcjhpgkodeoeaaGreatDoor
open Go.RowKit Go.Sort

/-- A row is appended onto rows of the call's own. -/
theorem ownII_push {e1 e : Nat} {W wr wq w1 w2 : World} {v v' p : Value} {xs : List (List Int)} {ys : List Int} {f : List Nat} {us : List (List Value)} {fs : List Nat} {n : Nat}
    (hone : ∀ u ∈ us, u.length = 1) (hels : OwnEls (OElII e) wr us xs fs) (hnd : (v.ownBlock.toList ++ fs).Nodup) (hown0 : wr.ownsRow 0 e1 1 v xs.length us.flatten) (hn : xs.length = n)
    (hp : OwnI e wq p ys f) (hf : ∀ b ∈ f, wr.heap.size ≤ b) (hfp : ∀ b ∈ v.ownBlock.toList ++ fs, W.heap.size ≤ b) (hW : Below W.heap.size W wr) (hq : Below wr.heap.size wr wq)
    (h1 : Below wq.heap.size wq w1) (hown : w2.ownsRow 0 e1 1 v' (n + 1) (us.flatten ++ [p])) (hg : w1.grownBy w2 v.ownBlock) (hv : ∀ b, v'.ownBlock = some b → v.ownBlock = some b ∨ w1.heap.size ≤ b) :
    ∃ fp', OwnII e1 e w2 v' (xs ++ [ys]) fp' ∧ (∀ b ∈ fp', W.heap.size ≤ b) ∧ Below W.heap.size W w2 := by
  have hlt : ∀ b ∈ v.ownBlock.toList ++ fs, b < wr.heap.size := fun b hb => by
    simp only [List.mem_append, Option.mem_toList] at hb
    rcases hb with hb | hb
    · exact (hown0.lt b hb).2
    · exact ownEls_lt (fun _ _ _ h => oelII_lt h) hels b hb
  have hfn : f.Nodup := by rw [hp.2.1]; cases p.ownBlock <;> simp
  refine ownS_push (El := OElII e) (W := W) (w := wq) (w1 := w1) (f := f) (fs := fs) (fun w w' u x f g h ho hd => oelII_only h ho hd) hone (ownEls_only (fun u x f' h hd => oelII_only h (Only.of_below (fp := []) hq) hd) hels (by simp)) hnd ⟨p, rfl, hp⟩ rfl
    (fun b hb hm => by have := hf b hb; have := hlt b hm; omega) hfn (ownI_lt hp) (fun b hb => by have := hlt b (by simp [hb]); have := hq.size; omega) hn (fun b hb => ?_) (hW.trans (hq.mono hW.size)) h1 hown hg hv
  rw [List.mem_append] at hb
  rcases hb with hb | hb
  · exact hfp b hb
  · have := hf b hb
    have := hW.size
    omega

end Go.Proofs.YtbcjhpgkodeoeaaGreatDoor

/- Products of polynomials in h, up to the power that they have. Conditions: numbers; lengths of a few. -/
namespace Go.Proofs.YtbcjhpgkodeoeaaGreatDoor
open Go.RowKit Go.Sort

def Nums (xs : List Int) : Prop := ∀ x ∈ xs, 0 ≤ x ∧ x ≤ 1000000270
theorem nums_at {xs : List Int} {k : Nat} {x : Int} (h : Nums xs) (hx : xs[k]? = some x) : 0 ≤ x ∧ x ≤ 1000000270 := h x (List.mem_of_getElem? hx)
theorem nums_set {xs : List Int} {k : Nat} {x : Int} (h : Nums xs) (hx : 0 ≤ x ∧ x ≤ 1000000270) : Nums (xs.set k x) := fun y hy => by
  rcases List.mem_or_eq_of_mem_set hy with hy | rfl
  · exact h y hy
  · exact hx
theorem nums_zero (n : Nat) : Nums (List.replicate n 0) := fun x hx => by rw [List.eq_of_mem_replicate hx]; omega
theorem nums_add (xs ys : List Int) (k : Int) : Nums (addJ xs ys k) := fun x hx => by
  simp only [addJ, List.mem_map] at hx
  obtain ⟨i, _, rfl⟩ := hx
  exact plusZ_bd _ _

/-- One row of a product: j steps. -/
def mulRow (out a b : List Int) (i : Nat) : Nat → List Int
  | 0 => out
  | j + 1 => (mulRow out a b i j).set (i + j) (plusZ (atZ (mulRow out a b i j) (i + j)) (timesZ (atZ a i) (atZ b j)))
def mulCol (a b : List Int) : Nat → List Int
  | 0 => List.replicate a.length 0
  | i + 1 => mulRow (mulCol a b i) a b i (a.length - i)
def mulZ (a b : List Int) : List Int := mulCol a b a.length

theorem mulRow_len (out a b : List Int) (i j : Nat) : (mulRow out a b i j).length = out.length := by
  induction j with
  | zero => rfl
  | succ j ih => rw [mulRow, List.length_set, ih]
theorem mulCol_len (a b : List Int) (i : Nat) : (mulCol a b i).length = a.length := by
  induction i with
  | zero => simp [mulCol]
  | succ i ih => rw [mulCol, mulRow_len, ih]
theorem mulZ_len (a b : List Int) : (mulZ a b).length = a.length := mulCol_len a b _
theorem mulRow_nums {out : List Int} (h : Nums out) (a b : List Int) (i j : Nat) : Nums (mulRow out a b i j) := by
  induction j with
  | zero => exact h
  | succ j ih => exact nums_set ih (plusZ_bd _ _)
theorem mulCol_nums (a b : List Int) (i : Nat) : Nums (mulCol a b i) := by
  induction i with
  | zero => exact nums_zero _
  | succ i ih => exact mulRow_nums ih a b i _
theorem mulZ_nums (a b : List Int) : Nums (mulZ a b) := mulCol_nums a b _
theorem mulRow_nil {out a : List Int} (h : Nums out) (b : List Int) {i : Nat} (hi : a[i]? = some 0) (j : Nat) : mulRow out a b i j = out := by
  induction j with
  | zero => rfl
  | succ j ih =>
    rw [mulRow, ih, atZ_get hi]
    by_cases hlt : i + j < out.length
    · have hx : out[i + j]? = some out[i + j] := List.getElem?_eq_getElem hlt
      have hn := nums_at h hx
      have : plusZ (atZ out (i + j)) (timesZ 0 (atZ b j)) = out[i + j] := by
        rw [atZ_get hx]
        simp only [plusZ, timesZ, Int.zero_mul]
        omega
      rw [this, List.set_getElem_self]
    · exact List.set_eq_of_length_le (by omega)
theorem mulCol_skip (a b : List Int) {i : Nat} (hi : a[i]? = some 0) : mulCol a b (i + 1) = mulCol a b i := mulRow_nil (mulCol_nums a b i) b hi _

theorem own_set {w W : World} {B g e : Nat} {n cap k : Nat} {xs : List Int} {x : Int} (h : w.ownsRow B e 1 (.slice (some ⟨g, 0, none⟩) n cap) n (xs.map (Value.int .i64))) (hb : Below B W w) (hx : xs[k]? = some x) (hg : B ≤ g) (y : Int) :
    w.cell? ⟨g, k, none⟩ = some (.int .i64 x) ∧ w.frozen? ⟨g, k, none⟩ = false ∧ (w.setCell ⟨g, k, none⟩ (.int .i64 y)).ownsRow B e 1 (.slice (some ⟨g, 0, none⟩) n cap) n ((xs.set k y).map (Value.int .i64)) ∧ Below B W (w.setCell ⟨g, k, none⟩ (.int .i64 y)) := by
  have hk : k < xs.length := (List.getElem?_eq_some_iff.1 hx).1
  have hl := h.1
  have hs := (h.stored k (.int .i64 y)).1
  refine ⟨?_, h.frozenAt k, by rw [List.map_set]; exact hs, hb.setCell hg _⟩
  rw [h.cellAt k (by simp at hl; omega)]
  simp [hx]

theorem mulStep {o x y : Int} (ho : 0 ≤ o) (hm : 0 ≤ x * y) : (o + x * y).tmod 1000000271 = plusZ o (timesZ x y) := by
  rw [Int.tmod_eq_emod_of_nonneg (by omega)]
  unfold plusZ timesZ
  generalize x * y = m at hm ⊢
  omega

set_option maxRecDepth 100000 in
set_option maxHeartbeats 1600000 in
theorem timesJ_any (va vb : Value) (xs ys : List Int) (w : World) (ha : RdI w va xs) (hb : RdI w vb ys) (hl : xs.length ≤ ys.length) (hn : xs.length ≤ 7) (hxn : Nums xs) (hyn : Nums ys) :
    Calls Tryz.prog 69 #[va, vb] w (Gives (fun w' v fp => OwnI 3 w' v (mulZ xs ys) fp) w) := by
  obtain ⟨ad, len, cap, rfl, hl1, hlc, hcm, h'⟩ := rdS_open ha
  obtain ⟨ad2, len2, cap2, rfl, hl2, hlc2, hcm2, h2'⟩ := rdS_open hb
  rw [hl1] at hl hn
  rw [hl2] at hl
  have HL := Lib.hid hl1
  clear ha hb hl1 hl2
  obtain ⟨i0, hi, hz0, hz1, hz2⟩ := info_parts Tryz.info_int
  have hib : i0.bytes * len ≤ 281474976710656 := by rw [hz2]; omega
  go_enter Tryz.func69, Tryz.ntmps69
  go_wp2_with (first
    | (at_make; refine wpList_make_full _ rfl _ _ 89 rfl w.heap.size 3 i0 (.int .i64 0) 1 Tryz.underlying89 hi hz0 hz1 .i64 .i64 _ _ len rfl rfl rfl rfl hib (by unfold maxLen; omega) (Nat.le_refl _) ?_; intro w1 hown1 hgrow1))
  have hm0 : (madeCells (Value.int .i64 0).cells (len * 1)).toList = (List.replicate len (0 : Int)).map (Value.int .i64) := by
    rw [Nat.mul_one, List.map_replicate]; exact toList_madeCells_one _ _
  rw [hm0] at hown1
  have hbl : Below w.heap.size w w1 := (Below.refl _ _).grown hgrow1 (Nat.le_refl _) (fun k hk => by cases hk)
  clear hm0 hgrow1 hi hz0 hz1 hz2 hib
  go_loopw [14] (fun i wr => ∃ k : Nat, k ≤ len ∧ i = .int .i64 k ∧ wr.ownsRow w.heap.size 3 1 (.slice (some ⟨w.heap.size, 0, none⟩) len len) len ((mulCol xs ys k).map (Value.int .i64)) ∧ Below w.heap.size w wr)
    (fun i _ => len - (intOf i).toNat)
  case atStart => exact ⟨0, Nat.zero_le _, rfl, by rw [mulCol, HL.out]; exact hown1, hbl⟩
  case round =>
    obtain ⟨k, hk, rfl, hown, hb⟩ := hrel
    clear hown1 hbl
    by_cases hlt : k < len
    case neg =>
      obtain rfl : k = len := by omega
      go_wp2
      go_ret
      have hml := mulZ_len xs ys
      rw [HL.out] at hml
      have ho : wr.ownsRow 0 3 1 (.slice (some ⟨w.heap.size, 0, none⟩) k k) (mulZ xs ys).length ((mulZ xs ys).map (Value.int .i64)) := by
        rw [hml, mulZ, HL.out]
        obtain ⟨h1, h2⟩ := hown
        refine ⟨h1, ?_⟩
        rcases h2 with h2 | ⟨g, cap, cur, hv, hg, r⟩
        · exact .inl h2
        · exact .inr ⟨g, cap, cur, hv, Nat.zero_le _, r⟩
      exact ⟨_, [w.heap.size], rfl, ⟨ho, rfl, fun x hx => i64_of_bd (mulZ_nums xs ys x hx)⟩, by simp, hb⟩
    have h'r := rdI_mono hb h'
    obtain ⟨b, off, x, rfl, hx, hc, hI, hbs⟩ := rdI_get h'r hlt
    obtain ⟨hx0, hx1⟩ := nums_at hxn hx
    clear hI
    by_cases hx00 : x = 0
    case pos =>
      subst hx00
      have HS := Lib.hid (mulCol_skip xs ys hx)
      have HOWN := Lib.hid hown
      clear hx hown
      go_wp2
      go_roundw
      case rel => exact ⟨k + 1, by omega, by go_num, by rw [HS.out]; exact HOWN.out, hb⟩
      case measure => simp [intOf]; omega
    have hxb : (x == 0) = false := by simpa using hx00
    have HOWN := Lib.hid hown
    have HX := Lib.hid hx
    have HB := Lib.hid hb
    clear hown hx h'r hb
    go_wp2
    go_loopw [8] (fun j wq => ∃ q : Nat, k + q ≤ len ∧ j = .int .i64 q ∧ wq.ownsRow w.heap.size 3 1 (.slice (some ⟨w.heap.size, 0, none⟩) len len) len ((mulRow (mulCol xs ys k) xs ys k q).map (Value.int .i64)) ∧ Below w.heap.size w wq) (fun j _ => len - k - (intOf j).toNat)
    case atStart => exact ⟨0, by omega, rfl, HOWN.out, HB.out⟩
    case round =>
      obtain ⟨q, hq, rfl, hown, hbq⟩ := hrel
      clear HOWN
      by_cases hql : k + q < len
      case neg =>
        obtain rfl : q = len - k := by omega
        have e1 : mulCol xs ys (k + 1) = mulRow (mulCol xs ys k) xs ys k (len - k) := by rw [mulCol, HL.out]
        rw [← e1] at hown
        have HE := Lib.hid hown
        clear hown e1
        go_wp2
        go_roundw
        case rel => exact ⟨k + 1, by omega, by go_num, HE.out, hbq⟩
        case measure => simp [intOf]; omega
      have h2'r := rdI_mono hbq h2'
      obtain ⟨b2, off2, y, rfl, hy, hc2, hI2, hbs2⟩ := rdI_get h2'r (k := q) (by omega)
      obtain ⟨hy0, hy1⟩ := nums_at hyn hy
      have hlen : (mulRow (mulCol xs ys k) xs ys k q).length = len := by rw [mulRow_len, mulCol_len, HL.out]
      obtain ⟨o, ho⟩ : ∃ o, (mulRow (mulCol xs ys k) xs ys k q)[k + q]? = some o := ⟨_, List.getElem?_eq_getElem (by omega)⟩
      obtain ⟨ho0, ho1⟩ := nums_at (mulRow_nums (mulCol_nums xs ys k) xs ys k q) ho
      obtain ⟨hm0, hm1⟩ := mul_bd hx0 hx1 hy0 hy1
      have hst := mulStep ho0 hm0
      obtain ⟨hco, hfz, hset, hbs'⟩ := own_set hown hbq ho (Nat.le_refl _) (plusZ o (timesZ x y))
      have e2 : (mulRow (mulCol xs ys k) xs ys k q).set (k + q) (plusZ o (timesZ x y)) = mulRow (mulCol xs ys k) xs ys k (q + 1) := by rw [mulRow, atZ_get ho, atZ_get HX.out, atZ_get hy]
      rw [e2] at hset
      have HS := Lib.hid hset
      have hql2 : q < len2 := by omega
      have u1 : IntKind.i64.wrap ((k : Int) + q) = (k : Int) + q := IntWalk.i64_in _ (by omega)
      have u2 : IntKind.i64.wrap (x * y) = x * y := IntWalk.i64_in _ (by omega)
      have u3 : IntKind.i64.wrap (o + x * y) = o + x * y := IntWalk.i64_in _ (by omega)
      have u4 : ((k : Int) + q).toNat = k + q := by omega
      have u5 : 0 ≤ (k : Int) + q := by omega
      have u6 : (k : Int) + q < len := by omega
      clear hset e2 hown hy ho hlen
      go_wp2
      (refine wp_region_still_tail 19 (by kernel_rfl) (by kernel_rfl) ?_; simp only [List.take_succ_cons, List.take_zero, List.drop_succ_cons, List.drop_zero]; (repeat (first | still_step )); refine wpStill_nil ?_; change wpList _ _ _ _ _ (World.drew _))
      go_wp2
      go_roundw
      case rel => exact ⟨q + 1, by omega, by go_num, World.ownsRow.drew HS.out, hbs'.drew⟩
      case measure => simp [intOf]; omega

end Go.Proofs.YtbcjhpgkodeoeaaGreatDoor
