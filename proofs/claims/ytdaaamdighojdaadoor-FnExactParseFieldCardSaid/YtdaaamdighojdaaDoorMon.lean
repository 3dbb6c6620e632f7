/- Monomials and slices of them: readings, what is owned, and the laws' copying, comparing, marking. Conditions: none. -/
import Derived.Test.YtdaaamdighojdaaDoorMem
set_option linter.unusedSimpArgs false
set_option linter.unusedVariables false
namespace Go.Proofs.YtdaaamdighojdaaDoor
open Go.RowKit Go.Sort

/-- A monomial: its number and its powers. -/
structure MonZ where
  coef : Int
  pows : List Int
deriving Inhabited

def RdMon (w : World) (v : Value) (m : MonZ) : Prop := ∃ vP, v = .agg #[.int .i64 m.coef, vP] ∧ I64 m.coef ∧ RdI w vP m.pows
def ElMon (w : World) (us : List Value) (m : MonZ) : Prop := ∃ vP, us = [.int .i64 m.coef, vP] ∧ I64 m.coef ∧ RdI w vP m.pows
def OElMon (e : Nat) (w : World) (us : List Value) (m : MonZ) (fp : List Nat) : Prop := ∃ vP, us = [.int .i64 m.coef, vP] ∧ I64 m.coef ∧ OwnI e w vP m.pows fp
def OwnMon (e : Nat) (w : World) (v : Value) (m : MonZ) (fp : List Nat) : Prop := ∃ vP, v = .agg #[.int .i64 m.coef, vP] ∧ I64 m.coef ∧ OwnI e w vP m.pows fp
/-- []Monomial -/
abbrev RdMs := RdS 2 ElMon
def OwnMs (e2 e : Nat) : World → Value → List MonZ → List Nat → Prop := OwnS e2 2 (OElMon e)

theorem elMon_mono {w w' : World} {us : List Value} {m : MonZ} (hb : Below w.heap.size w w') (h : ElMon w us m) : ElMon w' us m := by
  obtain ⟨vP, rfl, hI, h⟩ := h
  exact ⟨vP, rfl, hI, rdI_mono hb h⟩
theorem rdMon_mono {w w' : World} {v : Value} {m : MonZ} (hb : Below w.heap.size w w') (h : RdMon w v m) : RdMon w' v m := by
  obtain ⟨vP, rfl, hI, h⟩ := h
  exact ⟨vP, rfl, hI, rdI_mono hb h⟩
theorem rdMs_mono {w w' : World} {v : Value} {xs : List MonZ} (hb : Below w.heap.size w w') (h : RdMs w v xs) : RdMs w' v xs := rdS_mono (fun _ _ h => elMon_mono hb h) hb h
theorem oelMon_only {e : Nat} {w w' : World} {us : List Value} {x : MonZ} {fp fp' : List Nat} (h : OElMon e w us x fp) (ho : Only fp' w w') (hd : ∀ g ∈ fp, g ∉ fp') : OElMon e w' us x fp := by
  obtain ⟨u, rfl, hI, h⟩ := h
  exact ⟨u, rfl, hI, ownI_only h ho hd⟩
theorem oelMon_lt {e : Nat} {w : World} {us : List Value} {x : MonZ} {fp : List Nat} (h : OElMon e w us x fp) : ∀ g ∈ fp, g < w.heap.size := by
  obtain ⟨u, rfl, hI, h⟩ := h
  exact ownI_lt h
theorem oelMon_rd {e : Nat} {w : World} {us : List Value} {x : MonZ} {fp : List Nat} (h : OElMon e w us x fp) : ElMon w us x := by
  obtain ⟨u, rfl, hI, h⟩ := h
  exact ⟨u, rfl, hI, ownI_rd h⟩
theorem ownMs_rd {e2 e : Nat} {w : World} {v : Value} {xs : List MonZ} {fp : List Nat} (h : OwnMs e2 e w v xs fp) : RdMs w v xs := ownS_rd (fun _ _ _ h => oelMon_rd h) h
theorem ownMs_lt {e2 e : Nat} {w : World} {v : Value} {xs : List MonZ} {fp : List Nat} (h : OwnMs e2 e w v xs fp) : ∀ b ∈ fp, b < w.heap.size := ownS_lt (fun _ _ _ h => oelMon_lt h) h
theorem ownMs_only {e2 e : Nat} {w w' : World} {v : Value} {xs : List MonZ} {fp fp' : List Nat} (h : OwnMs e2 e w v xs fp) (ho : Only fp' w w') (hd : ∀ b ∈ fp, b ∉ fp') : OwnMs e2 e w' v xs fp :=
  ownS_only (fun _ _ _ h hd => oelMon_only h ho hd) h ho hd

theorem rdMs_get {w : World} {ad : Option Addr} {len cap : Nat} {xs : List MonZ} (h : RdMs w (.slice ad len cap) xs)
    {k : Nat} (hk : k < len) : ∃ b off ad' len' cap' x, ad = some ⟨b, off, none⟩ ∧ xs[k]? = some x ∧ w.cell? ⟨b, off + k * 2, none⟩ = some (.int .i64 x.coef) ∧ w.cell? ⟨b, off + k * 2 + 1, none⟩ = some (.slice ad' len' cap') ∧
      I64 x.coef ∧ x.pows.length = len' ∧ len' ≤ cap' ∧ cap' ≤ 9223372036854775807 ∧ RdI w (.slice ad' len' cap') x.pows ∧ b < w.heap.size := by
  obtain ⟨b, off, us, x, h1, h2, h3, h4, u, rfl, hI, h5⟩ := rdS_get h hk
  have c0 := h4 0 _ rfl
  have c1 := h4 1 _ rfl
  simp only [Nat.add_zero] at c0
  obtain ⟨ad', len', cap', rfl, h6, h7, h8, h9⟩ := rdS_open h5
  exact ⟨b, off, ad', len', cap', x, h1, h2, c0, c1, hI, h6, h7, h8, h9, World.block_lt_of_cell? _ _ c0⟩

theorem Tryd.info_mon : (Tryd.prog.info? 35).map (fun i => (i.zero, i.size, i.bytes)) = some (some (.agg #[.int .i64 0, .slice none 0 0]), 2, 32) := by kernel_rfl

def Fit_Mon (m : MonZ) : Prop := m.pows.length ≤ 1048576
def Fit_Ms (xs : List MonZ) : Prop := xs.length ≤ 1048576 ∧ ∀ x ∈ xs, Fit_Mon x
def cnt_Mon (m : MonZ) : Nat := 1 + m.pows.length
def cnt_Ms : List MonZ → Nat := cntL cnt_Mon
theorem cnt_Ms_eq (xs : List MonZ) : cnt_Ms xs = xs.length + cntL (fun m => m.pows.length) xs := by
  unfold cnt_Ms cntL
  induction xs with
  | nil => rfl
  | cons x xs ih => simp only [List.map_cons, List.sum_cons, ih, List.length_cons, cnt_Mon]; omega

set_option maxHeartbeats 400000 in
theorem eq_Mon (va vb : Value) (m : MonZ) (w : World) (ha : RdMon w va m) (hb : RdMon w vb m) :
    Calls Tryd.prog 52 #[va, vb] w fun e w' => e = .returned (.bool true) ∧ Below w.heap.size w w' := by
  obtain ⟨vA, rfl, hI, hpa⟩ := ha
  obtain ⟨vB, rfl, _, hpb⟩ := hb
  have hb0 : Below w.heap.size w ((w.alloc (.cells #[.int .i64 m.coef, vA] 35)).alloc (.cells #[.int .i64 m.coef, vB] 35)) :=
    ((Below.refl _ _).alloc (Nat.le_refl _) _).alloc (by simp) _
  have hpa' := rdI_mono hb0 hpa
  have hpb' := rdI_mono hb0 hpb
  obtain ⟨ad, len, cap, rfl, _⟩ := rdS_open hpa
  obtain ⟨ad2, len2, cap2, rfl, _⟩ := rdS_open hpb
  go_enter Tryd.func52, Tryd.ntmps52
  have hsz : (w.alloc (.cells #[.int .i64 m.coef, .slice ad len cap] 35)).heap.size = w.heap.size + 1 := by simp
  go_wp2_with fail
  refine (eqIntS_same _ _ m.pows _ hpa' hpb').mono ?_
  rintro e w1 hq
  obtain ⟨rfl, hb1⟩ := hq.below
  have hbB := hb0.trans (hb1.mono hb0.size)
  go_wp2
  go_ret
  exact ⟨rfl, hbB⟩

set_option maxHeartbeats 400000 in
theorem eq_Ms (va vb : Value) (xs : List MonZ) (w : World) (ha : RdMs w va xs) (hb : RdMs w vb xs) :
    Calls Tryd.prog 32 #[va, vb] w fun e w' => e = .returned (.bool true) ∧ Below w.heap.size w w' := by
  obtain ⟨ad, len, cap, rfl, hl, hlc, hcm, h'⟩ := rdS_open ha
  obtain ⟨ad2, len2, cap2, rfl, hl2, hlc2, hcm2, h2'⟩ := rdS_open hb
  obtain rfl : len = len2 := by omega
  clear ha hb hl hl2
  go_enter Tryd.func32, Tryd.ntmps32
  go_wp2
  go_loopw [5] (fun i wr => ∃ k : Nat, k ≤ len ∧ i = .int .i64 k ∧ Below w.heap.size w wr) (fun i _ => len - (intOf i).toNat)
  case atStart => exact ⟨0, Nat.zero_le _, rfl, Below.refl _ _⟩
  case round =>
    obtain ⟨k, hk, rfl, hbw⟩ := hrel
    have h'r := rdMs_mono hbw h'
    have h2'r := rdMs_mono hbw h2'
    by_cases hlt : k < len
    · obtain ⟨b, off, ad', len', cap', x, rfl, hx, hc0, hc1, hI, h6, h7, h8, h9, _⟩ := rdMs_get h'r hlt
      obtain ⟨b2, off2, ad2', len2', cap2', x2, rfl, hx2, hd0, hd1, hI2, h62, h72, h82, h92, _⟩ := rdMs_get h2'r hlt
      obtain rfl : x = x2 := Option.some.inj (hx.symm.trans hx2)
      have k0 := cell_regrown hc0
      have k1 := cell_regrown hc1
      have k2 := cell_regrown hd0
      have k3 := cell_regrown hd1
      clear hx hx2 h6 h62
      go_wp2
      (refine wp_region_quiet_below (by kernel_rfl) (by kernel_rfl) ?_; (repeat (go_big_quiet_step ((first | exact Calls.regrown_of (eq_Mon _ _ x _ ⟨_, rfl, hI, rdI_mono (below_regrown _ _ _) h9⟩ ⟨_, rfl, hI, rdI_mono (below_regrown _ _ _) h92⟩))))); refine wpQuiet_nil ?_; rintro _ ⟨⟨dq, osq⟩, rfl⟩)
      have hbq := below_regrown wr dq osq
      obtain ⟨wq, hwq⟩ : ∃ wq, wq = grow (redrawn wr dq) osq := ⟨_, rfl⟩
      rw [← hwq] at hbq ⊢
      clear hwq k0 k1 k2 k3
      go_wp2
      go_roundw
      case rel => exact ⟨k + 1, by omega, by go_num, hbw.trans (hbq.mono hbw.size)⟩
      case measure => simp [intOf]; omega
    · go_wp2
      go_ret
      exact ⟨rfl, hbw⟩

def mk_Mon (k : Int) (m : MonZ) : MonZ := ⟨k, marks (k + 1) m.pows.length⟩
def mk_Ms : Int → List MonZ → List MonZ := mkL mk_Mon cnt_Mon

/-- What it takes to mark one monomial of an owned slice. -/
theorem markMon_step {e2 e : Nat} {g cap : Nat} {fp : List Nat} {us : List (List Value)} {W w : World} {done todo : List MonZ} {x : MonZ} {n : Nat}
    (h : Marked e2 2 (OElMon e) (.slice (some ⟨g, 0, none⟩) n cap) fp us W w done (x :: todo) n) {c : Int} (hc : I64 c) :
    ∃ vP f, w.cell? ⟨g, done.length * 2, none⟩ = some (.int .i64 x.coef) ∧ w.frozen? ⟨g, done.length * 2, none⟩ = false ∧ w.cell? ⟨g, done.length * 2 + 1, none⟩ = some vP ∧
      OwnI e (w.setCell ⟨g, done.length * 2, none⟩ (.int .i64 c)) vP x.pows f ∧
      ∀ w2 ys, OwnI e w2 vP ys f → Only f (w.setCell ⟨g, done.length * 2, none⟩ (.int .i64 c)) w2 → ∃ us', Marked e2 2 (OElMon e) (.slice (some ⟨g, 0, none⟩) n cap) fp us' W w2 (done ++ [⟨c, ys⟩]) todo n := by
  obtain ⟨u, f, hu, hul, ⟨vP, rfl, hI, ho⟩, hf, hgf, hgfp, hnx⟩ := Marked.nextSet (El := OElMon e) (fun _ _ _ _ _ _ h ho hd => oelMon_only h ho hd) h
  have h0 := flat_get h.one hu (j := 0) rfl
  have h1 := flat_get h.one hu (j := 1) rfl
  have hlen := h.row.1
  have l0 := (List.getElem?_eq_some_iff.1 h0).1
  have l1 := (List.getElem?_eq_some_iff.1 h1).1
  have hO : Only [g] w (w.setCell ⟨g, done.length * 2, none⟩ (.int .i64 c)) := (Only.refl _ _).setCell (by simp) _
  rw [Nat.add_zero] at h0 l0
  refine ⟨vP, f, ?_, h.row.frozenAt _, ?_, ownI_only ho hO (fun b hb hm => hgf (List.mem_singleton.1 hm ▸ hb)), fun w2 ys ho2 hon => ⟨us.set done.length [.int .i64 c, vP], hnx w2 ⟨c, ys⟩ [.int .i64 c, vP] rfl ⟨vP, rfl, hc, ho2⟩ ?_ ?_⟩⟩
  · rw [h.row.cellAt _ (by omega), h0]
  · rw [h.row.cellAt _ (by omega), h1]
  · exact (hO.mono (by simp)).trans (hon.mono (fun b hb => by simp [hb]))
  · have hs := (h.row.stored (done.length * 2) (.int .i64 c)).1
    have := flat_set h.one hu (j := 0) (by omega) (.int .i64 c)
    rw [Nat.add_zero] at this
    rw [this] at hs
    exact ownsRow_only hs hon (fun b hb => by simp [Value.ownBlock] at hb; subst hb; exact hgf)

set_option maxHeartbeats 800000 in
theorem mark_Ms (v : Value) (xs : List MonZ) (fp : List Nat) (k0 : Int) (w : World) (h : OwnMs 35 3 w v xs fp) (h0 : 0 ≤ k0) (h1 : k0 + cnt_Ms xs ≤ 1000000000000000) :
    Calls Tryd.prog 33 #[v, .int .i64 k0] w fun e w' => e = .returned (.int .i64 (k0 + cnt_Ms xs)) ∧ OwnMs 35 3 w' v (mk_Ms k0 xs) fp ∧ Only fp w w' := by
  obtain ⟨us0, hM0⟩ := Marked.start h
  obtain ⟨len, hlen⟩ : ∃ len, len = xs.length := ⟨_, rfl⟩
  rw [← hlen] at hM0
  obtain ⟨ad, cap, rfl, hlc, hcm, hg⟩ := row_open hM0.row
  have HL := Lib.hid hlen
  clear h hlen
  go_enter Tryd.func33, Tryd.ntmps33
  go_wp2
  go_loopw [1, 5] (fun c i wr => ∃ (k : Nat) (us : List (List Value)), k ≤ len ∧ i = .int .i64 k ∧ c = .int .i64 (k0 + cnt_Ms (xs.take k)) ∧ Marked 35 2 (OElMon 3) (.slice ad len cap) fp us w wr (mk_Ms k0 (xs.take k)) (xs.drop k) len)
    (fun _ i _ => len - (intOf i).toNat)
  case atStart => exact ⟨0, us0, Nat.zero_le _, rfl, by simp [cnt_Ms, cntL], hM0⟩
  case round =>
    obtain ⟨k, us, hk, rfl, rfl, hM⟩ := hrel
    have hct := cntL_take_le (cnt := cnt_Mon) xs k
    by_cases hlt : k < len
    · obtain ⟨g, rfl⟩ := hg (by omega)
      have hkx : k < xs.length := by rw [← HL.out]; exact hlt
      have hd : xs.drop k = xs[k] :: xs.drop (k + 1) := List.drop_eq_getElem_cons hkx
      have hxk : xs[k]? = some xs[k] := List.getElem?_eq_getElem hkx
      obtain ⟨x, hx⟩ : ∃ x, x = xs[k] := ⟨_, rfl⟩
      rw [← hx] at hd hxk
      rw [hd] at hM
      have hct2 := cntL_take_le (cnt := cnt_Mon) xs (k + 1)
      rw [take_snoc hxk, cntL_snoc] at hct2
      have hcm1 : cnt_Mon x = 1 + x.pows.length := rfl
      have hce : cntL cnt_Mon (xs.take k) = cnt_Ms (xs.take k) := rfl
      have hce2 : cntL cnt_Mon xs = cnt_Ms xs := rfl
      rw [hce] at hct hct2
      rw [hce2] at hct hct2
      rw [hcm1] at hct2
      obtain ⟨vP, f, hc0, hf0, hc1, ho, hnx⟩ := markMon_step hM (c := k0 + cnt_Ms (xs.take k)) ⟨by omega, by omega⟩
      have hkl : (mk_Ms k0 (xs.take k)).length = k := by rw [mk_Ms, mkL_length, List.length_take]; omega
      rw [hkl] at hc0 hf0 hc1 ho hnx
      have HX := Lib.hid hxk
      have HN := Lib.hid hnx
      obtain ⟨ad3, len3, cap3, rfl, _⟩ := ownI_open ho
      clear hxk hd hx hnx hkl hM0 hcm1 hce hce2 hM
      go_wp2_with fail
      refine (markIntS_any _ x.pows f _ _ ho (by omega) (by omega)).mono ?_
      rintro e w' ⟨rfl, ho', hon'⟩
      obtain ⟨us', hM'⟩ := HN.out w' _ ho' hon'
      have HM := Lib.hid hM'
      clear ho' ho hon' HN hM'
      go_wp2
      go_roundw
      case rel => exact ⟨k + 1, us', by omega, by go_num, by rw [take_snoc HX.out, cnt_Ms, cntL_snoc]; show Value.int _ _ = Value.int _ _; congr 1; rw [cnt_Mon]; omega, by rw [take_snoc HX.out, mk_Ms, mkL_snoc]; exact HM.out⟩
      case measure => simp [intOf]; omega
    · obtain rfl : k = len := by omega
      go_wp2
      go_ret
      rw [List.take_of_length_le (by rw [HL.out]; exact Nat.le_refl _), List.drop_of_length_le (by rw [HL.out]; exact Nat.le_refl _)] at hM
      rw [List.take_of_length_le (by rw [HL.out]; exact Nat.le_refl _)]
      exact ⟨rfl, hM.done.1, hM.done.2⟩

set_option maxHeartbeats 400000 in
theorem held_Ms (v : Value) (xs : List MonZ) (k0 : Int) (w : World) (h : RdMs w v (mk_Ms k0 xs)) (h0 : 0 ≤ k0) (h1 : k0 + cnt_Ms xs ≤ 1000000000000000) :
    Calls Tryd.prog 34 #[v, .int .i64 k0] w fun e w' => e = .returned (.int .i64 (k0 + cnt_Ms xs)) ∧ w = w' := by
  obtain ⟨ad, len, cap, rfl, hl, hlc, hcm, h'⟩ := rdS_open h
  rw [mk_Ms, mkL_length] at hl
  have HL := Lib.hid hl
  clear h hl
  go_enter Tryd.func34, Tryd.ntmps34
  go_wp2
  go_loop [1, 5] (fun c i => ∃ k : Nat, k ≤ len ∧ i = .int .i64 k ∧ c = .int .i64 (k0 + cnt_Ms (xs.take k))) (fun _ i => len - (intOf i).toNat)
  case atStart => exact ⟨0, Nat.zero_le _, rfl, by simp [cnt_Ms, cntL]⟩
  case round =>
    obtain ⟨k, hk, rfl, rfl⟩ := hrel
    have hct : cnt_Ms (xs.take k) ≤ cnt_Ms xs := cntL_take_le (cnt := cnt_Mon) xs k
    by_cases hlt : k < len
    · obtain ⟨b, off, ad', len', cap', y, rfl, hy, hc0, hc1, hI, h6, h7, h8, h9, _⟩ := rdMs_get h' hlt
      have hkx : k < xs.length := by rw [HL.out]; exact hlt
      have hxk : xs[k]? = some xs[k] := List.getElem?_eq_getElem hkx
      obtain ⟨x, hx⟩ : ∃ x, x = xs[k] := ⟨_, rfl⟩
      rw [← hx] at hxk
      have hyx := mkL_get (mk := mk_Mon) (cnt := cnt_Mon) hxk k0
      obtain rfl := Option.some.inj (hyx.symm.trans hy)
      simp only [mk_Mon] at hc0 hc1 h9
      have hct2 : cnt_Ms (xs.take (k + 1)) ≤ cnt_Ms xs := cntL_take_le (cnt := cnt_Mon) xs (k + 1)
      rw [take_snoc hxk, cnt_Ms, cntL_snoc] at hct2
      have hcm1 : cnt_Mon x = 1 + x.pows.length := rfl
      rw [hcm1] at hct2
      have hce : cntL cnt_Mon (xs.take k) = cnt_Ms (xs.take k) := rfl
      rw [hce] at hct2 hc0 h9
      have hce2 : cntL cnt_Mon xs = cnt_Ms xs := rfl
      rw [hce2] at hct2
      have hng : (k0 + cnt_Ms (xs.take k) + 1 + (x.pows.length : Int) < 0) = False := by simp; omega
      have HNG := Lib.hid hng
      have HX := Lib.hid hxk
      clear hxk hx hy h6 hyx hcm1 hce hce2 hng
      go_wp2_with (go_at_call 54; ((with_reducible refine (heldIntS_any _ x.pows.length _ _ h9 (by omega) (by omega)).mono ?_); rintro e w' ⟨rfl, rfl⟩))
      go_round
      case rel => exact ⟨k + 1, by omega, by go_num, by rw [take_snoc HX.out, cnt_Ms, cntL_snoc]; show Value.int _ _ = Value.int _ _; congr 1; rw [cnt_Mon]; simp [cnt_Ms]; omega⟩
      case measure => simp [intOf]; omega
    · obtain rfl : k = len := by omega
      go_wp2
      go_ret
      rw [List.take_of_length_le (by rw [HL.out]; exact Nat.le_refl _)]
      exact ⟨rfl, rfl⟩
end Go.Proofs.YtdaaamdighojdaaDoor
