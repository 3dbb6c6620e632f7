/- Fields: readings, what is owned, and the laws' copying, comparing, marking. Conditions: none. -/
import Derived.Test.YtdaaamdighojdaaDoorMon
set_option linter.unusedSimpArgs false
set_option linter.unusedVariables false
namespace Go.Proofs.YtdaaamdighojdaaDoor
open Go.RowKit Go.Sort

def ElMss (w : World) (us : List Value) (x : List MonZ) : Prop := ∃ u, us = [u] ∧ RdMs w u x
def OElMss (e2 e : Nat) (w : World) (us : List Value) (x : List MonZ) (fp : List Nat) : Prop := ∃ u, us = [u] ∧ OwnMs e2 e w u x fp
/-- [][]Monomial -/
abbrev RdMss := RdS 1 ElMss
def OwnMss (e1 e2 e : Nat) : World → Value → List (List MonZ) → List Nat → Prop := OwnS e1 1 (OElMss e2 e)

theorem elMss_mono {w w' : World} {us : List Value} {x : List MonZ} (hb : Below w.heap.size w w') (h : ElMss w us x) : ElMss w' us x := by
  obtain ⟨u, rfl, h⟩ := h
  exact ⟨u, rfl, rdMs_mono hb h⟩
theorem rdMss_mono {w w' : World} {v : Value} {xs : List (List MonZ)} (hb : Below w.heap.size w w') (h : RdMss w v xs) : RdMss w' v xs := rdS_mono (fun _ _ h => elMss_mono hb h) hb h
theorem oelMss_only {e2 e : Nat} {w w' : World} {us : List Value} {x : List MonZ} {fp fp' : List Nat} (h : OElMss e2 e w us x fp) (ho : Only fp' w w') (hd : ∀ g ∈ fp, g ∉ fp') : OElMss e2 e w' us x fp := by
  obtain ⟨u, rfl, h⟩ := h
  exact ⟨u, rfl, ownMs_only h ho hd⟩
theorem oelMss_lt {e2 e : Nat} {w : World} {us : List Value} {x : List MonZ} {fp : List Nat} (h : OElMss e2 e w us x fp) : ∀ g ∈ fp, g < w.heap.size := by
  obtain ⟨u, rfl, h⟩ := h
  exact ownMs_lt h
theorem ownMss_rd {e1 e2 e : Nat} {w : World} {v : Value} {xs : List (List MonZ)} {fp : List Nat} (h : OwnMss e1 e2 e w v xs fp) : RdMss w v xs := ownS_rd (fun _ _ _ ⟨u, hu, h⟩ => ⟨u, hu, ownMs_rd h⟩) h
theorem ownMss_lt {e1 e2 e : Nat} {w : World} {v : Value} {xs : List (List MonZ)} {fp : List Nat} (h : OwnMss e1 e2 e w v xs fp) : ∀ b ∈ fp, b < w.heap.size := ownS_lt (fun _ _ _ h => oelMss_lt h) h
theorem ownMss_only {e1 e2 e : Nat} {w w' : World} {v : Value} {xs : List (List MonZ)} {fp fp' : List Nat} (h : OwnMss e1 e2 e w v xs fp) (ho : Only fp' w w') (hd : ∀ b ∈ fp, b ∉ fp') : OwnMss e1 e2 e w' v xs fp :=
  ownS_only (fun _ _ _ h hd => oelMss_only h ho hd) h ho hd
theorem ownMs_nodup {e2 e : Nat} {w : World} {v : Value} {xs : List MonZ} {fp : List Nat} (h : OwnMs e2 e w v xs fp) : fp.Nodup := by
  obtain ⟨_, _, _, _, _, _, h⟩ := h
  exact h
theorem ownMs_open {e2 e : Nat} {w : World} {v : Value} {xs : List MonZ} {fp : List Nat} (h : OwnMs e2 e w v xs fp) : ∃ ad len cap, v = .slice ad len cap := by
  obtain ⟨_, _, h, _⟩ := h
  obtain ⟨ad, cap, rfl, _⟩ := row_open h
  exact ⟨_, _, _, rfl⟩

theorem rdMss_get {w : World} {ad : Option Addr} {len cap : Nat} {xs : List (List MonZ)} (h : RdMss w (.slice ad len cap) xs)
    {k : Nat} (hk : k < len) : ∃ b off ad' len' cap' x, ad = some ⟨b, off, none⟩ ∧ xs[k]? = some x ∧ w.cell? ⟨b, off + k, none⟩ = some (.slice ad' len' cap') ∧
      x.length = len' ∧ len' ≤ cap' ∧ cap' ≤ 9223372036854775807 ∧ RdMs w (.slice ad' len' cap') x ∧ b < w.heap.size := by
  obtain ⟨b, off, us, x, h1, h2, h3, h4, u, rfl, h5⟩ := rdS_get h hk
  have := h4 0 _ rfl
  simp only [Nat.mul_one, Nat.add_zero] at this
  obtain ⟨ad', len', cap', rfl, h6, h7, h8, h9⟩ := rdS_open h5
  exact ⟨b, off, ad', len', cap', x, h1, h2, this, h6, h7, h8, h9, World.block_lt_of_cell? _ _ this⟩

theorem Tryd.info_mons : (Tryd.prog.info? 32).map (fun i => (i.zero, i.size, i.bytes)) = some (some (.slice none 0 0), 1, 24) := by kernel_rfl

def mk_Mss : Int → List (List MonZ) → List (List MonZ) := mkL mk_Ms cnt_Ms
def cnt_Mss : List (List MonZ) → Nat := cntL cnt_Ms
def Fit_Mss (xs : List (List MonZ)) : Prop := xs.length ≤ 1048576 ∧ (∀ x ∈ xs, Fit_Ms x) ∧ cnt_Mss xs ≤ 1048576

theorem cntMss_snoc (xs : List (List MonZ)) (x : List MonZ) : cnt_Mss (xs ++ [x]) = cnt_Mss xs + cnt_Ms x := cntL_snoc xs x
theorem mkMss_snoc (xs : List (List MonZ)) (x : List MonZ) (k : Int) : mk_Mss k (xs ++ [x]) = mk_Mss k xs ++ [mk_Ms (k + (cnt_Mss xs : Int)) x] := mkL_snoc xs x k
theorem mkMss_length (xs : List (List MonZ)) (k : Int) : (mk_Mss k xs).length = xs.length := mkL_length xs k
theorem cntMss_take_le (xs : List (List MonZ)) (k : Nat) : cnt_Mss (xs.take k) ≤ cnt_Mss xs := cntL_take_le xs k

set_option maxHeartbeats 400000 in
theorem eq_Mss (va vb : Value) (xs : List (List MonZ)) (w : World) (ha : RdMss w va xs) (hb : RdMss w vb xs) :
    Calls Tryd.prog 16 #[va, vb] w fun e w' => e = .returned (.bool true) ∧ Below w.heap.size w w' := by
  obtain ⟨ad, len, cap, rfl, hl, hlc, hcm, h'⟩ := rdS_open ha
  obtain ⟨ad2, len2, cap2, rfl, hl2, hlc2, hcm2, h2'⟩ := rdS_open hb
  obtain rfl : len = len2 := by omega
  clear ha hb hl hl2
  go_enter Tryd.func16, Tryd.ntmps16
  go_wp2
  go_loopw [5] (fun i wr => ∃ k : Nat, k ≤ len ∧ i = .int .i64 k ∧ Below w.heap.size w wr) (fun i _ => len - (intOf i).toNat)
  case atStart => exact ⟨0, Nat.zero_le _, rfl, Below.refl _ _⟩
  case round =>
    obtain ⟨k, hk, rfl, hbw⟩ := hrel
    have h'r := rdMss_mono hbw h'
    have h2'r := rdMss_mono hbw h2'
    by_cases hlt : k < len
    · obtain ⟨b, off, ad', len', cap', x, rfl, hx, hc0, h6, h7, h8, h9, _⟩ := rdMss_get h'r hlt
      obtain ⟨b2, off2, ad2', len2', cap2', x2, rfl, hx2, hd0, h62, h72, h82, h92, _⟩ := rdMss_get h2'r hlt
      obtain rfl : x = x2 := Option.some.inj (hx.symm.trans hx2)
      have k0 := cell_regrown hc0
      have k2 := cell_regrown hd0
      clear hx hx2 h6 h62
      go_wp2
      (refine wp_region_quiet_below (by kernel_rfl) (by kernel_rfl) ?_; (repeat (go_big_quiet_step ((first | exact Calls.regrown_of (eq_Ms _ _ x _ (rdMs_mono (below_regrown _ _ _) h9) (rdMs_mono (below_regrown _ _ _) h92)))))); refine wpQuiet_nil ?_; rintro _ ⟨⟨dq, osq⟩, rfl⟩)
      have hbq := below_regrown wr dq osq
      obtain ⟨wq, hwq⟩ : ∃ wq, wq = grow (redrawn wr dq) osq := ⟨_, rfl⟩
      rw [← hwq] at hbq ⊢
      clear hwq k0 k2
      go_wp2
      go_roundw
      case rel => exact ⟨k + 1, by omega, by go_num, hbw.trans (hbq.mono hbw.size)⟩
      case measure => simp [intOf]; omega
    · go_wp2
      go_ret
      exact ⟨rfl, hbw⟩

set_option maxHeartbeats 400000 in
theorem mark_Mss (v : Value) (xs : List (List MonZ)) (fp : List Nat) (k0 : Int) (w : World) (h : OwnMss 32 35 3 w v xs fp) (h0 : 0 ≤ k0) (h1 : k0 + cnt_Mss xs ≤ 1000000000000000) :
    Calls Tryd.prog 17 #[v, .int .i64 k0] w fun e w' => e = .returned (.int .i64 (k0 + cnt_Mss xs)) ∧ OwnMss 32 35 3 w' v (mk_Mss k0 xs) fp ∧ Only fp w w' := by
  obtain ⟨us, hM0⟩ := Marked.start h
  obtain ⟨len, hlen⟩ : ∃ len, len = xs.length := ⟨_, rfl⟩
  rw [← hlen] at hM0
  obtain ⟨ad, cap, rfl, hlc, hcm, hg⟩ := row_open hM0.row
  have HL := Lib.hid hlen
  clear h hlen
  go_enter Tryd.func17, Tryd.ntmps17
  go_wp2
  go_loopw [1, 5] (fun c i wr => ∃ k : Nat, k ≤ len ∧ i = .int .i64 k ∧ c = .int .i64 (k0 + cnt_Mss (xs.take k)) ∧ Marked 32 1 (OElMss 35 3) (.slice ad len cap) fp us w wr (mk_Mss k0 (xs.take k)) (xs.drop k) len)
    (fun _ i _ => len - (intOf i).toNat)
  case atStart => exact ⟨0, Nat.zero_le _, rfl, by simp [cnt_Mss, cntL], hM0⟩
  case round =>
    obtain ⟨k, hk, rfl, rfl, hM⟩ := hrel
    have hct := cntMss_take_le xs k
    by_cases hlt : k < len
    · obtain ⟨g, rfl⟩ := hg (by omega)
      have hkx : k < xs.length := by rw [← HL.out]; exact hlt
      have hd : xs.drop k = xs[k] :: xs.drop (k + 1) := List.drop_eq_getElem_cons hkx
      have hxk : xs[k]? = some xs[k] := List.getElem?_eq_getElem hkx
      obtain ⟨x, hx⟩ : ∃ x, x = xs[k] := ⟨_, rfl⟩
      rw [← hx] at hd hxk
      rw [hd] at hM
      obtain ⟨us', f, hu, hul, ⟨u, rfl, ho⟩, hf, hnx⟩ := Marked.next (El := OElMss 35 3) (fun _ _ _ _ _ _ h ho hd => oelMss_only h ho hd) hM
      have hkl : (mk_Mss k0 (xs.take k)).length = k := by rw [mkMss_length, List.length_take]; omega
      rw [hkl] at hu
      have hcell := flat_get hM.one hu (j := 0) rfl
      rw [Nat.mul_one, Nat.add_zero] at hcell
      have hc := hM.row.cellAt k (by omega)
      rw [hcell] at hc
      have hct2 := cntMss_take_le xs (k + 1)
      rw [take_snoc hxk, cntMss_snoc] at hct2
      have HX := Lib.hid hxk
      have HN := Lib.hid hnx
      obtain ⟨ad3, len3, cap3, rfl⟩ := ownMs_open ho
      clear hxk hd hx hu hul hf hnx hcell hkl hM0
      go_wp2_with fail
      refine (mark_Ms _ x f _ _ ho (by omega) (by omega)).mono ?_
      rintro e w' ⟨rfl, ho', hon'⟩
      have HM := Lib.hid (HN.out w' _ ⟨_, rfl, ho'⟩ hon')
      clear ho' ho hon' hM HN
      go_wp2
      go_roundw
      case rel => exact ⟨k + 1, by omega, by go_num, by rw [take_snoc HX.out, cntMss_snoc]; go_num, by rw [take_snoc HX.out, mkMss_snoc]; exact HM.out⟩
      case measure => simp [intOf]; omega
    · obtain rfl : k = len := by omega
      go_wp2
      go_ret
      rw [List.take_of_length_le (by rw [HL.out]; exact Nat.le_refl _), List.drop_of_length_le (by rw [HL.out]; exact Nat.le_refl _)] at hM
      rw [List.take_of_length_le (by rw [HL.out]; exact Nat.le_refl _)]
      exact ⟨rfl, hM.done.1, hM.done.2⟩

set_option maxHeartbeats 400000 in
theorem held_Mss (v : Value) (xs : List (List MonZ)) (k0 : Int) (w : World) (h : RdMss w v (mk_Mss k0 xs)) (h0 : 0 ≤ k0) (h1 : k0 + cnt_Mss xs ≤ 1000000000000000) :
    Calls Tryd.prog 18 #[v, .int .i64 k0] w fun e w' => e = .returned (.int .i64 (k0 + cnt_Mss xs)) ∧ w = w' := by
  obtain ⟨ad, len, cap, rfl, hl, hlc, hcm, h'⟩ := rdS_open h
  rw [mkMss_length] at hl
  have HL := Lib.hid hl
  clear h hl
  go_enter Tryd.func18, Tryd.ntmps18
  go_wp2
  go_loop [1, 5] (fun c i => ∃ k : Nat, k ≤ len ∧ i = .int .i64 k ∧ c = .int .i64 (k0 + cnt_Mss (xs.take k))) (fun _ i => len - (intOf i).toNat)
  case atStart => exact ⟨0, Nat.zero_le _, rfl, by simp [cnt_Mss, cntL]⟩
  case round =>
    obtain ⟨k, hk, rfl, rfl⟩ := hrel
    have hct := cntMss_take_le xs k
    by_cases hlt : k < len
    · obtain ⟨b, off, ad', len', cap', y, rfl, hy, hcc, h6, h7, h8, h9, _⟩ := rdMss_get h' hlt
      have hkx : k < xs.length := by rw [HL.out]; exact hlt
      have hxk : xs[k]? = some xs[k] := List.getElem?_eq_getElem hkx
      obtain ⟨x, hx⟩ : ∃ x, x = xs[k] := ⟨_, rfl⟩
      rw [← hx] at hxk
      have hyx := (Option.some.inj ((mkL_get (mk := mk_Ms) (cnt := cnt_Ms) hxk k0).symm.trans hy)).symm
      subst hyx
      rw [show cntL cnt_Ms (xs.take k) = cnt_Mss (xs.take k) from rfl] at h9
      have hct2 := cntMss_take_le xs (k + 1)
      rw [take_snoc hxk, cntMss_snoc] at hct2
      have HX := Lib.hid hxk
      have hng : (k0 + cnt_Mss (xs.take k) + (cnt_Ms x : Int) < 0) = False := by simp; omega
      have HNG := Lib.hid hng
      clear hxk hx hy h6 hng
      go_wp2_with (go_at_call 34; ((with_reducible refine (held_Ms _ x _ _ h9 (by omega) (by omega)).mono ?_); rintro e w' ⟨rfl, rfl⟩))
      go_round
      case rel => exact ⟨k + 1, by omega, by go_num, by rw [take_snoc HX.out, cntMss_snoc]; go_num⟩
      case measure => simp [intOf]; omega
    · obtain rfl : k = len := by omega
      go_wp2
      go_ret
      rw [List.take_of_length_le (by rw [HL.out]; exact Nat.le_refl _)]
      exact ⟨rfl, rfl⟩

/-- A field: its dimension and its polynomials. -/
structure FldZ where
  dim : Int
  parts : List (List MonZ)
deriving Inhabited
def RdFld (w : World) (v : Value) (f : FldZ) : Prop := ∃ vP, v = .agg #[.int .i64 f.dim, vP] ∧ I64 f.dim ∧ RdMss w vP f.parts
def OwnFld (e1 e2 e : Nat) (w : World) (v : Value) (f : FldZ) (fp : List Nat) : Prop := ∃ vP, v = .agg #[.int .i64 f.dim, vP] ∧ I64 f.dim ∧ OwnMss e1 e2 e w vP f.parts fp
theorem rdFld_mono {w w' : World} {v : Value} {f : FldZ} (hb : Below w.heap.size w w') (h : RdFld w v f) : RdFld w' v f := by
  obtain ⟨vP, rfl, hI, h⟩ := h
  exact ⟨vP, rfl, hI, rdMss_mono hb h⟩
theorem ownFld_rd {e1 e2 e : Nat} {w : World} {v : Value} {f : FldZ} {fp : List Nat} (h : OwnFld e1 e2 e w v f fp) : RdFld w v f := by
  obtain ⟨vP, rfl, hI, h⟩ := h
  exact ⟨vP, rfl, hI, ownMss_rd h⟩
theorem ownFld_lt {e1 e2 e : Nat} {w : World} {v : Value} {f : FldZ} {fp : List Nat} (h : OwnFld e1 e2 e w v f fp) : ∀ b ∈ fp, b < w.heap.size := by
  obtain ⟨vP, rfl, hI, h⟩ := h
  exact ownMss_lt h
theorem ownFld_only {e1 e2 e : Nat} {w w' : World} {v : Value} {f : FldZ} {fp fp' : List Nat} (h : OwnFld e1 e2 e w v f fp) (ho : Only fp' w w') (hd : ∀ b ∈ fp, b ∉ fp') : OwnFld e1 e2 e w' v f fp := by
  obtain ⟨vP, rfl, hI, h⟩ := h
  exact ⟨vP, rfl, hI, ownMss_only h ho hd⟩
theorem rdMss_slice {w : World} {v : Value} {xs : List (List MonZ)} (h : RdMss w v xs) : ∃ ad len cap, v = .slice ad len cap := by
  obtain ⟨ad, len, cap, rfl, _⟩ := rdS_open h
  exact ⟨_, _, _, rfl⟩
theorem ownMss_slice {e1 e2 e : Nat} {w : World} {v : Value} {xs : List (List MonZ)} {fp : List Nat} (h : OwnMss e1 e2 e w v xs fp) : ∃ ad len cap, v = .slice ad len cap := rdMss_slice (ownMss_rd h)

def Fit_Fld (f : FldZ) : Prop := Fit_Mss f.parts
def mk_Fld (k : Int) (f : FldZ) : FldZ := ⟨f.dim, mk_Mss k f.parts⟩
def cnt_Fld (f : FldZ) : Nat := cnt_Mss f.parts

set_option maxHeartbeats 400000 in
theorem eq_Fld (va vb : Value) (f : FldZ) (w : World) (ha : RdFld w va f) (hb : RdFld w vb f) :
    Calls Tryd.prog 6 #[va, vb] w fun e w' => e = .returned (.bool true) ∧ Below w.heap.size w w' := by
  obtain ⟨vA, rfl, hI, hpa⟩ := ha
  obtain ⟨vB, rfl, _, hpb⟩ := hb
  have hb0 : Below w.heap.size w ((w.alloc (.cells #[.int .i64 f.dim, vA] 24)).alloc (.cells #[.int .i64 f.dim, vB] 24)) :=
    ((Below.refl _ _).alloc (Nat.le_refl _) _).alloc (by simp) _
  have hpa' := rdMss_mono hb0 hpa
  have hpb' := rdMss_mono hb0 hpb
  obtain ⟨ad, len, cap, rfl⟩ := rdMss_slice hpa
  obtain ⟨ad2, len2, cap2, rfl⟩ := rdMss_slice hpb
  go_enter Tryd.func6, Tryd.ntmps6
  go_wp2_with fail
  refine (eq_Mss _ _ f.parts _ hpa' hpb').mono ?_
  rintro e w1 ⟨rfl, hb1⟩
  have hbB := hb0.trans (hb1.mono hb0.size)
  go_wp2
  go_ret
  exact ⟨rfl, hbB⟩

set_option maxHeartbeats 400000 in
theorem mark_Fld (v : Value) (f : FldZ) (fp : List Nat) (k0 : Int) (w : World) (h : OwnFld 32 35 3 w v f fp) (h0 : 0 ≤ k0) (h1 : k0 + cnt_Fld f ≤ 1000000000000000) :
    Calls Tryd.prog 7 #[v, .int .i64 k0] w fun e w' => e = .returned (.int .i64 (k0 + cnt_Fld f)) ∧ OwnFld 32 35 3 w' v (mk_Fld k0 f) fp ∧ Only fp w w' := by
  obtain ⟨vP, rfl, hI, ho⟩ := h
  have hb0 : Only fp w (w.alloc (.cells #[.int .i64 f.dim, vP] 24)) := (Only.refl _ _).alloc _
  have ho' := ownMss_only ho ((Only.refl [] _).alloc (.cells #[.int .i64 f.dim, vP] 24)) (by simp)
  obtain ⟨ad, len, cap, rfl⟩ := ownMss_slice ho
  have hce : cnt_Fld f = cnt_Mss f.parts := rfl
  rw [hce] at h1 ⊢
  clear hce
  go_enter Tryd.func7, Tryd.ntmps7
  go_wp2_with fail
  refine (mark_Mss _ f.parts fp _ _ ho' h0 h1).mono ?_
  rintro e w1 ⟨rfl, ho1, hon1⟩
  have hO := hb0.trans hon1
  have HO := Lib.hid ho1
  clear ho1 ho ho'
  go_wp2
  go_ret
  exact ⟨rfl, ⟨_, rfl, hI, HO.out⟩, hO⟩

set_option maxHeartbeats 400000 in
theorem held_Fld (v : Value) (f : FldZ) (k0 : Int) (w : World) (h : RdFld w v (mk_Fld k0 f)) (h0 : 0 ≤ k0) (h1 : k0 + cnt_Fld f ≤ 1000000000000000) :
    Calls Tryd.prog 8 #[v, .int .i64 k0] w fun e w' => e = .returned (.int .i64 (k0 + cnt_Fld f)) ∧ Below w.heap.size w w' := by
  obtain ⟨vP, rfl, hI, hp⟩ := h
  have hb : Below w.heap.size w (w.alloc (.cells #[.int .i64 f.dim, vP] 24)) := (Below.refl _ _).alloc (Nat.le_refl _) _
  have hp' := rdMss_mono hb hp
  obtain ⟨ad, len, cap, rfl⟩ := rdMss_slice hp
  have hce : cnt_Fld f = cnt_Mss f.parts := rfl
  have hdf : (mk_Fld k0 f).dim = f.dim := rfl
  rw [hce] at h1 ⊢
  rw [hdf]
  clear hce hdf
  have hng : (k0 + (cnt_Mss f.parts : Int) < 0) = False := by simp; omega
  have HNG := Lib.hid hng
  clear hng
  go_enter Tryd.func8, Tryd.ntmps8
  go_wp2_with (go_at_call 18; ((with_reducible refine (held_Mss _ f.parts _ _ hp' h0 h1).mono ?_); rintro e w' ⟨rfl, rfl⟩))
  go_ret
  exact ⟨rfl, hb⟩
end Go.Proofs.YtdaaamdighojdaaDoor
