/- The texts LawHel, LawHl2, Kinds in one: each says at its head what it proves. Conditions: as said there. -/
import Derived.Test.YtbcjhpgkodeoeaaGreatDoorG47
import Derived.Test.YtbcjhpgkodeoeaaGreatDoorG02
import Derived.Test.YtbcjhpgkodeoeaaGreatDoorG03
set_option linter.unusedSimpArgs false
set_option linter.unusedVariables false
/- The laws' own helpers: the size of an argument, shapes, comparisons. Conditions: none. -/
namespace Go.Proofs.YtbcjhpgkodeoeaaGreatDoor
open Go.ChangeShapes Go.WideShapes Go.ChangeAt Go.RowKit Go.Deep Go.Joins

theorem Tryz.cells_byte : Tryz.prog.cellsOf 5 = 1 := by kernel_rfl
theorem elB_of_trod {H : Type} {enc : TypeId × Value → H} {P : Program} {w : World} {base : Nat} {held : Bool} {e : TypeId} (he : P.underlying e = some (.int .u8)) {spare : Nat → Bool} (n : Nat) (cs : List Value) (y : DataW H × List MemPlace)
    (h : DataW.trod enc P w base spare held n e cs = some y) : ∃ x : Int, ElB w cs x := by
  obtain ⟨x, rfl, _, hw⟩ := DataW.trod_int he h
  have := bounds_u8 hw
  exact ⟨x, rfl, this.1, by omega⟩
theorem big_any (ad : Option Addr) (len cap : Nat) (w : World) : Calls Tryz.prog 6 #[.slice ad len cap] w fun e w' => e = .returned (.bool (decide ((1048576 : Int) < len))) ∧ w = w' := by
  go_enter Tryz.func6, Tryz.ntmps6
  go_wp2
  go_ret
  exact ⟨rfl, rfl⟩
set_option maxHeartbeats 800000 in
theorem shaped_any (vp : Value) (xs : List (List Int)) (d n : Nat) (dz nz : Int) (w : World) (h : RdII w vp xs) (hd : dz = d) (hn : nz = n) (hl : xs.length = n) (hx : ∀ x ∈ xs, x.length = d) :
    Calls Tryz.prog 14 #[vp, .int .i64 nz, .int .i64 dz] w fun e w' => e = .returned (.bool true) ∧ w = w' := by
  obtain ⟨ad, len, cap, rfl, hlen, hlc, hcm, h'⟩ := rdS_open h
  have HE := Lib.hid (show (len : Int) = nz from by omega)
  have HD := Lib.hid hd
  have HX := Lib.hid hx
  clear h hd hn hl hx hlen
  go_enter Tryz.func14, Tryz.ntmps14
  go_wp2
  go_loopw [7] (fun i wr => ∃ k : Nat, k ≤ len ∧ i = .int .i64 k ∧ wr = w) (fun i _ => len - (intOf i).toNat)
  case atStart => exact ⟨0, Nat.zero_le _, rfl, rfl⟩
  case round =>
    obtain ⟨k, hk, rfl, rfl⟩ := hrel
    by_cases hlt : k < len
    · obtain ⟨b, off, ad', len', cap', x, rfl, hx, hc, hl', _, _, _, _⟩ := rdII_get h' hlt
      have hb : ((len' : Int) != dz) = false := by
        have h1 := HX.out x (List.mem_of_getElem? hx)
        have h2 := HD.out
        simp
        omega
      clear hx hl'
      go_wp2
      go_roundw
      case rel => exact ⟨k + 1, by omega, by go_num, trivial⟩
      case measure => simp [intOf]; omega
    · have hb : ((len : Int) == nz) = true := by simpa using HE.out
      go_wp2
      go_ret
      exact ⟨rfl, rfl⟩
set_option maxHeartbeats 800000 in
theorem ints_same (va vb : Value) (xs : List Int) (w : World) (ha : RdI w va xs) (hb : RdI w vb xs) : Calls Tryz.prog 17 #[va, vb] w (Qt (.bool true) w) := by
  obtain ⟨ad, len, cap, rfl, hl, hlc, hcm, h'⟩ := rdS_open ha
  obtain ⟨ad2, len2, cap2, rfl, hl2, hlc2, hcm2, h2'⟩ := rdS_open hb
  have hll : len = len2 := by omega
  subst hll
  clear ha hb hl hl2
  go_enter Tryz.func17, Tryz.ntmps17
  go_wp2
  go_loopw [5] (fun i wr => ∃ k : Nat, k ≤ len ∧ i = .int .i64 k ∧ ∃ m, wr = w.drewN m) (fun i _ => len - (intOf i).toNat)
  case atStart => exact ⟨0, Nat.zero_le _, rfl, 0, rfl⟩
  case round =>
    obtain ⟨k, hk, rfl, m, hwr⟩ := hrel
    have h'r := rdI_drewN m h'
    have h2'r := rdI_drewN m h2'
    rw [← hwr] at h'r h2'r
    have HW := Lib.hid hwr
    clear hwr
    by_cases hlt : k < len
    · obtain ⟨b, off, x, rfl, hx, hc, hI, _⟩ := rdI_get h'r hlt
      obtain ⟨b2, off2, y, rfl, hy, hc2, hI2, _⟩ := rdI_get h2'r hlt
      rw [hx] at hy
      obtain rfl := Option.some.inj hy
      clear hx hy
      go_wp2
      go_quiet (fail)
      go_wp2
      go_roundw
      case rel => exact ⟨k + 1, by omega, by go_num, _, by rw [HW.out, World.drewN_drewN]⟩
      case measure => simp [intOf]; omega
    · go_wp2
      go_ret
      exact ⟨rfl, m, HW.out⟩
end Go.Proofs.YtbcjhpgkodeoeaaGreatDoor

/- The laws' helpers that compare paths. Conditions: none. -/
namespace Go.Proofs.YtbcjhpgkodeoeaaGreatDoor
open Go.ChangeShapes Go.WideShapes Go.ChangeAt Go.RowKit Go.Deep Go.Joins

set_option maxRecDepth 100000 in
set_option maxHeartbeats 1600000 in
theorem paths_same (va vb : Value) (xs : List (List Int)) (w : World) (ha : RdII w va xs) (hb : RdII w vb xs) : Calls Tryz.prog 37 #[va, vb] w (Qt (.bool true) w) := by
  obtain ⟨ad, len, cap, rfl, hl, hlc, hcm, h'⟩ := rdS_open ha
  obtain ⟨ad2, len2, cap2, rfl, hl2, hlc2, hcm2, h2'⟩ := rdS_open hb
  have hll : len = len2 := by omega
  subst hll
  clear ha hb hl hl2
  go_enter Tryz.func37, Tryz.ntmps37
  go_wp2
  go_loopw [5] (fun i wr => ∃ k : Nat, k ≤ len ∧ i = .int .i64 k ∧ ∃ m, wr = w.drewN m) (fun i _ => len - (intOf i).toNat)
  case atStart => exact ⟨0, Nat.zero_le _, rfl, 0, rfl⟩
  case round =>
    obtain ⟨wk, rfl⟩ : ∃ W, W = wr := ⟨_, rfl⟩
    obtain ⟨k, hk, rfl, m, hwr⟩ := hrel
    have hbk : Below w.heap.size w wk := hwr ▸ blw_drewN (Below.refl _ _) m
    have h'r := rdII_mono hbk h'
    have h2'r := rdII_mono hbk h2'
    have HW := Lib.hid hwr
    clear hwr hbk
    by_cases hlt : k < len
    · obtain ⟨b, off, ad', len', cap', x, rfl, hx, hc, hl', _, _, hr, _⟩ := rdII_get h'r hlt
      obtain ⟨b2, off2, ad2', len2', cap2', y, rfl, hy, hc2, hl2', _, _, hr2, _⟩ := rdII_get h2'r hlt
      rw [hx] at hy
      obtain rfl := Option.some.inj hy
      have HI := Lib.hid (fun q => ints_same (.slice ad' len' cap') (.slice ad2' len2' cap2') x (wk.drewN q) (rdI_drewN q hr) (rdI_drewN q hr2))
      clear hx hy hr hr2 hl' hl2' h'r h2'r
      go_wp2
      go_quiet ((go_at_call 17; exact quiet_qt (HI.out _)))
      go_wp2
      go_roundw
      case rel => exact ⟨k + 1, by omega, by go_num, _, by rw [HW.out, World.drewN_drewN]⟩
      case measure => simp [intOf]; omega
    · go_wp2
      go_ret
      exact ⟨rfl, m, HW.out⟩
end Go.Proofs.YtbcjhpgkodeoeaaGreatDoor

/- One name for each kind of data: readings, what is owned, the laws' helpers. Conditions: none. -/
namespace Go.Proofs.YtbcjhpgkodeoeaaGreatDoor
open Go.RowKit Go.Sort

-- []int
abbrev Rd_I := RdI
abbrev Own_I : World → Value → List Int → List Nat → Prop := OwnI 3
def Fit_I (xs : List Int) : Prop := xs.length ≤ 1048576
def cnt_I (xs : List Int) : Nat := xs.length
def mk_I (k : Int) (xs : List Int) : List Int := marks k xs.length
theorem rd_I_mono {w w' : World} {v : Value} {x : List Int} (hb : Below w.heap.size w w') (h : Rd_I w v x) : Rd_I w' v x := rdI_mono hb h
theorem own_I_rd {w : World} {v : Value} {x : List Int} {fp : List Nat} (h : Own_I w v x fp) : Rd_I w v x := ownI_rd h
theorem own_I_lt {w : World} {v : Value} {x : List Int} {fp : List Nat} (h : Own_I w v x fp) : ∀ b ∈ fp, b < w.heap.size := ownI_lt h
theorem own_I_only {w w' : World} {v : Value} {x : List Int} {fp fp' : List Nat} (h : Own_I w v x fp) (ho : Only fp' w w') (hd : ∀ b ∈ fp, b ∉ fp') : Own_I w' v x fp := ownI_only h ho hd
theorem cnt_I_le {x : List Int} (h : Fit_I x) : cnt_I x ≤ 10000000000000 := by unfold Fit_I at h; unfold cnt_I; omega
-- [][]int
abbrev Rd_II := RdII
abbrev Own_II : World → Value → List (List Int) → List Nat → Prop := OwnII 35 3
abbrev Fit_II := FitII
abbrev cnt_II := cntII
abbrev mk_II := marksII
theorem rd_II_mono {w w' : World} {v : Value} {x : List (List Int)} (hb : Below w.heap.size w w') (h : Rd_II w v x) : Rd_II w' v x := rdII_mono hb h
theorem own_II_rd {w : World} {v : Value} {x : List (List Int)} {fp : List Nat} (h : Own_II w v x fp) : Rd_II w v x := ownII_rd h
theorem own_II_lt {w : World} {v : Value} {x : List (List Int)} {fp : List Nat} (h : Own_II w v x fp) : ∀ b ∈ fp, b < w.heap.size := ownII_lt h
theorem own_II_only {w w' : World} {v : Value} {x : List (List Int)} {fp fp' : List Nat} (h : Own_II w v x fp) (ho : Only fp' w w') (hd : ∀ b ∈ fp, b ∉ fp') : Own_II w' v x fp := ownII_only h ho hd
theorem cnt_II_le {x : List (List Int)} (h : Fit_II x) : cnt_II x ≤ 10000000000000 := by have := cntII_le h.1 h.2; unfold cnt_II; omega
-- []Monomial
abbrev Rd_Ms := RdMs
abbrev Own_Ms : World → Value → List MonZ → List Nat → Prop := OwnMs 56 3
theorem rd_Ms_mono {w w' : World} {v : Value} {x : List MonZ} (hb : Below w.heap.size w w') (h : Rd_Ms w v x) : Rd_Ms w' v x := rdMs_mono hb h
theorem own_Ms_rd {w : World} {v : Value} {x : List MonZ} {fp : List Nat} (h : Own_Ms w v x fp) : Rd_Ms w v x := ownMs_rd h
theorem own_Ms_lt {w : World} {v : Value} {x : List MonZ} {fp : List Nat} (h : Own_Ms w v x fp) : ∀ b ∈ fp, b < w.heap.size := ownMs_lt h
theorem own_Ms_only {w w' : World} {v : Value} {x : List MonZ} {fp fp' : List Nat} (h : Own_Ms w v x fp) (ho : Only fp' w w') (hd : ∀ b ∈ fp, b ∉ fp') : Own_Ms w' v x fp := ownMs_only h ho hd
theorem cnt_Ms_le {x : List MonZ} (h : Fit_Ms x) : cnt_Ms x ≤ 10000000000000 := by
  have := cntL_le (cnt := cnt_Mon) h.1 (m := 1048577) (fun m hm => by have := h.2 m hm; unfold Fit_Mon at this; unfold cnt_Mon; omega)
  unfold cnt_Ms
  omega

-- Field
abbrev Rd_Fld := RdFld
abbrev Own_Fld : World → Value → FldZ → List Nat → Prop := OwnFld 24 56 3
theorem rd_Fld_mono {w w' : World} {v : Value} {x : FldZ} (hb : Below w.heap.size w w') (h : Rd_Fld w v x) : Rd_Fld w' v x := rdFld_mono hb h
theorem own_Fld_rd {w : World} {v : Value} {x : FldZ} {fp : List Nat} (h : Own_Fld w v x fp) : Rd_Fld w v x := ownFld_rd h
theorem own_Fld_lt {w : World} {v : Value} {x : FldZ} {fp : List Nat} (h : Own_Fld w v x fp) : ∀ b ∈ fp, b < w.heap.size := ownFld_lt h
theorem own_Fld_only {w w' : World} {v : Value} {x : FldZ} {fp fp' : List Nat} (h : Own_Fld w v x fp) (ho : Only fp' w w') (hd : ∀ b ∈ fp, b ∉ fp') : Own_Fld w' v x fp := ownFld_only h ho hd

theorem cnt_Fld_le {x : FldZ} (h : Fit_Fld x) : cnt_Fld x ≤ 10000000000000 := by
  have := h.2.2
  unfold cnt_Fld
  omega

-- Tableau
abbrev Rd_Tab := RdTab
abbrev Own_Tab : World → Value → TabZ → List Nat → Prop := OwnTab 3
theorem rd_Tab_mono {w w' : World} {v : Value} {x : TabZ} (hb : Below w.heap.size w w') (h : Rd_Tab w v x) : Rd_Tab w' v x := rdTab_mono hb h
theorem own_Tab_rd {w : World} {v : Value} {x : TabZ} {fp : List Nat} (h : Own_Tab w v x fp) : Rd_Tab w v x := ownTab_rd h
theorem own_Tab_lt {w : World} {v : Value} {x : TabZ} {fp : List Nat} (h : Own_Tab w v x fp) : ∀ b ∈ fp, b < w.heap.size := ownTab_lt h
theorem own_Tab_only {w w' : World} {v : Value} {x : TabZ} {fp fp' : List Nat} (h : Own_Tab w v x fp) (ho : Only fp' w w') (hd : ∀ b ∈ fp, b ∉ fp') : Own_Tab w' v x fp := ownTab_only h ho hd
theorem cnt_Tab_le {x : TabZ} (h : Fit_Tab x) : cnt_Tab x ≤ 10000000000000 := by
  have h1 := h.1
  have h2 := h.2
  unfold cnt_Tab
  omega
end Go.Proofs.YtbcjhpgkodeoeaaGreatDoor
