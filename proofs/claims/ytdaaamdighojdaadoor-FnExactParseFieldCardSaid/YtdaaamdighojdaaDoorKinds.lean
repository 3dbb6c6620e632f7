/- One name for each kind of data: readings, what is owned, the laws' helpers. Conditions: none. -/
import Derived.Test.YtdaaamdighojdaaDoorFld
import Derived.Test.YtdaaamdighojdaaDoorTab
set_option linter.unusedSimpArgs false
set_option linter.unusedVariables false
namespace Go.Proofs.YtdaaamdighojdaaDoor
open Go.RowKit Go.Sort

-- []int
abbrev Rd_I := RdI
abbrev Own_I : World → Value → List Int → List Nat → Prop := OwnI 3
def Fit_I (xs : List Int) : Prop := xs.length ≤ 1048576
def cnt_I (xs : List Int) : Nat := xs.length
def mk_I (k : Int) (xs : List Int) : List Int := marks k xs.length
theorem rd_I_mono {w w' : World} {v : Value} {x : List Int} (hb : Below w.heap.size w w') (h : Rd_I w v x) : Rd_I w' v x := rdI_mono hb h
theorem own_I_rd {w : World} {v : Value} {x : List Int} {fp : List Nat} (h : Own_I w v x fp) : Rd_I w v x := ownI_rd h
theorem own_I_lt {w : World} {v : Value} {x : List Int} {fp : List Nat} (h : Own_I w v x fp) : ∀ b ∈ fp, b < w.heap.size := ownI_lt h
theorem own_I_only {w w' : World} {v : Value} {x : List Int} {fp fp' : List Nat} (h : Own_I w v x fp) (ho : Only fp' w w') (hd : ∀ b ∈ fp, b ∉ fp') : Own_I w' v x fp := ownI_only h ho hd
theorem cnt_I_le {x : List Int} (h : Fit_I x) : cnt_I x ≤ 10000000000000 := by unfold Fit_I at h; unfold cnt_I; omega
theorem eq_I (va vb : Value) (x : List Int) (w : World) (ha : Rd_I w va x) (hb : Rd_I w vb x) :
    Calls Tryd.prog 72 #[va, vb] w fun e w' => e = .returned (.bool true) ∧ Below w.heap.size w w' := qt_below (eqIntS_same va vb x w ha hb)
theorem mark_I (v : Value) (x : List Int) (fp : List Nat) (k : Int) (w : World) (h : Own_I w v x fp) (h0 : 0 ≤ k) (h1 : k + cnt_I x ≤ 1000000000000000) :
    Calls Tryd.prog 53 #[v, .int .i64 k] w fun e w' => e = .returned (.int .i64 (k + cnt_I x)) ∧ Own_I w' v (mk_I k x) fp ∧ Only fp w w' := markIntS_any v x fp k w h h0 h1
theorem held_I (v : Value) (x : List Int) (k : Int) (w : World) (h : Rd_I w v (mk_I k x)) (h0 : 0 ≤ k) (h1 : k + cnt_I x ≤ 1000000000000000) :
    Calls Tryd.prog 54 #[v, .int .i64 k] w fun e w' => e = .returned (.int .i64 (k + cnt_I x)) ∧ Below w.heap.size w w' := same_below (heldIntS_any v x.length k w h h0 h1)

-- [][]int
abbrev Rd_II := RdII
abbrev Own_II : World → Value → List (List Int) → List Nat → Prop := OwnII 33 3
abbrev Fit_II := FitII
abbrev cnt_II := cntII
abbrev mk_II := marksII
theorem rd_II_mono {w w' : World} {v : Value} {x : List (List Int)} (hb : Below w.heap.size w w') (h : Rd_II w v x) : Rd_II w' v x := rdII_mono hb h
theorem own_II_rd {w : World} {v : Value} {x : List (List Int)} {fp : List Nat} (h : Own_II w v x fp) : Rd_II w v x := ownII_rd h
theorem own_II_lt {w : World} {v : Value} {x : List (List Int)} {fp : List Nat} (h : Own_II w v x fp) : ∀ b ∈ fp, b < w.heap.size := ownII_lt h
theorem own_II_only {w w' : World} {v : Value} {x : List (List Int)} {fp fp' : List Nat} (h : Own_II w v x fp) (ho : Only fp' w w') (hd : ∀ b ∈ fp, b ∉ fp') : Own_II w' v x fp := ownII_only h ho hd
theorem cnt_II_le {x : List (List Int)} (h : Fit_II x) : cnt_II x ≤ 10000000000000 := by have := cntII_le h.1 h.2; unfold cnt_II; omega
-- []Monomial
abbrev Rd_Ms := RdMs
abbrev Own_Ms : World → Value → List MonZ → List Nat → Prop := OwnMs 35 3
theorem rd_Ms_mono {w w' : World} {v : Value} {x : List MonZ} (hb : Below w.heap.size w w') (h : Rd_Ms w v x) : Rd_Ms w' v x := rdMs_mono hb h
theorem own_Ms_rd {w : World} {v : Value} {x : List MonZ} {fp : List Nat} (h : Own_Ms w v x fp) : Rd_Ms w v x := ownMs_rd h
theorem own_Ms_lt {w : World} {v : Value} {x : List MonZ} {fp : List Nat} (h : Own_Ms w v x fp) : ∀ b ∈ fp, b < w.heap.size := ownMs_lt h
theorem own_Ms_only {w w' : World} {v : Value} {x : List MonZ} {fp fp' : List Nat} (h : Own_Ms w v x fp) (ho : Only fp' w w') (hd : ∀ b ∈ fp, b ∉ fp') : Own_Ms w' v x fp := ownMs_only h ho hd
theorem cnt_Ms_le {x : List MonZ} (h : Fit_Ms x) : cnt_Ms x ≤ 10000000000000 := by
  have := cntL_le (cnt := cnt_Mon) h.1 (m := 1048577) (fun m hm => by have := h.2 m hm; unfold Fit_Mon at this; unfold cnt_Mon; omega)
  unfold cnt_Ms
  omega

-- Field
abbrev Rd_Fld := RdFld
abbrev Own_Fld : World → Value → FldZ → List Nat → Prop := OwnFld 32 35 3
theorem rd_Fld_mono {w w' : World} {v : Value} {x : FldZ} (hb : Below w.heap.size w w') (h : Rd_Fld w v x) : Rd_Fld w' v x := rdFld_mono hb h
theorem own_Fld_rd {w : World} {v : Value} {x : FldZ} {fp : List Nat} (h : Own_Fld w v x fp) : Rd_Fld w v x := ownFld_rd h
theorem own_Fld_lt {w : World} {v : Value} {x : FldZ} {fp : List Nat} (h : Own_Fld w v x fp) : ∀ b ∈ fp, b < w.heap.size := ownFld_lt h
theorem own_Fld_only {w w' : World} {v : Value} {x : FldZ} {fp fp' : List Nat} (h : Own_Fld w v x fp) (ho : Only fp' w w') (hd : ∀ b ∈ fp, b ∉ fp') : Own_Fld w' v x fp := ownFld_only h ho hd

theorem cnt_Fld_le {x : FldZ} (h : Fit_Fld x) : cnt_Fld x ≤ 10000000000000 := by
  have := h.2.2
  unfold cnt_Fld
  omega

-- Tableau
abbrev Rd_Tab := RdTab
abbrev Own_Tab : World → Value → TabZ → List Nat → Prop := OwnTab 3
theorem rd_Tab_mono {w w' : World} {v : Value} {x : TabZ} (hb : Below w.heap.size w w') (h : Rd_Tab w v x) : Rd_Tab w' v x := rdTab_mono hb h
theorem own_Tab_rd {w : World} {v : Value} {x : TabZ} {fp : List Nat} (h : Own_Tab w v x fp) : Rd_Tab w v x := ownTab_rd h
theorem own_Tab_lt {w : World} {v : Value} {x : TabZ} {fp : List Nat} (h : Own_Tab w v x fp) : ∀ b ∈ fp, b < w.heap.size := ownTab_lt h
theorem own_Tab_only {w w' : World} {v : Value} {x : TabZ} {fp fp' : List Nat} (h : Own_Tab w v x fp) (ho : Only fp' w w') (hd : ∀ b ∈ fp, b ∉ fp') : Own_Tab w' v x fp := ownTab_only h ho hd
theorem cnt_Tab_le {x : TabZ} (h : Fit_Tab x) : cnt_Tab x ≤ 10000000000000 := by
  have h1 := h.1
  have h2 := h.2
  unfold cnt_Tab
  omega
end Go.Proofs.YtdaaamdighojdaaDoor
