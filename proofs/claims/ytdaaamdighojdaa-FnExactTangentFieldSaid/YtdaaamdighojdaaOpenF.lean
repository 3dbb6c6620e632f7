/- From the form's readings of monomials, fields, tableaus to the readings of these proofs. Conditions: none. -/
import Derived.Test.YtdaaamdighojdaaShut
import Derived.Test.YtdaaamdighojdaaFld
import Derived.Test.YtdaaamdighojdaaTab
set_option linter.unusedSimpArgs false
set_option linter.unusedVariables false
namespace Go.Proofs.Ytdaaamdighojdaa
open Go.ChangeShapes Go.WideShapes Go.ChangeAt Go.RowKit Go.Deep Go.Joins

section
variable {H : Type} {enc : TypeId × Value → H} {P : Program} {w : World} {base : Nat} {held : Bool}

theorem trod_fields {s : TypeId} {fs : Array Go.Field} {spare : Nat → Bool} {fuel : Nat} {cs : List Value} {x : DataW H × List MemPlace} (hs : P.underlying s = some (.struct fs)) (hone : oneCellFields P fs = true) (hC : P.cellsOf s = fs.size)
    (h : DataW.trod enc P w base spare held fuel s cs = some x) : cs.length = fs.size ∧ ∃ n, ∀ (i : Nat) (f : Go.Field), fs[i]? = some f → ∃ c y, cs[i]? = some c ∧ DataW.trod enc P w base spare held n f.type [c] = some y := by
  obtain ⟨ys, n, _, _, hlen, hyl, hf⟩ := DataW.trod_struct hs h
  rw [hC] at hlen
  refine ⟨hlen, n, fun i f hi => ?_⟩
  obtain ⟨ho, hk⟩ := hone_of hone i f hi
  have hil : i < fs.size := (Array.getElem?_eq_some_iff.1 hi).1
  have h1 := hf i f hi
  rw [ho, hk] at h1
  have hone' : (cs.drop i).take 1 = [cs[i]'(by omega)] := by
    rw [List.drop_eq_getElem_cons (by omega)]
    rfl
  rw [hone'] at h1
  exact ⟨_, _, List.getElem?_eq_getElem (by omega), h1.trans (List.getElem?_eq_getElem (by omega))⟩

theorem two_of {cs : List Value} {a b : Value} (hl : cs.length = 2) (h0 : cs[0]? = some a) (h1 : cs[1]? = some b) : cs = [a, b] := by
  match cs, hl with
  | [x, y], _ => simp at h0 h1; simp [h0, h1]
theorem three_of {cs : List Value} {a b c : Value} (hl : cs.length = 3) (h0 : cs[0]? = some a) (h1 : cs[1]? = some b) (h2 : cs[2]? = some c) : cs = [a, b, c] := by
  match cs, hl with
  | [x, y, z], _ => simp at h0 h1 h2; simp [h0, h1, h2]

theorem elMon_of_trod {s t e : TypeId} {f0 f1 : Go.Field} (hs : P.underlying s = some (.struct #[f0, f1])) (hone : oneCellFields P #[f0, f1] = true) (hC : P.cellsOf s = 2)
    (h0 : P.underlying f0.type = some (.int .i64)) (h1 : f1.type = t) (ht : P.underlying t = some (.slice e)) (he : P.underlying e = some (.int .i64)) (hCe : P.cellsOf e = 1) (n : Nat) (cs : List Value) (y : DataW H × List MemPlace)
    (h : DataW.trod enc P w base (fun _ => true) held n s cs = some y) : ∃ x : MonZ, ElMon w cs x := by
  obtain ⟨hl, m, hf⟩ := trod_fields hs hone hC h
  obtain ⟨c0, y0, hc0, ht0⟩ := hf 0 f0 rfl
  obtain ⟨c1, y1, hc1, ht1⟩ := hf 1 f1 rfl
  obtain ⟨x0, hx0, hI⟩ := elI_of_trod h0 m _ _ ht0
  rw [h1] at ht1
  obtain ⟨v, xs, hv, hx⟩ := rdS_of_trod ht hCe (by omega) (elI_of_trod he) ht1
  simp only [List.cons.injEq, and_true] at hx0 hv
  subst hx0 hv
  exact ⟨⟨x0, xs⟩, _, two_of hl hc0 hc1, hI, hx⟩

theorem elMss_of_trod {p s t e : TypeId} {f0 f1 : Go.Field} (hp : P.underlying p = some (.slice s)) (hs : P.underlying s = some (.struct #[f0, f1])) (hone : oneCellFields P #[f0, f1] = true) (hC : P.cellsOf s = 2)
    (h0 : P.underlying f0.type = some (.int .i64)) (h1 : f1.type = t) (ht : P.underlying t = some (.slice e)) (he : P.underlying e = some (.int .i64)) (hCe : P.cellsOf e = 1) (n : Nat) (cs : List Value) (y : DataW H × List MemPlace)
    (h : DataW.trod enc P w base (fun _ => true) held n p cs = some y) : ∃ x : List MonZ, ElMss w cs x := by
  obtain ⟨v, xs, rfl, hx⟩ := rdS_of_trod hp hC (by omega) (elMon_of_trod hs hone hC h0 h1 ht he hCe) h
  exact ⟨xs, v, rfl, hx⟩

/-- An argument that is a field. -/
theorem fld_of_arg {q a p s t e : TypeId} {g0 g1 f0 f1 : Go.Field} {v : Value} {d : DataW H} {pl : List MemPlace} {r : Reach} {b0 : Nat}
    (hq : P.underlying q = some (.struct #[g0, g1])) (hqone : oneCellFields P #[g0, g1] = true) (hqC : P.cellsOf q = 2) (hg0 : P.underlying g0.type = some (.int .i64)) (hg1 : g1.type = a) (ha : P.underlying a = some (.slice p)) (hpC : P.cellsOf p = 1)
    (hp : P.underlying p = some (.slice s)) (hs : P.underlying s = some (.struct #[f0, f1])) (hone : oneCellFields P #[f0, f1] = true) (hC : P.cellsOf s = 2)
    (h0 : P.underlying f0.type = some (.int .i64)) (h1 : f1.type = t) (ht : P.underlying t = some (.slice e)) (he : P.underlying e = some (.int .i64)) (hCe : P.cellsOf e = 1)
    (hval : Value.okWide P w r b0 q v) (h : DataW.Trod enc P w base (fun _ => true) held q v d pl) : ∃ f : FldZ, RdFld w v f := by
  obtain ⟨cs, rfl, hsz⟩ := okWide_struct hq hval
  obtain ⟨fuel, hf⟩ := h
  obtain ⟨hl, m, hf⟩ := trod_fields hq hqone hqC hf
  obtain ⟨c0, y0, hc0, ht0⟩ := hf 0 g0 rfl
  obtain ⟨c1, y1, hc1, ht1⟩ := hf 1 g1 rfl
  obtain ⟨x0, hx0, hI⟩ := elI_of_trod hg0 m _ _ ht0
  rw [hg1] at ht1
  obtain ⟨v, xs, hv, hx⟩ := rdS_of_trod ha hpC (by omega) (elMss_of_trod hp hs hone hC h0 h1 ht he hCe) ht1
  simp only [List.cons.injEq, and_true] at hx0 hv
  subst hx0 hv
  have e1 := two_of hl hc0 hc1
  simp [Value.cells] at e1
  have e2 : cs = #[.int .i64 x0, c1] := by cases cs; simp_all
  subst e2
  exact ⟨⟨x0, xs⟩, _, rfl, hI, hx⟩

/-- An argument that is a tableau. -/
theorem tab_of_arg {q a b e : TypeId} {g0 g1 g2 : Go.Field} {v : Value} {d : DataW H} {pl : List MemPlace} {r : Reach} {b0 : Nat}
    (hq : P.underlying q = some (.struct #[g0, g1, g2])) (hqone : oneCellFields P #[g0, g1, g2] = true) (hqC : P.cellsOf q = 3) (hg0 : P.underlying g0.type = some (.int .i64)) (hg1 : g1.type = a) (hg2 : g2.type = b)
    (ha : P.underlying a = some (.slice e)) (hb : P.underlying b = some (.slice e)) (he : P.underlying e = some (.int .i64)) (hCe : P.cellsOf e = 1)
    (hval : Value.okWide P w r b0 q v) (h : DataW.Trod enc P w base (fun _ => true) held q v d pl) : ∃ f : TabZ, RdTab w v f := by
  obtain ⟨cs, rfl, hsz⟩ := okWide_struct hq hval
  obtain ⟨fuel, hf⟩ := h
  obtain ⟨hl, m, hf⟩ := trod_fields hq hqone hqC hf
  obtain ⟨c0, y0, hc0, ht0⟩ := hf 0 g0 rfl
  obtain ⟨c1, y1, hc1, ht1⟩ := hf 1 g1 rfl
  obtain ⟨c2, y2, hc2, ht2⟩ := hf 2 g2 rfl
  obtain ⟨x0, hx0, hI⟩ := elI_of_trod hg0 m _ _ ht0
  rw [hg1] at ht1
  rw [hg2] at ht2
  obtain ⟨v1, xs1, hv1, hx1⟩ := rdS_of_trod ha hCe (by omega) (elI_of_trod he) ht1
  obtain ⟨v2, xs2, hv2, hx2⟩ := rdS_of_trod hb hCe (by omega) (elI_of_trod he) ht2
  simp only [List.cons.injEq, and_true] at hx0 hv1 hv2
  subst hx0 hv1 hv2
  have e1 := three_of hl hc0 hc1 hc2
  simp [Value.cells] at e1
  have e2 : cs = #[.int .i64 x0, c1, c2] := by cases cs; simp_all
  subst e2
  exact ⟨⟨x0, xs1, xs2⟩, _, _, rfl, hI, hx1, hx2⟩
end

theorem Try.cells_lmon : Try.prog.cellsOf 89 = 2 := by kernel_rfl
theorem Try.cells_lmons : Try.prog.cellsOf 41 = 1 := by kernel_rfl
theorem Try.cells_lfld : Try.prog.cellsOf 32 = 2 := by kernel_rfl
theorem Try.cells_ltab : Try.prog.cellsOf 65 = 3 := by kernel_rfl

set_option maxRecDepth 100000 in
theorem ms_arg {H : Type} {enc : TypeId × Value → H} {w : World} {base : Nat} {held : Bool} {v : Value} {d : DataW H} {pl : List MemPlace} {r : Reach} {b0 : Nat}
    (hval : Value.okWide Try.prog w r b0 41 v) (h : DataW.Trod enc Try.prog w base (fun _ => true) held 41 v d pl) : ∃ x : List MonZ, RdMs w v x :=
  rdS_of_arg Try.underlying41 Try.cells_lmon (by omega) (elMon_of_trod Try.underlying89 (by kernel_rfl) Try.cells_lmon Try.underlying3 rfl Try.underlying24 Try.underlying3 Try.cells_int) hval h
set_option maxRecDepth 100000 in
theorem fld_arg {H : Type} {enc : TypeId × Value → H} {w : World} {base : Nat} {held : Bool} {v : Value} {d : DataW H} {pl : List MemPlace} {r : Reach} {b0 : Nat}
    (hval : Value.okWide Try.prog w r b0 32 v) (h : DataW.Trod enc Try.prog w base (fun _ => true) held 32 v d pl) : ∃ x : FldZ, RdFld w v x :=
  fld_of_arg Try.underlying32 (by kernel_rfl) Try.cells_lfld Try.underlying3 rfl Try.underlying30 Try.cells_lmons Try.underlying41 Try.underlying89 (by kernel_rfl) Try.cells_lmon Try.underlying3 rfl Try.underlying24 Try.underlying3 Try.cells_int hval h
set_option maxRecDepth 100000 in
theorem tab_arg {H : Type} {enc : TypeId × Value → H} {w : World} {base : Nat} {held : Bool} {v : Value} {d : DataW H} {pl : List MemPlace} {r : Reach} {b0 : Nat}
    (hval : Value.okWide Try.prog w r b0 65 v) (h : DataW.Trod enc Try.prog w base (fun _ => true) held 65 v d pl) : ∃ x : TabZ, RdTab w v x :=
  tab_of_arg Try.underlying65 (by kernel_rfl) Try.cells_ltab Try.underlying3 rfl rfl Try.underlying24 Try.underlying24 Try.underlying3 Try.cells_int hval h
end Go.Proofs.Ytdaaamdighojdaa
