/- Monomials without a number are struck out of a row, in place. Conditions: none. -/
import Derived.Test.YtdaaamdighojdaaSortS
import Derived.Lib.SliceRun
set_option linter.unusedSimpArgs false
set_option linter.unusedVariables false
namespace Go.Proofs.Ytdaaamdighojdaa
open Go.RowKit Go.Sort

def keepE (X : List ElS) : List ElS := X.filter fun x => decide (x.c ≠ 0)
theorem keepE_snoc (X : List ElS) (x : ElS) : keepE (X ++ [x]) = keepE X ++ if x.c = 0 then [] else [x] := by
  by_cases h : x.c = 0 <;> simp [keepE, h]

set_option maxHeartbeats 400000 in
theorem isz_any (c : Int) (v : Value) {b : Bool} (w : World) (h : decide (c = 0) = b) :
    Calls Try.prog 132 #[.agg #[.int .i64 c, v]] w fun e w' => e = .returned (.bool b) ∧ Below w.heap.size w w' := by
  have hb : Below w.heap.size w (w.alloc (.cells #[.int .i64 c, v] 91)) := (Below.refl _ _).alloc (Nat.le_refl _) _
  have HH := Lib.hid h
  clear h
  go_enter Try.func132, Try.ntmps132
  go_wp2
  go_ret
  exact ⟨ret_bool (by rw [← HH.out]; rfl), hb⟩

/-- Where the first monomial without a number lies. -/
def FirstZ (X : List ElS) (w : World) : Ending → World → Prop := fun e w' =>
  (e = .returned (.int .i64 (-1)) ∧ (∀ x ∈ X, x.c ≠ 0) ∨ ∃ (i : Nat) (x : ElS), e = .returned (.int .i64 i) ∧ X[i]? = some x ∧ x.c = 0 ∧ ∀ y ∈ X.take i, y.c ≠ 0) ∧ Below w.heap.size w w'

set_option maxRecDepth 100000 in
set_option maxHeartbeats 800000 in
theorem index_any (g n cap : Nat) (X : List ElS) (w0 w : World) (h : SSt 91 g n cap w0 w X) (hn : n ≤ 1048576) :
    Calls Try.prog 146 #[.slice (some ⟨g, 0, none⟩) n cap, .func (.func 132) #[] #[]] w (FirstZ X w) := by
  have HLN := Lib.hid h.len
  have HS := Lib.hid h
  have hbr := Below.refl w.heap.size w
  have HBR := Lib.hid hbr
  clear h hbr
  go_enter Try.func146, Try.ntmps146
  go_wp2
  go_loopw [8] (fun si wr => ∃ i : Nat, si = .int .i64 i ∧ i ≤ n ∧ (∀ y ∈ X.take i, y.c ≠ 0) ∧ Below w.heap.size w wr) (fun si _ => n - (intOf si).toNat)
  case atStart => exact ⟨0, rfl, Nat.zero_le _, by simp, HBR.out⟩
  case round =>
    obtain ⟨wk, rfl⟩ : ∃ W, W = wr := ⟨_, rfl⟩
    obtain ⟨i, rfl, hin, ht, hb⟩ := hrel
    have HT := Lib.hid ht
    clear ht HBR
    by_cases hlt : i < n
    case neg =>
      obtain rfl : i = n := by omega
      have HE := Lib.hid (show ∀ x ∈ X, x.c ≠ 0 from by have := HT.out; rwa [List.take_of_length_le (by rw [HLN.out]; exact Nat.le_refl _)] at this)
      go_wp2
      go_ret
      exact ⟨.inl ⟨rfl, HE.out⟩, hb⟩
    obtain ⟨x, hx⟩ : ∃ x, X[i]? = some x := ⟨_, List.getElem?_eq_getElem (by rw [HLN.out]; exact hlt)⟩
    obtain ⟨hc0, hc1, _, _⟩ := (HS.out.below hb).cells hx
    have HX := Lib.hid hx
    clear hx
    by_cases hz : x.c = 0
    · have IZ := Lib.hid (isz_any x.c x.v (b := true) wk (by simpa using hz))
      have HZ := Lib.hid hz
      clear hz
      go_wp2_with fail
      refine IZ.out.mono ?_
      rintro e w1 ⟨rfl, hb1⟩
      have hb2 := hb.trans (hb1.mono hb.size)
      go_wp2
      go_ret
      exact ⟨.inr ⟨i, x, rfl, HX.out, HZ.out, HT.out⟩, hb2⟩
    · have IZ := Lib.hid (isz_any x.c x.v (b := false) wk (by simpa using hz))
      have HZ := Lib.hid hz
      clear hz
      go_wp2_with fail
      refine IZ.out.mono ?_
      rintro e w1 ⟨rfl, hb1⟩
      have hb2 := hb.trans (hb1.mono hb.size)
      clear hb1 hc0 hc1
      go_wp2
      go_roundw
      case rel => exact ⟨i + 1, by go_num, by omega, by
        intro y hy
        rw [take_snoc HX.out, List.mem_append, List.mem_singleton] at hy
        rcases hy with hy | rfl
        · exact HT.out y hy
        · exact HZ.out, hb2⟩
      case measure => (simp [intOf]; try omega)
/-- A row's first elements. -/
theorem row_shrink {w : World} {e g n cap m : Nat} {cs : List Value} (h : w.ownsRow 0 e 2 (.slice (some ⟨g, 0, none⟩) n cap) n cs) (hm : m ≤ n) : w.ownsRow 0 e 2 (.slice (some ⟨g, 0, none⟩) m cap) m (cs.take (m * 2)) := by
  obtain ⟨h1, h2⟩ := h
  refine ⟨by rw [List.length_take]; omega, ?_⟩
  rcases h2 with ⟨h, _⟩ | ⟨g', cap', cur, hv, hb, hg, hnc, hcm, hcs, ht⟩
  · simp at h
  · simp only [Value.slice.injEq, Option.some.injEq, Addr.mk.injEq, and_true, true_and] at hv
    obtain ⟨rfl, rfl⟩ := hv
    refine .inr ⟨g, cap, cur, rfl, hb, hg, by omega, hcm, hcs, ?_⟩
    rw [← ht, List.take_take, Nat.min_eq_left (by omega)]
theorem row_setCells {e g n cap m : Nat} : ∀ (vs : List Value) (o : Nat) (w : World) (cs : List Value), w.ownsRow 0 e 2 (.slice (some ⟨g, 0, none⟩) n cap) n cs → m ≤ o →
    Only [g] w (w.setCells g o vs) ∧ ∃ cs', (w.setCells g o vs).ownsRow 0 e 2 (.slice (some ⟨g, 0, none⟩) n cap) n cs' ∧ cs'.take m = cs.take m
  | [], _, w, cs, h, _ => ⟨Only.refl _ _, cs, h, rfl⟩
  | v :: vs, o, w, cs, h, hm => by
    have h1 := (h.stored o v).1
    obtain ⟨h2, cs', h3, h4⟩ := row_setCells (m := m) vs (o + 1) (w.setCell ⟨g, o, none⟩ v) _ h1 (by omega)
    refine ⟨((Only.refl _ _).setCell (by simp) _).trans h2, cs', h3, ?_⟩
    rw [h4, List.take_set_of_le hm]

theorem run_clear_mon (P : Program) (w : World) (t e ty : TypeId) (z : Value) (ht : P.underlying t = some (.slice e)) (hv : ∀ w, (zeroValue e).run P w = .ok z w) (hz : z.cells = #[.int .i64 0, .slice none 0 0]) (b o n c : Nat) (hn : 0 < n)
    (hc : ∀ j, j < n * 2 → (w.cell? ⟨b, o + j, none⟩).isSome = true) (hf : ∀ j, j < n * 2 → w.frozen? ⟨b, o + j, none⟩ = false) :
    ∃ vs, (Builtin.clear_ #[t] ty #[.slice (some ⟨b, o, none⟩) n c]).run P w = .ok (.tuple #[]) (w.setCells b o vs) := by
  obtain ⟨vs, hvs⟩ : ∃ vs, vs = (Builtin.zeroCells z.cells n).toList := ⟨_, rfl⟩
  have hl : vs.length = n * 2 := by rw [hvs, hz]; simp [Builtin.zeroCells]
  have h1 : ∀ v ∈ vs, v.oneCell' = true := by
    intro v hv
    obtain ⟨i, hi, rfl⟩ := List.getElem_of_mem hv
    simp only [hvs, hz]
    simp [Builtin.zeroCells]
    have : i % 2 = 0 ∨ i % 2 = 1 := by omega
    rcases this with h | h <;> simp [h, Value.oneCell']
  have hst := run_storeCells_cells (P := P) b o vs 0 w (by rw [hl]; simpa using hc) (by rw [hl]; simpa using hf) h1
  simp only [Nat.add_zero] at hst
  obtain ⟨m, rfl⟩ : ∃ m, n = m + 1 := ⟨n - 1, by omega⟩
  refine ⟨vs, ?_⟩
  rw [hvs] at hst ⊢
  simp [Builtin.clear_, run_underlying ht, hv, hst]

/-- What is left. -/
def Struck (e g cap : Nat) (w0 : World) (X : List ElS) : Ending → World → Prop := fun en w' =>
  en = .returned (.slice (some ⟨g, 0, none⟩) (keepE X).length cap) ∧ Only [g] w0 w' ∧ w'.ownsRow 0 e 2 (.slice (some ⟨g, 0, none⟩) (keepE X).length cap) (keepE X).length (rowS (keepE X))

set_option maxRecDepth 100000 in
set_option maxHeartbeats 1600000 in
theorem delete_any (g n cap : Nat) (X : List ElS) (w : World) (h : SSt 91 g n cap w w X) (hn : n ≤ 1048576) (hnc : n ≤ cap) (hcm : cap ≤ 9223372036854775807) :
    Calls Try.prog 131 #[.slice (some ⟨g, 0, none⟩) n cap, .func (.func 132) #[] #[]] w (Struck 91 g cap w X) := by
  have HLN := Lib.hid h.len
  have HS := Lib.hid h
  have IX := Lib.hid (index_any g n cap X w w h hn)
  clear h
  go_enter Try.func131, Try.ntmps131
  go_wp2_with fail
  refine IX.out.mono ?_
  rintro e w1 ⟨⟨rfl, hall⟩ | ⟨i, x, rfl, hx, hz, hbef⟩, hb⟩
  · have hk : keepE X = X := List.filter_eq_self.2 (fun x hx => by simpa using hall x hx)
    have HE := Lib.hid (show Struck 91 g cap w X (.returned (.slice (some ⟨g, 0, none⟩) n cap)) w1 from ⟨by rw [hk, HLN.out], Only.of_below hb, by rw [hk, HLN.out]; exact (HS.out.below hb).row⟩)
    clear hall hk hb
    go_wp2
    go_ret
    exact HE.out
  · have hin : i < n := by have := (List.getElem?_eq_some_iff.1 hx).1; rw [HLN.out] at this; exact this
    have HK0 := Lib.hid (show keepE (X.take (i + 1)) = X.take i ∧ SSt 91 g n cap w w1 (X.take i ++ ([x] ++ X.drop (i + 1))) from ⟨by
      rw [take_snoc hx, keepE_snoc, if_pos hz, List.append_nil]
      exact List.filter_eq_self.2 (fun y hy => by simpa using hbef y hy), by
      have h1 := HS.out.below hb
      have h2 : X = X.take i ++ ([x] ++ X.drop (i + 1)) := by
        have := (List.take_append_drop (i + 1) X).symm
        rw [take_snoc hx] at this
        simpa using this
      rw [← h2]; exact h1⟩)
    have hq : ((i : Int) == -1) = false := by simp
    clear hx hz hbef hb
    go_wp2
    go_loopw [5, 6] (fun si sj wr => ∃ (i j : Nat) (M : List ElS), si = .int .i64 i ∧ sj = .int .i64 j ∧ i < j ∧ j ≤ n ∧ (keepE (X.take j)).length = i ∧ M.length = j - i ∧ SSt 91 g n cap w wr (keepE (X.take j) ++ (M ++ X.drop j))) (fun _ sj _ => n - (intOf sj).toNat)
    case atStart => exact ⟨i, i + 1, [x], rfl, by go_num, by omega, by omega, by rw [HK0.out.1, List.length_take, HLN.out]; omega, by simp, by rw [HK0.out.1]; exact HK0.out.2⟩
    case round =>
      obtain ⟨wk, rfl⟩ : ∃ W, W = wr := ⟨_, rfl⟩
      clear HK0
      obtain ⟨i, j, M, rfl, rfl, hij, hjn, hki, hM, hs⟩ := hrel
      have HKI := Lib.hid hki
      have HM := Lib.hid hM
      have HSS := Lib.hid hs
      clear hki hM
      by_cases hlt : j < n
      case neg =>
        obtain rfl : j = n := by omega
        have hXj : X.take j = X := List.take_of_length_le (by rw [HLN.out]; exact Nat.le_refl _)
        have HXJ := Lib.hid hXj
        have hlen := hs.row
        have hcell : ∀ t, t < (j - i) * 2 → (wk.cell? ⟨g, i * 2 + t, none⟩).isSome = true := fun t ht => by
          have h1 := hs.row.1
          rw [hs.row.cellAt _ (by omega), List.getElem?_eq_getElem (by omega)]
          rfl
        have CLR := Lib.hid (fun (ty : TypeId) => run_clear_mon Try.prog wk 45 91 ty (.agg #[.int .i64 0, .slice none 0 0]) Try.underlying45 (fun _ => by rfl) rfl g (i * 2) (j - i) (cap - i) (by omega) hcell (fun t _ => hs.row.frozenAt _))
        obtain ⟨vs, hclr⟩ := CLR.out 0
        have HE := Lib.hid (show Struck 91 g cap w X (.returned (.slice (some ⟨g, 0, none⟩) i cap)) (wk.setCells g (i * 2) vs) from by
          obtain ⟨h2, cs', h3, h4⟩ := row_setCells (m := i * 2) vs (i * 2) wk _ hs.row (Nat.le_refl _)
          have hki := HKI.out
          rw [hXj] at hki h4
          refine ⟨by rw [hki], hs.only.trans h2, ?_⟩
          rw [hki]
          have h5 := row_shrink h3 (m := i) (by omega)
          rw [h4, rowS_append, List.take_append_of_le_length (by rw [rowS_length, hki]; exact Nat.le_refl _), List.take_of_length_le (by rw [rowS_length, hki]; exact Nat.le_refl _)] at h5
          exact h5)
        clear hs hlen hcell hXj
        go_wp2
        go_ret
        exact HE.out
      obtain ⟨x, hx⟩ : ∃ x, X[j]? = some x := ⟨_, List.getElem?_eq_getElem (by rw [HLN.out]; exact hlt)⟩
      have hdx : X.drop j = x :: X.drop (j + 1) := by
        obtain ⟨h1, h2⟩ := List.getElem?_eq_some_iff.1 hx
        rw [List.drop_eq_getElem_cons h1, h2]
      rw [hdx] at hs
      have hjl : (keepE (X.take j) ++ M).length = j := by rw [List.length_append, HKI.out, HM.out]; omega
      obtain ⟨hc0, hc1, _, _⟩ := hs.cells (k := j) (x := x) (by rw [← List.append_assoc]; exact at_mid hjl)
      have hbx : Below wk.heap.size wk (wk.alloc (.cells #[.int .i64 x.c, x.v] 91)) := (Below.refl _ _).alloc (Nat.le_refl _) _
      have HBX := Lib.hid hbx
      have HSB := Lib.hid (fun (w' : World) (hb : Below wk.heap.size wk w') => hs.below hb)
      have HX := Lib.hid hx
      by_cases hz : x.c = 0
      · have IZ := Lib.hid (fun W : World => isz_any x.c x.v (b := true) W (by simpa using hz))
        have HN := Lib.hid (show (keepE (X.take (j + 1))) = keepE (X.take j) from by rw [take_snoc hx, keepE_snoc, if_pos hz, List.append_nil])
        clear hz hx hdx hs hjl hbx
        go_wp2_with fail
        refine (IZ.out _).mono ?_
        rintro e w2 ⟨rfl, hb2⟩
        have HS2 := Lib.hid (HSB.out w2 (HBX.out.trans (hb2.mono HBX.out.size)))
        clear hb2 hc0 hc1
        go_wp2
        go_roundw
        case rel => exact ⟨i, j + 1, M ++ [x], rfl, by go_num, by omega, by omega, by rw [HN.out]; exact HKI.out, by have := HM.out; simp; omega, by rw [HN.out]; simpa using HS2.out⟩
        case measure => (simp [intOf]; try omega)
      · have IZ := Lib.hid (fun W : World => isz_any x.c x.v (b := false) W (by simpa using hz))
        have HN := Lib.hid (show (keepE (X.take (j + 1))) = keepE (X.take j) ++ [x] from by rw [take_snoc hx, keepE_snoc, if_neg hz])
        obtain ⟨m0, M1, hM1⟩ : ∃ m0 M1, M = m0 :: M1 := by
          cases M with
          | nil => exfalso; have := HM.out; simp at this; omega
          | cons m0 M1 => exact ⟨m0, M1, rfl⟩
        subst hM1
        have hiI : (i : Int) < n := by omega
        clear hz hx hdx hs hjl hbx
        go_wp2_with fail
        refine (IZ.out _).mono ?_
        rintro e w2 ⟨rfl, hb2⟩
        have hs2 := HSB.out w2 (HBX.out.trans (hb2.mono HBX.out.size))
        obtain ⟨g0, g1, g2, g3⟩ := hs2.cells (k := i) (x := m0) (at_mid HKI.out)
        have hbc0 : w2.cell? ⟨wk.heap.size, 0, none⟩ = some (.int .i64 x.c) := cell_below hb2 (by simp)
        have hbc1 : w2.cell? ⟨wk.heap.size, 1, none⟩ = some x.v := cell_below hb2 (by simp)
        have HP := Lib.hid (hs2.put (k := i) (x := m0) (at_mid HKI.out) x)
        have HP2 := Lib.hid (show SSt 91 g n cap w ((w2.setCell ⟨g, i * 2, none⟩ (.int .i64 x.c)).setCell ⟨g, i * 2 + 1, none⟩ x.v) (keepE (X.take (j + 1)) ++ ((M1 ++ [x]) ++ X.drop (j + 1))) from by
          have h1 := HP.out
          rw [List.cons_append, set_mid' HKI.out] at h1
          rw [HN.out]
          simpa using h1)
        clear hb2 hc0 hc1 hs2
        go_wp2
        go_roundw
        case rel => exact ⟨i + 1, j + 1, M1 ++ [x], by go_num, by go_num, by omega, by omega, by rw [HN.out, List.length_append, HKI.out]; rfl, by have := HM.out; simp at this ⊢; omega, HP2.out⟩
        case measure => (simp [intOf]; try omega)
end Go.Proofs.Ytdaaamdighojdaa
