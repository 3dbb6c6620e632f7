/- The texts SerP, SortW, SortI in one: each says at its head what it proves. Conditions: as said there. -/
import Derived.Deep.RegionLaw
import Derived.Test.YtbcjhpgkodeoeaaGreatDoorN31
import Derived.Test.YtbcjhpgkodeoeaaGreatDoorN29
import Derived.Test.YtbcjhpgkodeoeaaGreatDoorN08
import Derived.Test.YtbcjhpgkodeoeaaGreatDoorN04
set_option linter.unusedSimpArgs false
set_option linter.unusedVariables false
/- Jets as series: products, powers, polynomials; a polynomial's value at a vector of series. Plain: no program's step stands here. -/
namespace Go.Proofs.YtbcjhpgkodeoeaaGreatDoor

theorem sm_sumZ (f : Nat → Int) : ∀ n, sumZ f (List.range n) = sm f n
  | 0 => rfl
  | n + 1 => by rw [List.range_succ, sumZ_append, sumZ_cons, sumZ_nil, Int.add_zero, sm_sumZ f n, sm]
/-- a jet as a series -/
def se (x : List Int) : Ser := atZ x
theorem se_mul (a b : List Int) : Sm a.length (se (mulZ a b)) (cv (se a) (se b)) := fun k hk => by
  show resZ (atZ (mulZ a b) k) = _
  rw [mulZ_at hk, res_res, sm_sumZ]
  rfl
theorem se_add (a b : List Int) (c : Int) : Sm a.length (se (addJ a b c)) (ad (se a) (sc c (se b))) := fun k hk => by
  show resZ (atZ (addJ a b c) k) = resZ (atZ a k + c * atZ b k)
  rw [addJ_at hk]
  simp only [plusZ, timesZ, resZ]
  rw [Int.mul_comm c]
  omega
theorem sc_one (a : Ser) : sc 1 a = a := by funext k; simp [sc]
theorem on_cv (a : Ser) : cv (on 1) a = a := by rw [cv_on, sc_one]
theorem cv_on1 (a : Ser) : cv a (on 1) = a := by rw [cv_comm, on_cv]
/-- powers -/
def pwN (y : Ser) : Nat → Ser
  | 0 => on 1
  | n + 1 => cv (pwN y n) y
def pwV (Y : Vec) (ps : List Int) : Nat → Ser
  | 0 => on 1
  | v + 1 => cv (pwV Y ps v) (pwN (Y v) (atZ ps v).toNat)
theorem se_powN (y a : List Int) : ∀ n, Sm a.length (se (powN y a n)) (cv (se a) (pwN (se y) n))
  | 0 => Sm.of_eq (by rw [pwN, cv_on1]; rfl)
  | n + 1 => by
    have h := se_mul (powN y a n) y
    rw [powN_len] at h
    refine h.trans (((se_powN y a n).cv (Sm.refl _)).trans (Sm.of_eq ?_))
    rw [pwN, cv_assoc]
theorem se_powV (y : List (List Int)) (ps a : List Int) : ∀ v, Sm a.length (se (powV y ps a v)) (cv (se a) (pwV (fun i => se (atL y i)) ps v))
  | 0 => Sm.of_eq (by rw [pwV, cv_on1]; rfl)
  | v + 1 => by
    have h := se_powN (atL y v) (powV y ps a v) (atZ ps v).toNat
    rw [powV_len] at h
    refine h.trans (((se_powV y ps a v).cv (Sm.refl _)).trans (Sm.of_eq ?_))
    rw [pwV, cv_assoc]
theorem se_oneAt (c : Int) {n : Nat} (hn : 0 < n) : Sm n (se (oneAt c n)) (on c) := fun k hk => by
  show resZ (atZ (oneAt c n) k) = _
  unfold oneAt on
  rw [atZ_set (by simp; omega), atZ_rep]
/-- a monomial's value, a polynomial's -/
def mv (Y : Vec) (m : MonZ) : Ser := sc m.coef (pwV Y m.pows m.pows.length)
def pv (Y : Vec) (p : List MonZ) : Ser := fun k => sumZ (fun m => mv Y m k) p
theorem pv_nil (Y : Vec) : pv Y [] = ze := by funext k; rfl
theorem pv_cons (Y : Vec) (m : MonZ) (p : List MonZ) : pv Y (m :: p) = ad (mv Y m) (pv Y p) := by funext k; exact sumZ_cons _ _ _
theorem pv_append (Y : Vec) (p q : List MonZ) : pv Y (p ++ q) = ad (pv Y p) (pv Y q) := by funext k; exact sumZ_append _ _ _
theorem dervP_pv {p : List MonZ} {y : List (List Int)} (h0 : 0 < hdL y) : ∀ k, k ≤ p.length → Sm (hdL y) (se (dervP p y [] k)) (pv (fun i => se (atL y i)) (p.take k))
  | 0, _ => fun j hj => by
    show resZ (atZ (List.replicate (hdL y) 0) j) = _
    rw [atZ_rep]
    rfl
  | k + 1, hk => by
    have hx : p[k]? = some p[k] := List.getElem?_eq_getElem (by omega)
    have h := se_add (dervP p y [] k) (oneL y [] p[k].pows) p[k].coef
    have e : dervP p y [] (k + 1) = addJ (dervP p y [] k) (oneL y [] p[k].pows) p[k].coef := by rw [dervP, hx]; rfl
    rw [dervP_len] at h
    rw [e, take_snoc hx, pv_append, pv_cons, pv_nil]
    refine h.trans ((dervP_pv h0 k (by omega)).ad ?_)
    have h2 := se_powV y p[k].pows (oneAt 1 (hdL y)) p[k].pows.length
    rw [oneAt_len] at h2
    have h3 : Sm (hdL y) (se (oneL y [] p[k].pows)) (pwV (fun i => se (atL y i)) p[k].pows p[k].pows.length) := by
      rw [oneL]
      refine h2.trans (((se_oneAt 1 h0).cv (Sm.refl _)).trans (Sm.of_eq (on_cv _)))
    refine (Sm.sc _ h3).trans (Sm.of_eq ?_)
    funext j
    simp [ad, ze, mv]
/-- A polynomial's value along jets is its value at the series. -/
theorem dervL_pv {p : List MonZ} {y : List (List Int)} (h0 : 0 < hdL y) : Sm (hdL y) (se (dervL p y [])) (pv (fun i => se (atL y i)) p) := by
  have h := dervP_pv (p := p) h0 p.length (Nat.le_refl _)
  rwa [List.take_length] at h
theorem Sm.pwN {N : Nat} {a b : Ser} (h : Sm N a b) : ∀ n, Sm N (Go.Proofs.YtbcjhpgkodeoeaaGreatDoor.pwN a n) (Go.Proofs.YtbcjhpgkodeoeaaGreatDoor.pwN b n)
  | 0 => Sm.refl _
  | n + 1 => (Sm.pwN h n).cv h
theorem VSm.pwV {N : Nat} {Y Z : Vec} (h : VSm N Y Z) (ps : List Int) : ∀ v, Sm N (Go.Proofs.YtbcjhpgkodeoeaaGreatDoor.pwV Y ps v) (Go.Proofs.YtbcjhpgkodeoeaaGreatDoor.pwV Z ps v)
  | 0 => Sm.refl _
  | v + 1 => (VSm.pwV h ps v).cv ((h v).pwN _)
theorem VSm.pv {N : Nat} {Y Z : Vec} (h : VSm N Y Z) (p : List MonZ) : Sm N (Go.Proofs.YtbcjhpgkodeoeaaGreatDoor.pv Y p) (Go.Proofs.YtbcjhpgkodeoeaaGreatDoor.pv Z p) := fun k hk =>
  res_sum fun m _ => (Sm.sc _ (h.pwV m.pows m.pows.length)) k hk

/-- What a polynomial is worth depends on its numbers alone. -/
theorem pv_part (Y : Vec) (ps : List Int) : ∀ p : List MonZ, pv Y p = ad (sc (coefAt ps p) (pwV Y ps ps.length)) (pv Y (p.filter fun m => decide (m.pows ≠ ps)))
  | [] => by funext k; simp [pv, coefAt, sc, ad, sumZ]
  | m :: p => by
    rw [pv_cons, pv_part Y ps p]
    by_cases h : m.pows = ps
    · rw [List.filter_cons_of_neg (by simp [h])]
      funext k
      simp only [ad, mv, sc, coefAt, if_pos h, h]
      grind
    · rw [List.filter_cons_of_pos (by simp [h]), pv_cons]
      funext k
      simp only [ad, mv, sc, coefAt, if_neg h]
      grind
theorem coefAt_filter (ps qs : List Int) : ∀ p : List MonZ, coefAt ps (p.filter fun m => decide (m.pows ≠ qs)) = if ps = qs then 0 else coefAt ps p
  | [] => by simp [coefAt]
  | m :: p => by
    have ih := coefAt_filter ps qs p
    by_cases h : m.pows = qs
    · rw [List.filter_cons_of_neg (by simp [h]), ih]
      by_cases hp : ps = qs
      · rw [if_pos hp, if_pos hp]
      · rw [if_neg hp, if_neg hp, coefAt, if_neg (by rw [h]; exact fun e => hp e.symm), Int.zero_add]
    · rw [List.filter_cons_of_pos (by simp [h]), coefAt, ih]
      by_cases hp : ps = qs
      · rw [if_pos hp, if_pos hp, if_neg (by rw [hp]; exact h)]; rfl
      · rw [if_neg hp, if_neg hp, coefAt]
theorem pv_coef (Y : Vec) : ∀ (n : Nat) (p q : List MonZ), p.length + q.length ≤ n → (∀ ps, resZ (coefAt ps p) = resZ (coefAt ps q)) → ∀ N, Sm N (pv Y p) (pv Y q)
  | 0, p, q, hn, _, N => by
    have hp : p = [] := List.length_eq_zero_iff.1 (by omega)
    have hq : q = [] := List.length_eq_zero_iff.1 (by omega)
    rw [hp, hq]
    exact Sm.refl _
  | n + 1, p, q, hn, h, N => by
    have key : ∀ ps, (p.filter fun m => decide (m.pows ≠ ps)).length + (q.filter fun m => decide (m.pows ≠ ps)).length ≤ n → Sm N (pv Y p) (pv Y q) := fun ps hl => by
      rw [pv_part Y ps p, pv_part Y ps q]
      refine Sm.ad (fun k _ => ?_) (pv_coef Y n _ _ hl (fun qs => ?_) N)
      · show resZ (coefAt ps p * _) = resZ (coefAt ps q * _)
        exact res_mul2 (h ps) rfl
      · rw [coefAt_filter, coefAt_filter]
        split
        · rfl
        · exact h qs
    cases p with
    | cons m p =>
      refine key m.pows ?_
      rw [List.filter_cons_of_neg (by simp)]
      have h1 := List.length_filter_le (fun x : MonZ => decide (x.pows ≠ m.pows)) p
      have h2 := List.length_filter_le (fun x : MonZ => decide (x.pows ≠ m.pows)) q
      simp at hn
      omega
    | nil =>
      cases q with
      | nil => exact Sm.refl _
      | cons m q =>
        refine key m.pows ?_
        rw [List.filter_cons_of_neg (by simp)]
        have h2 := List.length_filter_le (fun x : MonZ => decide (x.pows ≠ m.pows)) q
        simp at hn ⊢
        simp at h2
        omega
theorem pv_putAll (Y : Vec) {q : List MonZ} (hq : NumsM q) (N : Nat) : Sm N (pv Y (putAll [] q)) (pv Y q) :=
  pv_coef Y _ _ _ (Nat.le_refl _) (fun ps => by
    have h := (putAll_canon (p := []) canon_nil hq).2 ps
    unfold resZ
    rw [h]
    simp [coefAt]) N
end Go.Proofs.YtbcjhpgkodeoeaaGreatDoor

/- Sorting monomials in place: the state of the row, comparing and swapping two elements. Conditions: none. -/
namespace Go.Proofs.YtbcjhpgkodeoeaaGreatDoor
open Go.RowKit Go.Sort

theorem cmpL_neg : ∀ (a b : List Int), cmpL a b < 0 ↔ ltL a b = true
  | [], [] => by simp [cmpL, ltL]
  | [], _ :: _ => by simp [cmpL, ltL]
  | _ :: _, [] => by simp [cmpL, ltL]
  | x :: xs, y :: ys => by
    simp only [cmpL, ltL]
    by_cases h1 : x < y
    · have h2 : ¬ x = y := by omega
      simp [h1, h2]
    · by_cases h2 : y < x
      · have h3 : ¬ x = y := by omega
        simp [h1, h2, h3]
      · have h3 : x = y := by omega
        simp [h3, cmpL_neg xs ys]

/-- The row of a sort: nothing but its block has changed, and it holds X. -/
structure SSt (e g n cap : Nat) (w0 w : World) (X : List ElS) : Prop where
  only : Only [g] w0 w
  row : w.ownsRow 0 e 2 (.slice (some ⟨g, 0, none⟩) n cap) n (rowS X)
theorem SSt.len {e g n cap : Nat} {w0 w : World} {X : List ElS} (h : SSt e g n cap w0 w X) : X.length = n := by
  have := h.row.1
  rw [rowS_length] at this
  omega
theorem SSt.below {e g n cap : Nat} {w0 w w' : World} {X : List ElS} (h : SSt e g n cap w0 w X) (hb : Below w.heap.size w w') : SSt e g n cap w0 w' X :=
  ⟨h.only.trans (Only.of_below hb), ownsRow_only h.row (Only.of_below (fp := []) hb) (by simp)⟩
theorem SSt.cells {e g n cap : Nat} {w0 w : World} {X : List ElS} (h : SSt e g n cap w0 w X) {k : Nat} {x : ElS} (hx : X[k]? = some x) :
    w.cell? ⟨g, k * 2, none⟩ = some (.int .i64 x.c) ∧ w.cell? ⟨g, k * 2 + 1, none⟩ = some x.v ∧ w.frozen? ⟨g, k * 2, none⟩ = false ∧ w.frozen? ⟨g, k * 2 + 1, none⟩ = false := by
  have hk := (List.getElem?_eq_some_iff.1 hx).1
  have hl := h.len
  obtain ⟨h1, h2⟩ := rowS_at hx
  exact ⟨by rw [h.row.cellAt _ (by omega), h1], by rw [h.row.cellAt _ (by omega), h2], h.row.frozenAt _, h.row.frozenAt _⟩
theorem SSt.put {e g n cap : Nat} {w0 w : World} {X : List ElS} (h : SSt e g n cap w0 w X) {k : Nat} {x : ElS} (hx : X[k]? = some x) (y : ElS) :
    SSt e g n cap w0 ((w.setCell ⟨g, k * 2, none⟩ (.int .i64 y.c)).setCell ⟨g, k * 2 + 1, none⟩ y.v) (X.set k y) := by
  have h1 := (h.row.stored (k * 2) (.int .i64 y.c)).1
  have h2 := (h1.stored (k * 2 + 1) y.v).1
  rw [rowS_set hx] at h2
  exact ⟨(h.only.setCell (by simp) _).setCell (by simp) _, h2⟩
/-- Two elements are swapped, in either order of the stores. -/
theorem SSt.swap {e g n cap : Nat} {w0 w : World} {U V Z : List ElS} {x y : ElS} (h : SSt e g n cap w0 w (U ++ x :: (V ++ y :: Z))) {i j : Nat} (hi : U.length = i) (hj : i + 1 + V.length = j) :
    SSt e g n cap w0 ((((w.setCell ⟨g, i * 2, none⟩ (.int .i64 y.c)).setCell ⟨g, i * 2 + 1, none⟩ y.v).setCell ⟨g, j * 2, none⟩ (.int .i64 x.c)).setCell ⟨g, j * 2 + 1, none⟩ x.v) (U ++ y :: (V ++ x :: Z)) ∧
    SSt e g n cap w0 ((((w.setCell ⟨g, j * 2, none⟩ (.int .i64 x.c)).setCell ⟨g, j * 2 + 1, none⟩ x.v).setCell ⟨g, i * 2, none⟩ (.int .i64 y.c)).setCell ⟨g, i * 2 + 1, none⟩ y.v) (U ++ y :: (V ++ x :: Z)) := by
  have hx : (U ++ x :: (V ++ y :: Z))[i]? = some x := at_mid hi
  have e1 : ∀ z : ElS, U ++ z :: (V ++ y :: Z) = (U ++ z :: V) ++ y :: Z := fun z => by simp
  have e2 : ∀ z : ElS, (U ++ z :: V).length = j := fun z => by simp; omega
  have hy : (U ++ x :: (V ++ y :: Z))[j]? = some y := by rw [e1]; exact at_mid (e2 x)
  constructor
  · have h1 := h.put hx y
    rw [set_mid' hi, e1] at h1
    have h2 := h1.put (at_mid (e2 y)) x
    rw [set_mid' (e2 y)] at h2
    simpa using h2
  · have h1 := h.put hy x
    rw [e1, set_mid' (e2 x)] at h1
    have e3 : (U ++ x :: V) ++ x :: Z = U ++ x :: (V ++ x :: Z) := by simp
    rw [e3] at h1
    have h2 := h1.put (at_mid hi) y
    rw [set_mid' hi] at h2
    exact h2

set_option maxHeartbeats 400000 in
theorem cmpS_any (x y : ElS) {c : Int} (w : World) (hx : RdI w x.v x.ps) (hy : RdI w y.v y.ps) (h : cmpL y.ps x.ps = c) :
    Calls Tryz.prog 109 #[.agg #[.int .i64 x.c, x.v], .agg #[.int .i64 y.c, y.v]] w fun e w' => e = .returned (.int .i64 c) ∧ Below w.heap.size w w' := by
  have hb : Below w.heap.size w ((w.alloc (.cells #[.int .i64 x.c, x.v] 56)).alloc (.cells #[.int .i64 y.c, y.v] 56)) := ((Below.refl _ _).alloc (Nat.le_refl _) _).alloc (by simp) _
  have hx' := rdI_mono hb hx
  have hy' := rdI_mono hb hy
  have HH := Lib.hid h
  clear h
  go_enter Tryz.func109, Tryz.ntmps109
  go_wp2_with fail
  refine (compare_eq _ _ _ _ _ hy' hx' HH.out).mono ?_
  rintro e w' ⟨rfl, rfl⟩
  go_wp2
  go_ret
  exact ⟨rfl, hb⟩

set_option maxRecDepth 100000 in
set_option maxHeartbeats 1600000 in
theorem swapRange_any (g n cap : Nat) (f : Value) (A P B Q C : List ElS) (a b m : Nat) (w0 w : World) (h : SSt 56 g n cap w0 w (A ++ (P ++ (B ++ (Q ++ C))))) (hm : P.length = m) (hm2 : Q.length = m) (ha : A.length = a) (hb : a + m + B.length = b) (hn : n ≤ 1048576) :
    Calls Tryz.prog 220 #[.slice (some ⟨g, 0, none⟩) n cap, .int .i64 a, .int .i64 b, .int .i64 m, f] w fun e w' => e = .returned (.tuple #[]) ∧ SSt 56 g n cap w0 w' (A ++ (Q ++ (B ++ (P ++ C)))) := by
  have hln := h.len
  simp only [List.length_append] at hln
  have HS := Lib.hid h
  have HM := Lib.hid hm
  have HM2 := Lib.hid hm2
  have HA := Lib.hid ha
  have HB := Lib.hid hb
  have hbn : b + m ≤ n := by omega
  have ham : a + m ≤ b := by omega
  clear h hln hm hm2 ha hb
  go_enter Tryz.func220, Tryz.ntmps220
  go_wp2
  go_loopw [10] (fun s wr => ∃ (i : Nat) (P1 P2 Q1 Q2 : List ElS), i ≤ m ∧ s = .int .i64 i ∧ P = P1 ++ P2 ∧ Q = Q1 ++ Q2 ∧ P1.length = i ∧ Q1.length = i ∧ SSt 56 g n cap w0 wr (A ++ (Q1 ++ (P2 ++ (B ++ (P1 ++ (Q2 ++ C))))))) (fun s _ => m - (intOf s).toNat)
  case atStart => exact ⟨0, [], P, [], Q, Nat.zero_le _, rfl, rfl, rfl, rfl, rfl, by simpa using HS.out⟩
  case round =>
    obtain ⟨i, P1, P2, Q1, Q2, hi, rfl, hP, hQ, hP1, hQ1, hs⟩ := hrel
    by_cases him : i < m
    · cases P2 with
      | nil => exfalso; have := HM.out; rw [hP] at this; simp at this; omega
      | cons x P2 =>
      cases Q2 with
      | nil => exfalso; have := HM2.out; rw [hQ] at this; simp at this; omega
      | cons y Q2 =>
      have e1 : A ++ (Q1 ++ (x :: P2 ++ (B ++ (P1 ++ (y :: Q2 ++ C))))) = (A ++ Q1) ++ x :: ((P2 ++ (B ++ P1)) ++ y :: (Q2 ++ C)) := by simp
      rw [e1] at hs
      have hAi : (A ++ Q1).length = a + i := by rw [List.length_append, HA.out, hQ1]
      have hBi : a + i + 1 + (P2 ++ (B ++ P1)).length = b + i := by
        have h1 := HM.out
        have h2 := HB.out
        rw [hP] at h1
        simp at h1 ⊢
        omega
      obtain ⟨hcx0, hcx1, hfx0, hfx1⟩ := hs.cells (k := a + i) (at_mid hAi)
      obtain ⟨hcy0, hcy1, hfy0, hfy1⟩ := hs.cells (k := b + i) (x := y) (by
        rw [show (A ++ Q1) ++ x :: ((P2 ++ (B ++ P1)) ++ y :: (Q2 ++ C)) = ((A ++ Q1) ++ x :: (P2 ++ (B ++ P1))) ++ y :: (Q2 ++ C) by simp]
        exact at_mid (by rw [List.length_append, List.length_cons]; omega))
      have HSW := Lib.hid (hs.swap hAi hBi)
      clear hs e1 hAi hBi
      have ha0 : (0 : Int) ≤ (a : Int) + i := by omega
      have hb0 : (0 : Int) ≤ (b : Int) + i := by omega
      have ha1 : (a : Int) + i < n := by omega
      have hb1 : (b : Int) + i < n := by omega
      have q1 : IntKind.i64.wrap ((a : Int) + i) = (a : Int) + i := IntWalk.i64_in _ (by omega)
      have q2 : IntKind.i64.wrap ((b : Int) + i) = (b : Int) + i := IntWalk.i64_in _ (by omega)
      have q3 : ((a : Int) + i).toNat = a + i := by omega
      have q4 : ((b : Int) + i).toNat = b + i := by omega
      have hne : a + i ≠ b + i := by omega
      have HP := Lib.hid hP
      have HQ := Lib.hid hQ
      clear hP hQ
      go_wp2
      go_region_law (fail)
      all_goals (
        go_wp2
        go_roundw
        case rel => exact ⟨i + 1, P1 ++ [x], P2, Q1 ++ [y], Q2, by omega, by go_num, by rw [HP.out]; simp, by rw [HQ.out]; simp, by simp [hP1], by simp [hQ1], by simpa using HSW.out.1.below (Below.refl _ _).drew⟩
        case measure => (simp [intOf]; try omega))
    · obtain rfl : i = m := by omega
      have hp2 : P2 = [] := by
        have h1 := HM.out
        rw [hP, List.length_append] at h1
        exact List.eq_nil_of_length_eq_zero (by omega)
      have hq2 : Q2 = [] := by
        have h1 := HM2.out
        rw [hQ, List.length_append] at h1
        exact List.eq_nil_of_length_eq_zero (by omega)
      subst hp2 hq2
      have HE := Lib.hid (show SSt 56 g n cap w0 wr (A ++ (Q ++ (B ++ (P ++ C)))) from by rw [hP, hQ]; simpa using hs)
      clear hP hQ hs
      go_wp2
      go_end0
      exact ⟨rfl, HE.out⟩
end Go.Proofs.YtbcjhpgkodeoeaaGreatDoor

/- Sorting monomials in place: by insertion, and turning two neighbours round. Conditions: none. -/
namespace Go.Proofs.YtbcjhpgkodeoeaaGreatDoor
open Go.RowKit Go.Sort

/-- A part of the row has been sorted. -/
def Sorted1 (e g n cap : Nat) (w0 : World) (A L C : List ElS) : Ending → World → Prop := fun en w' =>
  en = .returned (.tuple #[]) ∧ ∃ S, S.Perm L ∧ SrtS S ∧ SSt e g n cap w0 w' (A ++ (S ++ C))
/-- What is read of each element as long as only the row changes. -/
def ReadS (g : Nat) (w0 : World) (X : List ElS) : Prop := ∀ x ∈ X, ∀ w', Only [g] w0 w' → RdI w' x.v x.ps
theorem ReadS.perm {g : Nat} {w0 : World} {X Y : List ElS} (h : ReadS g w0 X) (hp : Y.Perm X) : ReadS g w0 Y := fun x hx => h x (hp.mem_iff.1 hx)

theorem swapRange_z (g n cap : Nat) (f : Value) (A P B Q C : List ElS) {a b m : Int} (w0 w : World) (h : SSt 56 g n cap w0 w (A ++ (P ++ (B ++ (Q ++ C))))) (hm : m = (P.length : Nat)) (hm2 : Q.length = P.length) (ha : a = (A.length : Nat)) (hb : b = (A.length + P.length + B.length : Nat)) (hn : n ≤ 1048576) :
    Calls Tryz.prog 220 #[.slice (some ⟨g, 0, none⟩) n cap, .int .i64 a, .int .i64 b, .int .i64 m, f] w fun e w' => e = .returned (.tuple #[]) ∧ SSt 56 g n cap w0 w' (A ++ (Q ++ (B ++ (P ++ C)))) := by
  subst hm ha hb
  exact swapRange_any g n cap f A P B Q C _ _ _ w0 w h rfl hm2 rfl rfl hn

set_option maxRecDepth 100000 in
set_option maxHeartbeats 1600000 in
theorem rotate_any (g n cap : Nat) (f : Value) (A L R C : List ElS) (a m b : Nat) (w0 w : World) (h : SSt 56 g n cap w0 w (A ++ (L ++ (R ++ C)))) (ha : A.length = a) (hm : a + L.length = m) (hb : m + R.length = b) (hL : 0 < L.length) (hR : 0 < R.length) (hn : n ≤ 1048576) :
    Calls Tryz.prog 211 #[.slice (some ⟨g, 0, none⟩) n cap, .int .i64 a, .int .i64 m, .int .i64 b, f] w fun e w' => e = .returned (.tuple #[]) ∧ SSt 56 g n cap w0 w' (A ++ (R ++ (L ++ C))) := by
  have hln := h.len
  simp only [List.length_append] at hln
  have HS := Lib.hid h
  have hbn : b ≤ n := by omega
  have ham : a < m := by omega
  have hmb : m < b := by omega
  have HA := Lib.hid ha
  have hLm : L.length = m - a := by omega
  have hRm : R.length = b - m := by omega
  have HLM := Lib.hid hLm
  have HRM := Lib.hid hRm
  clear h hln ha hm hb hL hR hLm hRm
  go_enter Tryz.func211, Tryz.ntmps211
  go_wp2
  go_loopw [10, 11] (fun si sj wr => ∃ (i j : Nat) (A1 P Q C1 : List ElS), si = .int .i64 i ∧ sj = .int .i64 j ∧ 1 ≤ i ∧ 1 ≤ j ∧ m + j ≤ n ∧ P.length = i ∧ Q.length = j ∧ A1.length + i = m ∧ A ++ (R ++ (L ++ C)) = A1 ++ (Q ++ (P ++ C1)) ∧ SSt 56 g n cap w0 wr (A1 ++ (P ++ (Q ++ C1)))) (fun si sj _ => (intOf si).toNat + (intOf sj).toNat)
  case atStart => exact ⟨m - a, b - m, A, L, R, C, by go_num, by go_num, by omega, by omega, by omega, HLM.out, HRM.out, by have := HA.out; omega, rfl, HS.out⟩
  case round =>
    obtain ⟨i, j, A1, P, Q, C1, rfl, rfl, hi, hj, hjn, hP, hQ, hA1, hT, hs⟩ := hrel
    have hln := hs.len
    simp only [List.length_append] at hln
    have HT := Lib.hid hT
    have HSS := Lib.hid hs
    have HP := Lib.hid hP
    have HQ := Lib.hid hQ
    have HA1 := Lib.hid hA1
    have him : i ≤ m := by omega
    clear hT hs hP hQ hA1 hln
    by_cases hij : i = j
    · subst hij
      go_wp2_with fail
      refine (swapRange_z g n cap _ A1 P [] Q C1 w0 _ (by simpa using HSS.out) (by rw [HP.out]) (by rw [HP.out, HQ.out]) (by have := HA1.out; omega) (by have := HA1.out; have := HP.out; simp; omega) hn).mono ?_
      rintro e w' ⟨rfl, hs2⟩
      go_wp2
      go_end0
      exact ⟨rfl, by rw [HT.out]; simpa using hs2⟩
    · by_cases hgt : j < i
      · have e1 : A1 ++ (P ++ (Q ++ C1)) = A1 ++ (P.take j ++ (P.drop j ++ (Q ++ C1))) := by rw [← List.append_assoc (P.take j), List.take_append_drop]
        have HS2 := Lib.hid (show SSt 56 g n cap w0 wr (A1 ++ (P.take j ++ (P.drop j ++ (Q ++ C1)))) from e1 ▸ HSS.out)
        have l1 : (P.take j).length = j := by rw [List.length_take, HP.out]; omega
        have l2 : (P.drop j).length = i - j := by rw [List.length_drop, HP.out]
        have L1 := Lib.hid l1
        have L2 := Lib.hid l2
        clear e1 l1 l2
        go_wp2_with fail
        refine (swapRange_z g n cap _ A1 (P.take j) (P.drop j) Q C1 w0 _ HS2.out (by rw [L1.out]) (by rw [L1.out, HQ.out]) (by have := HA1.out; omega) (by rw [L1.out, L2.out]; have := HA1.out; omega) hn).mono ?_
        rintro e w' ⟨rfl, hs2⟩
        have HS3 := Lib.hid hs2
        clear hs2
        go_wp2
        go_roundw
        case rel => exact ⟨i - j, j, A1 ++ Q, P.drop j, P.take j, C1, by go_num, rfl, by omega, by omega, by omega, L2.out, L1.out, by rw [List.length_append, HQ.out]; have := HA1.out; omega, by rw [HT.out, List.append_assoc, ← List.append_assoc (P.take j), List.take_append_drop], by simpa using HS3.out⟩
        case measure => (simp [intOf]; try omega)
      · have e1 : A1 ++ (P ++ (Q ++ C1)) = A1 ++ (P ++ (Q.take (j - i) ++ (Q.drop (j - i) ++ C1))) := by rw [← List.append_assoc (Q.take (j - i)), List.take_append_drop]
        have HS2 := Lib.hid (show SSt 56 g n cap w0 wr (A1 ++ (P ++ (Q.take (j - i) ++ (Q.drop (j - i) ++ C1)))) from e1 ▸ HSS.out)
        have l1 : (Q.take (j - i)).length = j - i := by rw [List.length_take, HQ.out]; omega
        have l2 : (Q.drop (j - i)).length = i := by rw [List.length_drop, HQ.out]; omega
        have L1 := Lib.hid l1
        have L2 := Lib.hid l2
        clear e1 l1 l2
        go_wp2_with fail
        refine (swapRange_z g n cap _ A1 P (Q.take (j - i)) (Q.drop (j - i)) C1 w0 _ HS2.out (by rw [HP.out]) (by rw [L2.out, HP.out]) (by have := HA1.out; omega) (by rw [L1.out, HP.out]; have := HA1.out; omega) hn).mono ?_
        rintro e w' ⟨rfl, hs2⟩
        have HS3 := Lib.hid hs2
        clear hs2
        go_wp2
        go_roundw
        case rel => exact ⟨i, j - i, A1, Q.drop (j - i), Q.take (j - i), P ++ C1, rfl, by go_num, by omega, by omega, by omega, L2.out, L1.out, HA1.out, by rw [HT.out, ← List.append_assoc (Q.take (j - i)) (Q.drop (j - i)), List.take_append_drop], by simpa using HS3.out⟩
        case measure => (simp [intOf]; try omega)
set_option maxRecDepth 100000 in
set_option maxHeartbeats 1600000 in
theorem insSort_any (g n cap : Nat) (A L C : List ElS) (a b : Nat) (w0 w : World) (h : SSt 56 g n cap w0 w (A ++ (L ++ C))) (ha : A.length = a) (hb : a + L.length = b) (hn : n ≤ 1048576) (HX : ReadS g w0 L) :
    Calls Tryz.prog 187 #[.slice (some ⟨g, 0, none⟩) n cap, .int .i64 a, .int .i64 b, .func (.func 109) #[] #[]] w (Sorted1 56 g n cap w0 A L C) := by
  have hln := h.len
  simp only [List.length_append] at hln
  have hbn : b ≤ n := by omega
  have hab : a ≤ b := by omega
  have hLb : L.length = b - a := by omega
  have HS := Lib.hid h
  have HA := Lib.hid ha
  have HLB := Lib.hid hLb
  have HXX := Lib.hid HX
  clear h ha hb HX hln hLb
  go_enter Tryz.func187, Tryz.ntmps187
  go_wp2
  go_loopw [8] (fun si wr => ∃ (S T : List ElS) (i : Nat), si = .int .i64 i ∧ a + 1 ≤ i ∧ i ≤ n + 1 ∧ (S ++ T).Perm L ∧ SrtS S ∧ (S.length + a = i ∨ S = [] ∧ T = []) ∧ SSt 56 g n cap w0 wr (A ++ (S ++ (T ++ C)))) (fun si _ => b - (intOf si).toNat)
  case atStart =>
    have h0 := HS.out
    cases hL : L with
    | nil => rw [hL] at h0; exact ⟨[], [], a + 1, by go_num, Nat.le_refl _, by omega, by simp, srt_nil, .inr ⟨rfl, rfl⟩, by simpa using h0⟩
    | cons x L' => rw [hL] at h0; exact ⟨[x], L', a + 1, by go_num, Nat.le_refl _, by omega, by simp, srt_one x, .inl (by simp; omega), by simpa using h0⟩
  case round =>
    obtain ⟨wk, rfl⟩ : ∃ W, W = wr := ⟨_, rfl⟩
    obtain ⟨S, T, i, rfl, hai, hin, hp, hsrt, hSi, hs⟩ := hrel
    by_cases hib : i < b
    case neg =>
      have hT : T = [] := by
        rcases hSi with h | ⟨_, h⟩
        · have := hp.length_eq
          rw [List.length_append, HLB.out] at this
          exact List.eq_nil_of_length_eq_zero (by omega)
        · exact h
      have HE := Lib.hid (show ∃ S, S.Perm L ∧ SrtS S ∧ SSt 56 g n cap w0 wk (A ++ (S ++ C)) from ⟨S, by rw [hT] at hp; simpa using hp, hsrt, by rw [hT] at hs; simpa using hs⟩)
      clear hp hsrt hSi hs hT
      go_wp2
      go_end0
      exact ⟨rfl, HE.out⟩
    have hl := hp.length_eq
    rw [List.length_append, HLB.out] at hl
    have hSl : S.length + a = i := by
      rcases hSi with h | ⟨h1, h2⟩
      · exact h
      · rw [h1, h2] at hl; simp at hl; omega
    cases T with
    | nil => exfalso; simp at hl; omega
    | cons x T =>
    have HP := Lib.hid hp
    have HSRT := Lib.hid hsrt
    have HSL := Lib.hid hSl
    have HSS := Lib.hid hs
    have HRX := Lib.hid ((HXX.out.perm hp) x (by simp))
    clear hp hsrt hSi hs hl hSl
    go_wp2
    go_loopw [9] (fun sj wr => ∃ (S1 S2 : List ElS) (j : Nat), sj = .int .i64 j ∧ S = S1 ++ S2 ∧ a + S1.length = j ∧ j ≤ i ∧ (∀ y ∈ S2, ltS x y = true) ∧ SSt 56 g n cap w0 wr (A ++ (S1 ++ (x :: (S2 ++ (T ++ C)))))) (fun sj _ => (intOf sj).toNat)
    case atStart => exact ⟨S, [], i, rfl, by simp, by have := HSL.out; omega, Nat.le_refl _, by simp, by simpa using HSS.out⟩
    case round =>
      obtain ⟨wz, rfl⟩ : ∃ W, W = wr := ⟨_, rfl⟩
      obtain ⟨S1, S2, j, rfl, hS, hj, hji, h2, hs⟩ := hrel
      have hfin : (S1 = [] ∨ ∃ T y, S1 = T ++ [y] ∧ ltS x y = false) → (S1 ++ x :: S2 ++ T).Perm L ∧ SrtS (S1 ++ x :: S2) ∧ (S1 ++ x :: S2).length + a = i + 1 := fun hc => by
        refine ⟨List.Perm.trans ?_ HP.out, ins_done (hS ▸ HSRT.out) h2 hc, ?_⟩
        · rw [hS]
          simp only [List.append_assoc, List.cons_append]
          exact List.Perm.append_left _ (List.perm_middle (l₁ := S2) (a := x) (l₂ := T)).symm
        · have := HSL.out
          rw [hS] at this
          simp at this ⊢
          omega
      have HF := Lib.hid hfin
      have HZ := Lib.hid (show ∀ w', Below wz.heap.size wz w' → SSt 56 g n cap w0 w' (A ++ ((S1 ++ x :: S2) ++ (T ++ C))) from fun w' hb => by have := hs.below hb; simpa using this)
      clear hfin
      rcases snoc_cases S1 with rfl | ⟨S1, y, rfl⟩
      · obtain rfl : a = j := by simpa using hj
        have hd : decide ((a : Int) < (a : Int)) = false := by simp
        have HF1 := Lib.hid (HF.out (.inl rfl))
        clear hS hj h2 hs HF
        go_wp2
        go_quiet (fail)
        go_wp2
        go_roundw
        case rel => exact ⟨[] ++ x :: S2, T, i + 1, by go_num, by omega, by omega, HF1.out.1, HF1.out.2.1, .inl HF1.out.2.2, HZ.out _ (blw_drewN (Below.refl _ _) _)⟩
        case measure => (simp [intOf]; try omega)
      · have hjl : a + S1.length + 1 = j := by simp at hj; omega
        have e1 : A ++ (S1 ++ [y] ++ (x :: (S2 ++ (T ++ C)))) = (A ++ S1) ++ y :: ([] ++ x :: (S2 ++ (T ++ C))) := by simp
        rw [e1] at hs
        have hl1 : (A ++ S1).length = j - 1 := by rw [List.length_append, HA.out]; omega
        obtain ⟨hcy0, hcy1, hfy0, hfy1⟩ := hs.cells (k := j - 1) (at_mid hl1)
        obtain ⟨hcx0, hcx1, hfx0, hfx1⟩ := hs.cells (k := j) (x := x) (by
          rw [show (A ++ S1) ++ y :: ([] ++ x :: (S2 ++ (T ++ C))) = ((A ++ S1) ++ [y]) ++ x :: (S2 ++ (T ++ C)) by simp]
          exact at_mid (by rw [List.length_append]; simp; rw [HA.out]; omega))
        have hry : RdI wz y.v y.ps := (HXX.out.perm HP.out) y (by rw [hS]; simp) wz hs.only
        have hrx : RdI wz x.v x.ps := HRX.out wz hs.only
        have HSW := Lib.hid (fun (w' : World) (hb : Below wz.heap.size wz w') => (hs.below hb).swap (V := []) (Z := S2 ++ (T ++ C)) (i := j - 1) (j := j) hl1 (by simp; omega))
        have HCL := Lib.hid (fun (w' : World) (hb : Below wz.heap.size wz w') => (show (w'.cell? ⟨g, (j - 1) * 2, none⟩ = some (.int .i64 y.c) ∧ w'.cell? ⟨g, (j - 1) * 2 + 1, none⟩ = some y.v ∧ w'.frozen? ⟨g, (j - 1) * 2, none⟩ = false ∧ w'.frozen? ⟨g, (j - 1) * 2 + 1, none⟩ = false) ∧ (w'.cell? ⟨g, j * 2, none⟩ = some (.int .i64 x.c) ∧ w'.cell? ⟨g, j * 2 + 1, none⟩ = some x.v ∧ w'.frozen? ⟨g, j * 2, none⟩ = false ∧ w'.frozen? ⟨g, j * 2 + 1, none⟩ = false) from
          ⟨(hs.below hb).cells (k := j - 1) (at_mid hl1), (hs.below hb).cells (k := j) (x := x) (by
            rw [show (A ++ S1) ++ y :: ([] ++ x :: (S2 ++ (T ++ C))) = ((A ++ S1) ++ [y]) ++ x :: (S2 ++ (T ++ C)) by simp]
            exact at_mid (by rw [List.length_append]; simp; rw [HA.out]; omega))⟩))
        obtain ⟨c, hc⟩ : ∃ c, cmpL y.ps x.ps = c := ⟨_, rfl⟩
        have hlt : ltS x y = decide (c < 0) := by
          rw [Bool.eq_iff_iff, decide_eq_true_iff, ← hc, cmpL_neg]
          rfl
        have CMP := Lib.hid (fun (w' : World) (hb : Below wz.heap.size wz w') => cmpS_any x y w' (rdI_mono hb hrx) (rdI_mono hb hry) hc)
        have HLT := Lib.hid hlt
        have HS3 := Lib.hid hS
        have H2 := Lib.hid h2
        have HJL := Lib.hid hjl
        have HONLY := Lib.hid hs.only
        have q0 : (0 : Int) ≤ (j : Int) - 1 := by omega
        have q7 : (1 : Int) ≤ (j : Int) := by omega
        have q1 : (j : Int) - 1 < n := by omega
        have q2 : IntKind.i64.wrap ((j : Int) - 1) = (j : Int) - 1 := IntWalk.i64_in _ (by omega)
        have q3 : ((j : Int) - 1).toNat = j - 1 := by omega
        have q4 : (a : Int) < j := by omega
        have q5 : (j : Int) < n := by omega
        have q6 : decide ((a : Int) < (j : Int)) = true := by simp; omega
        have HBD := Lib.hid (show a < j from by omega)
        have hcy0r := cell_regrown hcy0
        have hcy1r := cell_regrown hcy1
        have hcx0r := cell_regrown hcx0
        have hcx1r := cell_regrown hcx1
        clear hS hj h2 hry hrx hlt hc hs e1 hl1 hjl
        by_cases hneg : c < 0
        · go_wp2
          (refine wp_region_quiet_below (by kernel_rfl) (by kernel_rfl) ?_; (repeat (go_big_quiet_step ((first | exact Calls.regrown_of (CMP.out _ (below_regrown _ _ _)))))); refine wpQuiet_nil ?_; rintro _ ⟨⟨dq, osq⟩, rfl⟩)
          have hbq := below_regrown wz dq osq
          obtain ⟨wq, hwq⟩ : ∃ wq, wq = grow (redrawn wz dq) osq := ⟨_, rfl⟩
          rw [← hwq] at hbq ⊢
          clear hwq hcy0r hcy1r hcx0r hcx1r
          obtain ⟨⟨g1, g2, g3, g4⟩, g5, g6, g7, g8⟩ := HCL.out _ hbq
          have HN := Lib.hid ((HSW.out _ hbq).2.below (Below.refl _ _).drew)
          clear hcy0 hcy1 hfy0 hfy1 hcx0 hcx1 hfx0 hfx1 hbq
          go_wp2
          go_region_law (fail)
          all_goals (
            go_wp2
            go_roundw
            case rel => exact ⟨S1, y :: S2, j - 1, by go_num, by rw [HS3.out]; simp, by have := HJL.out; omega, by omega, by
              intro z hz
              rw [List.mem_cons] at hz
              rcases hz with rfl | hz
              · rw [HLT.out]; simpa using hneg
              · exact H2.out z hz, by simpa using HN.out⟩
            case measure => (simp [intOf]; try omega))
        · have HF1 := Lib.hid (HF.out (.inr ⟨S1, y, rfl, by rw [HLT.out]; simpa using hneg⟩))
          clear HF
          go_wp2
          (refine wp_region_quiet_below (by kernel_rfl) (by kernel_rfl) ?_; (repeat (go_big_quiet_step ((first | exact Calls.regrown_of (CMP.out _ (below_regrown _ _ _)))))); refine wpQuiet_nil ?_; rintro _ ⟨⟨dq, osq⟩, rfl⟩)
          have hbq := below_regrown wz dq osq
          obtain ⟨wq, hwq⟩ : ∃ wq, wq = grow (redrawn wz dq) osq := ⟨_, rfl⟩
          rw [← hwq] at hbq ⊢
          have HZ1 := Lib.hid (HZ.out _ hbq)
          clear hwq hcy0r hcy1r hcx0r hcx1r hcy0 hcy1 hfy0 hfy1 hcx0 hcx1 hfx0 hfx1 hbq
          go_wp2
          go_roundw
          case rel => exact ⟨(S1 ++ [y]) ++ x :: S2, T, i + 1, by go_num, by omega, by omega, HF1.out.1, HF1.out.2.1, .inl HF1.out.2.2, HZ1.out⟩
          case measure => (simp [intOf]; try omega)
end Go.Proofs.YtbcjhpgkodeoeaaGreatDoor
