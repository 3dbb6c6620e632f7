/- The texts TanP, TanS, StepS, ExS, FormK, Ex, SEx in one: each says at its head what it proves. Conditions: as said there. -/
import Derived.Test.YtbcjhpgkodeoeaaGreatDoorN37
import Derived.Test.YtbcjhpgkodeoeaaGreatDoorN32
import Derived.Test.YtbcjhpgkodeoeaaGreatDoorN18
import Derived.Test.YtbcjhpgkodeoeaaGreatDoorN04
import Derived.Test.YtbcjhpgkodeoeaaGreatDoorN29
set_option linter.unusedSimpArgs false
set_option linter.unusedVariables false
/- The tangents' field, in plain lists. Conditions: none. -/
namespace Go.Proofs.YtbcjhpgkodeoeaaGreatDoor
open Go.RowKit Go.Sort

/-- Powers in n variables more, times the variable v if it is one. -/
def wideP (n : Nat) (v : Int) (ps : List Int) : List Int :=
  if 0 ≤ v then (ps ++ List.replicate n 0).set v.toNat (atZ (ps ++ List.replicate n 0) v.toNat + 1) else ps ++ List.replicate n 0
def wideM (n : Nat) (v : Int) (m : MonZ) : MonZ := ⟨m.coef, wideP n v m.pows⟩
def wideL (n : Nat) (v : Int) (p : List MonZ) : List MonZ := p.map (wideM n v)
theorem wideP_len (n : Nat) (v : Int) (ps : List Int) : (wideP n v ps).length = ps.length + n := by
  unfold wideP
  split
  · rw [List.length_set, List.length_append, List.length_replicate]
  · rw [List.length_append, List.length_replicate]
theorem wideP_neg {n : Nat} {v : Int} (ps : List Int) (h : v < 0) : wideP n v ps = ps ++ List.replicate n 0 := by rw [wideP, if_neg (by omega)]
/-- A monomial whose powers are not great. -/
def MonLow (n : Nat) (m : MonZ) : Prop := (0 ≤ m.coef ∧ m.coef ≤ 1000000270) ∧ m.pows.length = n ∧ ∀ x ∈ m.pows, 0 ≤ x ∧ x ≤ 6
theorem low_part {v n : Nat} {p : List MonZ} (hp : ∀ m ∈ p, MonFine n m) : ∀ m ∈ partL v 1 p, MonLow n m := fun m hm => by
  obtain ⟨_, h2, h3⟩ := partL_small hp m hm
  refine ⟨?_, h2, fun x hx => by have := h3 x hx; omega⟩
  obtain ⟨m0, _, he⟩ := List.mem_filterMap.1 hm
  unfold partM at he
  split at he
  · injection he with he
    rw [← he]
    exact timesZ_bd _ _
  · cases he
theorem wide_nums {n N : Nat} {v : Int} {p : List MonZ} (hp : ∀ m ∈ p, MonLow n m) : NumsM (wideL N v p) := fun m hm => by
  obtain ⟨a, ha, rfl⟩ := List.mem_map.1 hm
  exact (hp a ha).1
/-- What one part of the field gives to the tangents, before it is put together. -/
def tanQ (n : Nat) (p : List MonZ) (k : Nat) : List MonZ := (List.range k).flatMap fun (i : Nat) => wideL n ((n : Int) + (i : Int)) (partL i 1 p)
theorem tanQ_next (n : Nat) (p : List MonZ) (k : Nat) : tanQ n p (k + 1) = tanQ n p k ++ wideL n ((n : Int) + (k : Int)) (partL k 1 p) := by
  rw [tanQ, List.range_succ, List.flatMap_append, List.flatMap_singleton]; rfl
theorem tanQ_nums {n : Nat} {p : List MonZ} (hp : ∀ m ∈ p, MonFine n m) (k : Nat) : NumsM (tanQ n p k) := fun m hm => by
  obtain ⟨i, _, hm⟩ := List.mem_flatMap.1 hm
  exact wide_nums (low_part hp) m hm
/-- The parts of the tangents' field. -/
def tanW (n : Nat) (parts : List (List MonZ)) : List (List MonZ) := parts.map (wideL n (-1))
def tanC (n : Nat) (parts : List (List MonZ)) : List (List MonZ) := parts.map fun p => putAll [] (tanQ n p n)
def tanP (n : Nat) (parts : List (List MonZ)) : List (List MonZ) := tanW n parts ++ tanC n parts
theorem tanW_len (n : Nat) (parts : List (List MonZ)) : (tanW n parts).length = parts.length := List.length_map _
end Go.Proofs.YtbcjhpgkodeoeaaGreatDoor

/- The tangents' field and the field of a polynomial at series: the form of two tangents does not change along it. Plain: no program's step stands here. -/
namespace Go.Proofs.YtbcjhpgkodeoeaaGreatDoor
open Go.RowKit Go.Sort

theorem pwV_congr {Y : Vec} {ps qs : List Int} : ∀ v, (∀ i, i < v → atZ ps i = atZ qs i) → pwV Y ps v = pwV Y qs v
  | 0, _ => rfl
  | v + 1, h => by rw [pwV, pwV, pwV_congr v (fun i hi => h i (by omega)), h v (by omega)]
theorem pwV_more (Y : Vec) (ps : List Int) : ∀ n, pwV Y ps (ps.length + n) = pwV Y ps ps.length
  | 0 => rfl
  | n + 1 => by
    rw [← Nat.add_assoc, pwV, pwV_more Y ps n]
    have : atZ ps (ps.length + n) = 0 := by unfold atZ; rw [List.getElem?_eq_none (by omega)]; rfl
    rw [this]
    show cv _ (on 1) = _
    rw [cv_on1]
theorem atZ_zeros (ps : List Int) (n i : Nat) : atZ (ps ++ List.replicate n 0) i = atZ ps i := by
  unfold atZ
  by_cases h : i < ps.length
  · rw [List.getElem?_append_left h]
  · rw [List.getElem?_append_right (by omega), List.getElem?_eq_none (l := ps) (by omega), List.getElem?_replicate]
    split <;> rfl
theorem cv_swap (a b c : Ser) : cv (cv a b) c = cv (cv a c) b := by rw [cv_assoc, cv_comm b c, ← cv_assoc]
theorem pwV_set {Y : Vec} {ps : List Int} {u : Nat} (hu : u < ps.length) (h0 : 0 ≤ atZ ps u) : ∀ v, pwV Y (ps.set u (atZ ps u + 1)) v = if u < v then cv (pwV Y ps v) (Y u) else pwV Y ps v
  | 0 => by simp [pwV]
  | v + 1 => by
    rw [pwV, pwV_set hu h0 v, atZ_set hu]
    by_cases hv : u < v
    · rw [if_pos hv, if_neg (by omega), if_pos (by omega), pwV, cv_swap]
    · rw [if_neg hv]
      by_cases he : v = u
      · subst he
        rw [if_pos rfl, if_pos (by omega), pwV, show (atZ ps v + 1).toNat = (atZ ps v).toNat + 1 by omega, pwN, cv_assoc]
      · rw [if_neg he, if_neg (by omega), pwV]
theorem mv_wide0 {Y : Vec} {n : Nat} (m : MonZ) : mv Y (wideM n (-1) m) = mv Y m := by
  unfold mv
  show sc m.coef (pwV Y (wideP n (-1) m.pows) (wideP n (-1) m.pows).length) = _
  rw [wideP_len, wideP_neg _ (by omega), pwV_congr _ (fun i _ => atZ_zeros m.pows n i), pwV_more]
theorem mv_wide1 {Y : Vec} {n i : Nat} {m : MonZ} (hl : m.pows.length = n) (hi : i < n) : mv Y (wideM n ((n : Int) + (i : Int)) m) = cv (mv Y m) (Y (n + i)) := by
  unfold mv
  show sc m.coef (pwV Y (wideP n ((n : Int) + (i : Int)) m.pows) (wideP n ((n : Int) + (i : Int)) m.pows).length) = _
  have e : ((n : Int) + (i : Int)).toNat = n + i := by omega
  rw [wideP_len, wideP, if_pos (by omega), e]
  rw [pwV_set (by simp; omega) (by rw [atZ_zeros]; unfold atZ; rw [List.getElem?_eq_none (by omega)]; exact Int.le_refl _), if_pos (by omega), pwV_congr _ (fun i _ => atZ_zeros m.pows n i), pwV_more, sc_cv]
theorem pv_wide0 (Y : Vec) (n : Nat) : ∀ p : List MonZ, pv Y (wideL n (-1) p) = pv Y p
  | [] => rfl
  | m :: p => by
    show pv Y (wideM n (-1) m :: wideL n (-1) p) = _
    rw [pv_cons, pv_cons, mv_wide0, pv_wide0 Y n p]
theorem pv_wide1 (Y : Vec) {n i : Nat} (hi : i < n) : ∀ p : List MonZ, (∀ m ∈ p, m.pows.length = n) → pv Y (wideL n ((n : Int) + (i : Int)) p) = cv (pv Y p) (Y (n + i))
  | [], _ => by rw [pv_nil, cv_ze]; rfl
  | m :: p, h => by
    show pv Y (wideM n _ m :: wideL n _ p) = _
    rw [pv_cons, pv_cons, mv_wide1 (h m (by simp)) hi, pv_wide1 Y hi p (fun x hx => h x (by simp [hx])), ad_cv]
/-- the sum of the first n series -/
def ssum (f : Nat → Ser) : Nat → Ser
  | 0 => ze
  | n + 1 => ad (ssum f n) (f n)
theorem pv_tanQ (Y : Vec) {n : Nat} {p : List MonZ} (hp : ∀ m ∈ p, MonFine n m) : ∀ k, k ≤ n → pv Y (tanQ n p k) = ssum (fun i => cv (pv Y (partL i 1 p)) (Y (n + i))) k
  | 0, _ => rfl
  | k + 1, hk => by
    rw [tanQ_next, pv_append, pv_tanQ Y hp k (by omega), pv_wide1 Y (by omega) _ (fun m hm => (low_part hp m hm).2.1), ssum]
/-- The parts of the tangents' field at series. -/
theorem pv_tanP (Y : Vec) {n : Nat} {parts : List (List MonZ)} (hl : parts.length = n) (hp : ∀ p ∈ parts, ∀ m ∈ p, MonFine n m) {j : Nat} {p : List MonZ} (hj : parts[j]? = some p) :
    (∃ q, (tanP n parts)[j]? = some q ∧ pv Y q = pv Y p) ∧ ∃ q, (tanP n parts)[n + j]? = some q ∧ ∀ N, Sm N (pv Y q) (ssum (fun i => cv (pv Y (partL i 1 p)) (Y (n + i))) n) := by
  have hjn : j < n := by have := (List.getElem?_eq_some_iff.1 hj).1; omega
  constructor
  · refine ⟨wideL n (-1) p, ?_, pv_wide0 Y n p⟩
    rw [tanP, List.getElem?_append_left (by rw [tanW_len]; omega), tanW, List.getElem?_map, hj]
    rfl
  · refine ⟨putAll [] (tanQ n p n), ?_, fun N => ?_⟩
    · rw [tanP, List.getElem?_append_right (by rw [tanW_len]; omega), tanW_len, hl, show n + j - n = j by omega, tanC, List.getElem?_map, hj]
      rfl
    · have hf := hp p (List.mem_of_getElem? hj)
      rw [← pv_tanQ Y hf n (Nat.le_refl _)]
      exact pv_putAll Y (tanQ_nums hf n) N

theorem partL_cons (v : Nat) (s : Int) (m : MonZ) (p : List MonZ) : partL v s (m :: p) = (partM v s m).toList ++ partL v s p := by
  rw [partL, List.filterMap_cons]
  cases partM v s m <;> rfl
end Go.Proofs.YtbcjhpgkodeoeaaGreatDoor

/- The stages of a step, and exact solutions, as series. Plain: no program's step stands here. -/
namespace Go.Proofs.YtbcjhpgkodeoeaaGreatDoor
open Go.RowKit Go.Sort

theorem se_nil : se [] = ze := by funext k; rfl
theorem se_later {x : List Int} : Sm x.length (se (laterJ x)) (sh (se x)) := fun k hk => by
  show resZ (atZ (laterJ x) k) = _
  rw [laterJ_at hk]
  unfold sh se
  split <;> rfl
/-- the stages' values as vectors of series -/
def vse (v : List (List Int)) : Vec := fun i => se (atL v i)
theorem vse_out {v : List (List Int)} {i : Nat} (h : v.length ≤ i) : vse v i = ze := by
  unfold vse atL
  rw [List.getElem?_eq_none h]
  exact se_nil
theorem stg_zero {z : Vec} {c : Nat → Int} {F : Nat → Vec} {i : Nat} (hz : z i = ze) (hF : ∀ s, F s i = ze) : ∀ n, stg z c F n i = ze
  | 0 => hz
  | n + 1 => by
    show ad (stg z c F n i) (sc (c n) (sh (F n i))) = ze
    rw [stg_zero hz hF n, hF n]
    funext k
    simp [ad, sc, sh, ze]
theorem se_atRow {ys : List (List Int)} {vals : List (List (List Int))} {row : List Int} {i N : Nat} (hN : (atL ys i).length = N) : ∀ st, (∀ s, s < st → (atL (atLL vals s) i).length = N) →
    Sm N (se (atRow ys vals row i st)) (stg (vse ys) (atZ row) (fun s => vse (atLL vals s)) st i)
  | 0, _ => Sm.refl _
  | st + 1, h => by
    have h1 := se_add (atRow ys vals row i st) (laterJ (atL (atLL vals st) i)) (atZ row st)
    rw [atRow_len, hN] at h1
    have h2 := se_later (x := atL (atLL vals st) i)
    rw [h st (by omega)] at h2
    exact h1.trans ((se_atRow hN st (fun s hs => h s (by omega))).ad (Sm.sc _ h2))
theorem vse_atAll {ys : List (List Int)} {vals : List (List (List Int))} {row : List Int} {N n st : Nat} (hn : ys.length = n) (hN : ∀ i, i < n → (atL ys i).length = N) (hv : ∀ s i, s < st → i < n → (atL (atLL vals s) i).length = N) (ho : ∀ s, (atLL vals s).length ≤ n) :
    VSm N (vse (atAll ys vals row st)) (stg (vse ys) (atZ row) (fun s => vse (atLL vals s)) st) := fun i => by
  by_cases hi : i < n
  · show Sm N (se (atL (atAll ys vals row st) i)) _
    rw [atAll_at (by omega)]
    exact se_atRow (hN i hi) st (fun s hs => hv s i hs hi)
  · rw [vse_out (by rw [atAll_len]; omega), stg_zero (vse_out (by omega)) (fun s => vse_out (by have := ho s; omega))]
    exact Sm.refl _
/-- What the stages are after all rounds. -/
theorem stages {parts : List (List MonZ)} {ys : List (List Int)} {rows : Nat → List Int} {st n N : Nat} {start : List (List (List Int))} (hy : ys.length = n) (hp : parts.length = n) (hn : 0 < n) (hN0 : 0 < N) (hs : ∀ i, i < n → (atL ys i).length = N) (h0 : Cube st n N start)
    (hm : ∀ p ∈ parts, ∀ m ∈ p, m.pows.length ≤ n) :
    ∃ (F Z : Nat → Vec), (∀ s, s < st → VSm N (Z s) (stg (vse ys) (atZ (rows s)) F st)) ∧
      (∀ s i p, s < st → parts[i]? = some p → Sm N (F s i) (pv (Z s) p)) ∧ (∀ s i, n ≤ i → Z s i = ze) ∧
      ∀ row, VSm N (vse (atAll ys (roundsZ parts ys rows st start N) row st)) (stg (vse ys) (atZ row) F st) := by
  obtain ⟨V, hV⟩ : ∃ V, V = roundsZ parts ys rows st start N := ⟨_, rfl⟩
  have hc : Cube st n N V := hV ▸ roundsZ_cube hy hp hn hs h0 N
  have hshift : ∀ r, roundsZ parts ys rows st (roundZ parts ys rows st start) r = roundsZ parts ys rows st start (r + 1) := fun r => by
    induction r with
    | zero => rfl
    | succ r ih => rw [roundsZ, ih]; rfl
  have hfix : ∀ s i, s < st → i < n → atL (atLL V s) i = atL (atLL (roundZ parts ys rows st V) s) i := fun s i h1 h2 => by
    have h := rounds_agree (rows := rows) hy hp hn hs h0 (roundZ_cube (vals := start) (rows := rows) (st := st) hy hp hn hs) hm N (Nat.le_refl _) s i h1 h2
    rw [hshift N, roundsZ, ← hV] at h
    exact h.eq (hc.2 s i h1 h2) ((roundZ_cube hy hp hn hs).2 s i h1 h2)
  have hlen : ∀ s, (atLL V s).length ≤ n := fun s => by
    by_cases h : s < st
    · obtain ⟨M, rfl⟩ : ∃ M, N = M + 1 := ⟨N - 1, by omega⟩
      rw [hV, roundsZ, roundZ_at h, fldJ_len, hp]
      exact Nat.le_refl _
    · unfold atLL
      rw [List.getElem?_eq_none (by have := hc.1; omega)]
      exact Nat.zero_le _
  refine ⟨fun s => vse (atLL V s), fun s => vse (atAll ys V (rows s) st), fun s h => ?_, fun s i p h1 h2 => ?_, fun s i h => vse_out (by rw [atAll_len]; omega), fun row => ?_⟩
  · exact vse_atAll hy hs hc.2 hlen
  · have hi : i < n := by have := (List.getElem?_eq_some_iff.1 h2).1; omega
    have h3 : (fun s => vse (atLL V s)) s i = se (dervL p (atAll ys V (rows s) st) []) := by
      show se (atL (atLL V s) i) = _
      rw [hfix s i h1 hi, roundZ_at h1, fldJ_at h2]
    rw [h3]
    have hh : hdL (atAll ys V (rows s) st) = N := by rw [hdL_at, atAll_at (by omega), atRow_len, hs 0 hn]
    have h4 := dervL_pv (p := p) (y := atAll ys V (rows s) st) (by omega)
    rw [hh] at h4
    exact h4
  · rw [← hV]
    exact vse_atAll hy hs hc.2 hlen
end Go.Proofs.YtbcjhpgkodeoeaaGreatDoor

/- Exact solutions as series: their derivative is the field's value. Plain: no program's step stands here. -/
namespace Go.Proofs.YtbcjhpgkodeoeaaGreatDoor
open Go.RowKit Go.Sort

theorem frac_back (a : Int) {k : Nat} (h1 : 1 ≤ k) (h2 : k ≤ 1000000270) : resZ ((k : Int) * fracZ a (k : Int)) = resZ a := by
  have hu := inv_one (a := (k : Int)) (by omega)
  have e : resZ ((k : Int) * powZ (k : Int) 1000000269) = 1 := hu
  have h3 : resZ ((k : Int) * fracZ a (k : Int)) = resZ (a * ((k : Int) * powZ (k : Int) 1000000269)) := by
    simp only [fracZ, timesZ, resZ]
    rw [modr]
    congr 1
    grind
  rw [h3, res_mul (b := 1) (by rw [e]; rfl), Int.mul_one]
theorem powZ_one (k : Nat) : powZ 1 (k : Int) = 1 := by
  unfold powZ
  rw [if_neg (by omega), Int.toNat_natCast, Int.one_pow]
  rfl
/-- the points of an exact path, as columns -/
theorem exSt_at {parts : List (List MonZ)} {y : List Int} {order k i : Nat} (hk : k ≤ order) (hi : i < y.length) (hy : Nums y) : atZ (atL (exSt parts y order 1) k) i = atZ (atL (exS parts y order) k) i := by
  have e1 : atL (exSt parts y order 1) k = (List.range y.length).map fun i => timesZ (atZ (atL (exS parts y order) k) i) (powZ 1 (k : Int)) := by simp [exSt, atL, show k < order + 1 by omega]
  rw [e1, powZ_one]
  have hn : Nums (atL (exS parts y order) k) := exS_nums hy order _ (by unfold atL; rw [List.getElem?_eq_getElem (by rw [exS_len]; omega)]; exact List.getElem_mem _)
  have hb := numsZ_at hn i
  simp only [atZ, List.getElem?_map, List.getElem?_range hi, Option.map_some, Option.getD_some]
  unfold timesZ
  have hb' : 0 ≤ ((atL (exS parts y order) k)[i]?.getD 0) ∧ ((atL (exS parts y order) k)[i]?.getD 0) ≤ 1000000270 := hb
  omega
theorem exSt_len (parts : List (List MonZ)) (y : List Int) (order : Nat) (t : Int) : (exSt parts y order t).length = order + 1 := by simp [exSt]
theorem exact_ser {parts : List (List MonZ)} {y : List Int} {order : Nat} (hy : Nums y) (hn : 0 < y.length) (hp : parts.length = y.length) (ho : order ≤ 1000)
    {i : Nat} {p : List MonZ} (hi : parts[i]? = some p) (hm : ∀ m ∈ p, m.pows.length = y.length) : Sm order (dt (vse (turnZ (exSt parts y order 1) y.length) i)) (pv (vse (turnZ (exSt parts y order 1) y.length)) p) := by
  have hin : i < y.length := by have := (List.getElem?_eq_some_iff.1 hi).1; omega
  have hcol : ∀ j k, j < y.length → k ≤ order → vse (turnZ (exSt parts y order 1) y.length) j k = atZ (atL (exS parts y order) k) j := fun j k hj hk => by
    show atZ (atL (turnZ _ _) j) k = _
    rw [turn_at hj, col_at (by rw [exSt_len]; omega), exSt_at hk hj hy]
  intro k hk
  show resZ (((k : Int) + 1) * vse _ i (k + 1)) = _
  rw [hcol i (k + 1) hin (by omega)]
  have hS : atZ (atL (exS parts y order) (k + 1)) i = fracZ (atZ (atL (fldJ parts (turnZ (exS parts y k) y.length)) i) k) ((k : Int) + 1) := by
    rw [exS_pre parts y (j := k + 1) (n := order) (by omega) (k + 1) (Nat.le_refl _), exS, atL, List.getElem?_append_right (by rw [exS_len]; omega), exS_len, Nat.sub_self]
    simp [atZ, hin]
  have h1 := frac_back (atZ (atL (fldJ parts (turnZ (exS parts y k) y.length)) i) k) (k := k + 1) (by omega) (by omega)
  rw [show (((k + 1 : Nat) : Int)) = (k : Int) + 1 by omega] at h1
  rw [hS, h1, fldJ_at hi]
  have hh : hdL (turnZ (exS parts y k) y.length) = k + 1 := by rw [hdL_at, turn_at hn, colZ_len, exS_len]
  have h2 := dervL_pv (p := p) (y := turnZ (exS parts y k) y.length) (by omega)
  rw [hh] at h2
  have h3 := h2 k (by omega)
  have h4 : Sm (k + 1) (pv (fun i => se (atL (turnZ (exS parts y k) y.length) i)) p) (pv (vse (turnZ (exSt parts y order 1) y.length)) p) := by
    refine VSm.pv (fun j => ?_) p
    by_cases hj : j < y.length
    · intro q hq
      rw [hcol j q hj (by omega)]
      show resZ (atZ (atL (turnZ _ _) j) q) = _
      rw [turn_at hj, col_at (by rw [exS_len]; omega), exS_pre parts y (j := k) (n := order) (by omega) q (by omega)]
    · rw [vse_out (by rw [turnZ_len]; omega)]
      refine Sm.of_eq ?_
      show se (atL _ j) = _
      unfold atL
      rw [List.getElem?_eq_none (by rw [turnZ_len]; omega)]
      exact se_nil
  exact h3.trans (h4 k (by omega))
end Go.Proofs.YtbcjhpgkodeoeaaGreatDoor

/- Symplectic steps of the tangents of a polynomial's field keep the form, and so do exact ones; in series. Plain: no program's step stands here. -/
namespace Go.Proofs.YtbcjhpgkodeoeaaGreatDoor
open Go.RowKit Go.Sort

end Go.Proofs.YtbcjhpgkodeoeaaGreatDoor

/- ExactPath of the program and of the reference. Conditions: lengths of slices up to 2^20. -/
namespace Go.Proofs.YtbcjhpgkodeoeaaGreatDoor
open Go.RowKit Go.Sort

theorem below_drew (w : World) : Below w.heap.size w w.drew := (Below.refl _ _).drew
/-- one round of the program, i coordinates done -/
def exR (v z : List (List Int)) (j : Nat) (t : Int) : Nat → List (List Int)
  | 0 => z
  | i + 1 => (exR v z j t i).set i ((atL z i).set (j + 1) (fracZ (timesZ t (atZ (atL v i) j)) ((j : Int) + 1)))
theorem exR_len (v z : List (List Int)) (j : Nat) (t : Int) (i : Nat) : (exR v z j t i).length = z.length := by
  induction i with
  | zero => rfl
  | succ i ih => rw [exR, List.length_set, ih]
theorem exR_at (v z : List (List Int)) (j : Nat) (t : Int) (i : Nat) (hi : i ≤ z.length) : ∀ k, k < z.length → atL (exR v z j t i) k = if k < i then (atL z k).set (j + 1) (fracZ (timesZ t (atZ (atL v k) j)) ((j : Int) + 1)) else atL z k := by
  induction i with
  | zero => intro k _; rw [exR, if_neg (by omega)]
  | succ i ih =>
    intro k hk
    rw [exR, atL]
    by_cases h : k = i
    · subst h
      rw [List.getElem?_set_self (by rw [exR_len]; omega), if_pos (by omega)]
      rfl
    · rw [List.getElem?_set_ne (by omega), ← atL, ih (by omega) k hk]
      by_cases h2 : k < i
      · rw [if_pos h2, if_pos (by omega)]
      · rw [if_neg h2, if_neg (by omega)]
theorem exR_done {parts : List (List MonZ)} {y : List Int} {order j : Nat} {t : Int} : exR (fldJ parts (exI parts y order t j)) (exI parts y order t j) j t y.length = exI parts y order t (j + 1) := by
  refine list_ext_atL (by rw [exR_len, exI_len, exI_len]) fun i hi => ?_
  rw [exR_len, exI_len] at hi
  rw [exR_at _ _ _ _ _ (by rw [exI_len]; exact Nat.le_refl _) _ (by rw [exI_len]; exact hi), if_pos hi, exI]
  simp [atL, hi]
theorem exI_ok {parts : List (List MonZ)} {y : List Int} {order : Nat} {t : Int} (hy : Nums y) (j : Nat) : AllJ (order + 1) (exI parts y order t j) := by
  induction j with
  | zero =>
    intro x hx
    simp only [exI, List.mem_map] at hx
    obtain ⟨c, hc, rfl⟩ := hx
    exact ⟨oneAt_len _ _, oneAt_nums (hy c hc) _⟩
  | succ j ih =>
    intro x hx
    simp only [exI, List.mem_map, List.mem_range] at hx
    obtain ⟨i, hi, rfl⟩ := hx
    have := allJ_atL ih (i := i) (by rw [exI_len]; exact hi)
    exact ⟨by rw [List.length_set, this.1], nums_set this.2 (fracZ_bd _ _)⟩

def ordB (n : Int) : Bool := decide (0 ≤ n ∧ n ≤ 6)
theorem isOrder_any (n : Int) (w : World) :
    Calls Tryz.prog 62 #[.int .i64 n] w fun e w' => e = .returned (.bool (ordB n)) ∧ w = w' := by
  by_cases h0 : 0 ≤ n
  · by_cases h1 : n ≤ 6
    · go_enter Tryz.func62, Tryz.ntmps62
      go_wp2
      go_ret
      exact ⟨ret_bool (by simp [ordB, h0, h1]), rfl⟩
    · go_enter Tryz.func62, Tryz.ntmps62
      go_wp2
      go_ret
      exact ⟨ret_bool (by simp [ordB]; omega), rfl⟩
  · go_enter Tryz.func62, Tryz.ntmps62
    go_wp2
    go_ret
    exact ⟨ret_bool (by simp [ordB]; omega), rfl⟩
theorem isOrder_eq {n : Int} {b : Bool} (h : ordB n = b) (w : World) : Calls Tryz.prog 62 #[.int .i64 n] w fun e w' => e = .returned (.bool b) ∧ w = w' := h ▸ isOrder_any n w
theorem const_row {e size : Nat} {w w1 : World} {c : Int} (hc : 0 ≤ c ∧ c ≤ 1000000270) (hown : w1.ownsRow 0 e 1 (.slice (some ⟨w.heap.size, 0, none⟩) size size) size (madeCells (Value.int .i64 0).cells (size * 1)).toList) (hg : w.grownBy w1 none) (hs : 1 ≤ size) :
    w1.cell? ⟨w.heap.size, 0, none⟩ = some (.int .i64 0) ∧ OwnI e (w1.setCell ⟨w.heap.size, 0, none⟩ (.int .i64 c)) (.slice (some ⟨w.heap.size, 0, none⟩) size size) (oneAt c size) [w.heap.size] ∧ Below w.heap.size w (w1.setCell ⟨w.heap.size, 0, none⟩ (.int .i64 c)) := by
  have hm0 : (madeCells (Value.int .i64 0).cells (size * 1)).toList = (List.replicate size (0 : Int)).map (Value.int .i64) := by
    rw [Nat.mul_one, List.map_replicate]; exact toList_madeCells_one _ _
  rw [hm0] at hown
  have hb : Below w.heap.size w w1 := (Below.refl _ _).grown hg (Nat.le_refl _) (fun k hk => by cases hk)
  have hsr := (hown.stored 0 (.int .i64 c)).1
  refine ⟨?_, ⟨?_, rfl, fun x hx => i64_of_bd (oneAt_nums hc size x hx)⟩, hb.setCell (Nat.le_refl _) _⟩
  · rw [hown.cellAt 0 (by omega), List.getElem?_map, List.getElem?_replicate, if_pos (by omega)]
    rfl
  · rw [oneAt_len, oneAt, List.map_set]
    exact hsr
theorem constant_any (c nz : Int) (size : Nat) (w : World) (hz : nz = (size : Int)) (hc : 0 ≤ c ∧ c ≤ 1000000270) (hs : 1 ≤ size) (hs7 : size ≤ 7) :
    Calls Tryz.prog 63 #[.int .i64 c, .int .i64 nz] w (Gives (fun w' v fp => OwnI 3 w' v (oneAt c size) fp) w) := by
  subst hz
  obtain ⟨i0, hi, hz0, hz1, hz2⟩ := info_parts Tryz.info_int
  have hib : i0.bytes * size ≤ 281474976710656 := by rw [hz2]; omega
  have hs0 : (0 : Int) < size := by omega
  go_enter Tryz.func63, Tryz.ntmps63
  go_wp2_with (first
    | (at_make; refine wpList_make_full _ rfl _ _ 89 rfl 0 3 i0 (.int .i64 0) 1 Tryz.underlying89 hi hz0 hz1 .i64 .i64 _ _ size rfl rfl rfl rfl hib (by unfold maxLen; omega) (Nat.zero_le _) ?_; intro w1 hown1 hgrow1; have hfz := hown1.frozenAt 0; have hst := const_row hc hown1 hgrow1 hs; obtain ⟨hcell', hOW⟩ := hst; have HOW := Lib.hid hOW; clear hOW hown1 hgrow1))
  go_ret
  exact ⟨_, [w.heap.size], rfl, HOW.out.1, by simp, HOW.out.2⟩

def exactL (f : FldZ) (y : List Int) (order t : Int) : List (List Int) := if fpOkB f [y] && ordB order then exSt f.parts y order.toNat t else []

set_option maxRecDepth 100000 in
set_option maxHeartbeats 6400000 in
theorem exact_any (vf vy : Value) (f : FldZ) (y : List Int) (order t : Int) (w : World) (hf : RdFld w vf f) (hy : RdI w vy y) (hfit : ∀ p ∈ f.parts, ∀ m ∈ p, Fit_Mon m) :
    Calls Tryz.prog 13 #[vf, vy, .int .i64 order, .int .i64 t] w (Gives (fun w' v fp => OwnII 35 3 w' v (exactL f y order t) fp) w) := by
  have hnone : ∀ W, Below w.heap.size w W → (fpOkB f [y] && ordB order) = false → Gives (fun w' v fp => OwnII 35 3 w' v (exactL f y order t) fp) w (.returned (.slice none 0 0)) W := by
    intro W hW hd
    refine ⟨_, [], rfl, ?_, by simp, hW⟩
    rw [exactL, hd]
    exact ⟨[], [], World.ownsRow_nil _ _ _ _, by simp, rfl, rfl, by simp⟩
  obtain ⟨vP, rfl, hI, hp⟩ := hf
  obtain ⟨ady, ly, capy, rfl, hly, hlcy, hcmy, hy'⟩ := rdS_open hy
  obtain ⟨adp, lenp, capp, rfl, hlp, hlcp, hcmp, hp'⟩ := rdS_open hp
  obtain ⟨W, hW⟩ : ∃ W, W = w.alloc (.cells #[.int .i64 f.dim, .slice adp lenp capp] 30) := ⟨_, rfl⟩
  obtain ⟨W2, hW2⟩ : ∃ W2, W2 = W.alloc (.cells #[.slice ady ly capy] 35) := ⟨_, rfl⟩
  have hb0 : Below w.heap.size w W := hW ▸ (Below.refl _ _).alloc (Nat.le_refl _) _
  have hb1 : Below w.heap.size w W2 := hW2 ▸ hb0.alloc hb0.size _
  have hsz : W.heap.size = w.heap.size + 1 := by rw [hW]; simp
  have hd0 : W2.cell? ⟨w.heap.size, 0, none⟩ = some (.int .i64 f.dim) := by rw [hW2, hW]; simp
  have hd1 : W2.cell? ⟨w.heap.size, 1, none⟩ = some (.slice adp lenp capp) := by rw [hW2, hW]; simp
  have hyW : RdII W2 (.slice (some ⟨W.heap.size, 0, none⟩) 1 1) [y] := rdII_one (rdI_mono hb0 hy') hW2
  rw [hsz] at hyW
  have hfW : RdFld W2 (.agg #[.int .i64 f.dim, .slice adp lenp capp]) f := ⟨_, rfl, hI, rdMss_mono hb1 hp'⟩
  have HW := Lib.hid hW
  have HW2 := Lib.hid hW2
  clear hW hW2 hy hp hlp hb0 hsz
  cases hk : fpOkB f [y] with
  | false =>
    have HN := Lib.hid (fun W hW => hnone W hW (by rw [hk]; rfl))
    clear hnone hly
    go_enter Tryz.func13, Tryz.ntmps13
    go_wp2_with fail
    rw [← HW.out, ← HW2.out]
    refine (fpOk_eq _ _ f [y] W2 hfW hyW hfit hk).mono ?_
    rintro e w1 ⟨rfl, hb2⟩
    go_wp2
    go_ret
    exact HN.out _ (hb1.trans (hb2.mono hb1.size))
  | true =>
  cases ho : ordB order with
  | false =>
    have HN := Lib.hid (fun W hW => hnone W hW (by rw [hk, ho]; rfl))
    clear hnone hly
    go_enter Tryz.func13, Tryz.ntmps13
    go_wp2_with fail
    rw [← HW.out, ← HW2.out]
    refine (fpOk_eq _ _ f [y] W2 hfW hyW hfit hk).mono ?_
    rintro e w1 ⟨rfl, hb2⟩
    go_wp2_with (go_at_call 62; ((with_reducible refine (isOrder_eq ho _).mono ?_); rintro e w' ⟨rfl, rfl⟩))
    go_ret
    exact HN.out _ (hb1.trans (hb2.mono hb1.size))
  | true =>
  obtain ⟨n, f1, f2, f3, f4, f5, f6⟩ := fpOk_facts hk
  obtain ⟨o, hoN, ho6⟩ : ∃ o : Nat, order = o ∧ o ≤ 6 := by
    simp only [ordB, decide_eq_true_eq] at ho
    exact ⟨order.toNat, by omega, by omega⟩
  subst hoN
  obtain ⟨_, _, q3, q4⟩ := pathOk_facts f6
  have hyn : y.length = n := q3 y (by simp)
  have hynum : Nums y := q4 y (by simp)
  obtain rfl : ly = n := by omega
  have hE : exactL f y o t = turnZ (exI f.parts y o t o) (o + 1) := by
    rw [exactL, hk, ho, exact_same hynum (by omega) (by rw [f2, hyn]) (fun p hp m hm => by have := (f5 p hp).2 m hm; have := this.2.1; omega)]
    simp
  have HE := Lib.hid hE
  have hd0n : W2.cell? ⟨w.heap.size, 0, none⟩ = some (.int .i64 (ly : Int)) := by rw [← f1]; exact hd0
  have F1 := Lib.hid f1
  have F2 := Lib.hid f2
  have F5 := Lib.hid f5
  have HYN := Lib.hid hyn
  have HYM := Lib.hid hynum
  have HK := Lib.hid hk
  have HOB := Lib.hid ho
  clear hd0 f1 f2 f5 f6 hnone q3 q4 hyn hynum hE ho hly
  obtain ⟨j1, hj1, hw0, hw1, hw2⟩ := info_parts Tryz.info_jet
  go_enter Tryz.func13, Tryz.ntmps13
  go_wp2_with fail
  rw [← HW.out, ← HW2.out]
  refine (fpOk_eq _ _ f [y] W2 hfW hyW hfit HK.out).mono ?_
  rintro e w1 ⟨rfl, hb2⟩
  have hbw1 := hb1.trans (hb2.mono hb1.size)
  have hc0 := cell_below hb2 hd0n
  have hc1 := cell_below hb2 hd1
  have HBW1 := Lib.hid hbw1
  clear hfW hyW hd0n hd1 hb1 hb2 hbw1 hk
  go_wp2_with (go_at_call 62; ((with_reducible refine (isOrder_eq HOB.out _).mono ?_); rintro e w' ⟨rfl, rfl⟩))
  have HO0 := Lib.hid (show OwnII 89 3 (w1.alloc (.cells #[] 89)) (.slice (some ⟨w1.heap.size, 0, none⟩) 0 0) [] [w1.heap.size] from ⟨[], [], by simpa using World.ownsRow_lit (base := 0) (e := 89) (size := 1) w1 #[] 0 (Nat.zero_le _) (Nat.zero_le _) rfl, by simp, rfl, rfl, by simp⟩)
  have HB0 := Lib.hid (show Below w1.heap.size w1 (w1.alloc (.cells #[] 89)) from (Below.refl _ _).alloc (Nat.le_refl _) _)
  have u1 : IntKind.i64.wrap ((o : Int) + 1) = (o : Int) + 1 := IntWalk.i64_in _ (by omega)
  go_loopw [9, 28] (fun u i wr => ∃ (k : Nat) (fs : List Nat), k ≤ ly ∧ i = .int .i64 k ∧ OwnII 89 3 wr u ((exI f.parts y o t 0).take k) fs ∧ (∀ b ∈ fs, w1.heap.size ≤ b) ∧ Below w1.heap.size w1 wr) (fun _ i _ => ly - (intOf i).toNat)
  case atStart => exact ⟨0, [w1.heap.size], Nat.zero_le _, rfl, by simpa using HO0.out, by simp, HB0.out⟩
  case round =>
    obtain ⟨wk, rfl⟩ : ∃ W, W = wr := ⟨_, rfl⟩
    obtain ⟨k, fs0, hk, rfl, ho, hf, hb⟩ := hrel
    clear HO0 HB0
    have htl : (exI f.parts y o t 0).length = ly := by rw [exI_len, HYN.out]
    have hwk := HBW1.out.trans (hb.mono HBW1.out.size)
    by_cases hlt : k < ly
    case pos =>
      have hkl : ((exI f.parts y o t 0).take k).length = k := by rw [List.length_take]; omega
      obtain ⟨us, fs, hown, hone, hels, rfl, hnd⟩ := ho
      have HOWN := Lib.hid hown
      rw [hkl] at hown
      obtain ⟨adu, capu, rfl, hluc, hcum, _⟩ := row_open hown
      have HNU := Lib.hid hown
      have HONE := Lib.hid hone
      have HELS := Lib.hid hels
      have HND := Lib.hid hnd
      have HF := Lib.hid hf
      have HKL := Lib.hid hkl
      have HB := Lib.hid hb
      obtain ⟨b5, o5, c, rfl, hc, hcc, hIc, _⟩ := rdI_get (rdI_mono hwk hy') hlt
      have hcn := nums_at HYM.out hc
      have hsn : (exI f.parts y o t 0).take (k + 1) = (exI f.parts y o t 0).take k ++ [oneAt c (o + 1)] := take_snoc (by simp [exI, hc])
      have HSN := Lib.hid hsn
      clear hown hone hels hnd hf hkl htl hb hc hsn hwk
      go_wp2_with fail
      refine (constant_any c _ (o + 1) _ (by omega) hcn (by omega) (by omega)).mono ?_
      rintro e wa ⟨p1, fp1, rfl, hop1, hfp1, hba⟩
      obtain ⟨adq, lq, capq, rfl, _, _, _, _, _, _⟩ := ownI_open hop1
      have hal : Below wa.heap.size wa (wa.alloc (.cells #[.slice adq lq capq] 89)) := (Below.refl _ _).alloc (Nat.le_refl _) _
      have HNQ := Lib.hid (ownsRow_only HNU.out (Only.of_below (fp := []) hba) (by simp))
      have HS := Lib.hid (fun (w2 : World) (gg capn : Nat) (hown1 : w2.ownsRow 0 89 1 (.slice (some ⟨gg, 0, none⟩) (k + 1) capn) (k + 1) (us.flatten ++ [.slice adq lq capq]))
          (hgrow : (wa.alloc (.cells #[.slice adq lq capq] 89)).grownBy w2 (Value.slice adu k capu).ownBlock) (hat : (Value.slice adu k capu).ownBlock = some gg ∨ gg = wa.heap.size + 1) =>
        ownII_push (W := w1) HONE.out HELS.out HND.out HOWN.out HKL.out hop1 hfp1 HF.out HB.out hba hal hown1 hgrow (fun b hb => by
          simp [Value.ownBlock] at hb
          subst hb
          rcases hat with hat | hat
          · left; exact hat
          · right; rw [hat]; simp))
      clear hop1 hal hfp1 hba
      go_wp2_with (first | (at_builtin; refine wpList_append_lies _ rfl _ _ _ rfl 0 89 j1 _ 1 24 Tryz.underlying83 hj1 hw0 hw1 hw2 rfl (by omega) (.slice adu k capu) k _ (by rfl) (HNQ.out.alloc _) ⟨wa.heap.size, 0, none⟩ 1 1 [.slice adq lq capq] (by rfl) (by rfl) (World.news_of_block (cs := #[.slice adq lq capq]) (t := 89) (fr := (0, 0)) (heap_alloc_new wa _)) (by simp [Value.oneCell']) (by omega) (by unfold maxLen; omega) (by omega) (by simp) (wa.heap.size + 1) (by simp) ?_; intro gg capn w2 hown1 hgrow hat hlt1; obtain ⟨f', hP1, hP2, hP3⟩ := HS.out w2 gg capn hown1 hgrow hat; have HPP := Lib.hid hP1))
      all_goals (
        go_roundw
        case rel => exact ⟨k + 1, f', by omega, by go_num, by rw [HSN.out]; exact HPP.out, hP2, hP3⟩
        case measure => simp [intOf]; omega)
    obtain rfl : k = ly := by omega
    rw [List.take_of_length_le (by omega)] at ho
    have HO := Lib.hid ho
    have HF := Lib.hid hf
    have HB := Lib.hid hb
    obtain ⟨adz, lz, capz, rfl, hlz, _, _, _⟩ := rdS_open (ownII_rd ho)
    rw [htl] at hlz
    subst hlz
    clear ho hf hb htl hwk
    go_wp2
    go_loopw [12] (fun i wr => ∃ j : Nat, j ≤ o ∧ i = .int .i64 j ∧ OwnII 89 3 wr (.slice adz k capz) (exI f.parts y o t j) fs0 ∧ Below w1.heap.size w1 wr) (fun i _ => o - (intOf i).toNat)
    case atStart => exact ⟨0, Nat.zero_le _, rfl, HO.out, HB.out⟩
    case round =>
      obtain ⟨wj, rfl⟩ : ∃ W, W = wr := ⟨_, rfl⟩
      obtain ⟨j, hj, rfl, hoj, hbj⟩ := hrel
      clear HO HB
      have hwj := HBW1.out.trans (hbj.mono HBW1.out.size)
      by_cases hjl : j < o
      case neg =>
        obtain rfl : j = o := by omega
        have hrow : ∀ z ∈ exI f.parts y j t j, z.length = j + 1 := fun z hz => (exI_ok HYM.out j z hz).1
        have P1 := Lib.hid (points_at _ (exI f.parts y j t j) (j + 1) ((j : Int) + 1) wj (by omega) (ownII_rd hoj) (by omega) (by rw [exI_len, HYN.out]; omega) hrow)
        have HWJ := Lib.hid hwj
        clear hoj hbj hrow hwj
        go_wp2_with (go_at_call 58; ((with_reducible refine (P1.out).mono ?_); rintro e wp ⟨p3, fp3, rfl, hop3, hfp3, hbc⟩))
        go_ret
        exact ⟨_, fp3, rfl, by rw [HE.out]; exact hop3, fun b hb => by { have := hfp3 b hb; have := HWJ.out.size; omega }, HWJ.out.trans (hbc.mono HWJ.out.size)⟩
      have hc0j := cell_below hbj hc0
      have hc1j := cell_below hbj hc1
      have hJ : fldD f.parts (exI f.parts y o t j) [] (o + 1) = fldJ f.parts (exI f.parts y o t j) := fldD_nil (by rw [hdL_at, exI_row _ _ _ _ _ _ (by rw [HYN.out]; omega)]) F5.out
      have A1 := Lib.hid (fieldAlong_any (.agg #[.int .i64 (k : Int), .slice adp lenp capp]) _ (.slice none 0 0) f (exI f.parts y o t j) [] k (o + 1) wj ⟨_, by rw [F1.out], hI, rdMss_mono hwj hp'⟩ (ownII_rd hoj) (rdIII_nil _) F2.out F5.out f3 f4 (by omega) (by omega) (by rw [exI_len, HYN.out]) (exI_ok HYM.out j) (by simp) (by simp))
      rw [hJ] at A1
      have HOJ := Lib.hid hoj
      have HBJ := Lib.hid hbj
      clear hJ hoj hbj hwj
      go_wp2_with fail
      refine (A1.out).mono ?_
      rintro e wa ⟨pv, fpv, rfl, hopv, hfpv, hba⟩
      obtain ⟨adv, lv, capv, rfl, hlv, _, _, _⟩ := rdS_open (ownII_rd hopv)
      rw [fldJ_len, F2.out] at hlv
      subst hlv
      have hoa := ownII_only HOJ.out (Only.of_below (fp := []) hba) (by simp)
      have hfz : ∀ b ∈ fs0, b < wj.heap.size := ownII_lt HOJ.out
      have HOA := Lib.hid hoa
      have HOV := Lib.hid hopv
      have HFV := Lib.hid hfpv
      have HFZ := Lib.hid hfz
      have HBA := Lib.hid (HBJ.out.trans (hba.mono HBJ.out.size))
      clear hopv hfpv hba hoa hfz A1 hc0j hc1j
      go_wp2
      go_loopw [50] (fun i wq => ∃ q : Nat, q ≤ k ∧ i = .int .i64 q ∧ OwnII 89 3 wq (.slice adz k capz) (exR (fldJ f.parts (exI f.parts y o t j)) (exI f.parts y o t j) j t q) fs0 ∧ OwnII 89 3 wq (.slice adv k capv) (fldJ f.parts (exI f.parts y o t j)) fpv ∧ Below w1.heap.size w1 wq) (fun i _ => k - (intOf i).toNat)
      case atStart => exact ⟨0, Nat.zero_le _, rfl, HOA.out, HOV.out, HBA.out⟩
      case round =>
        obtain ⟨wq, rfl⟩ : ∃ W, W = wr := ⟨_, rfl⟩
        obtain ⟨q, hq, rfl, hoq, hov, hbq⟩ := hrel
        clear HOA HOV HBA
        by_cases hql : q < k
        case neg =>
          obtain rfl : q = k := by omega
          have hR : exR (fldJ f.parts (exI f.parts y o t j)) (exI f.parts y o t j) j t q = exI f.parts y o t (j + 1) := by
            rw [← exR_done, HYN.out]
          rw [hR] at hoq
          have HOQ := Lib.hid hoq
          clear hoq hov hR
          go_wp2
          go_roundw
          case rel => exact ⟨j + 1, by omega, by go_num, HOQ.out, hbq⟩
          case measure => simp [intOf]; omega
        have hzl : (exI f.parts y o t j).length = k := by rw [exI_len, HYN.out]
        have hxq : (exR (fldJ f.parts (exI f.parts y o t j)) (exI f.parts y o t j) j t q)[q]? = some (atL (exI f.parts y o t j) q) := by
          have h1 := exR_at (fldJ f.parts (exI f.parts y o t j)) (exI f.parts y o t j) j t q (by omega) q (by omega)
          rw [if_neg (by omega)] at h1
          rw [← h1, List.getElem?_eq_getElem (by rw [exR_len]; omega), atL_get (List.getElem?_eq_getElem (by rw [exR_len]; omega))]
        have hrl : (atL (exI f.parts y o t j) q).length = o + 1 := (allJ_atL (exI_ok HYM.out j) (by omega)).1
        obtain ⟨z, hz⟩ : ∃ z, (atL (exI f.parts y o t j) q)[j + 1]? = some z := ⟨_, List.getElem?_eq_getElem (by omega)⟩
        obtain ⟨g, bz, cx, rfl, hqk, hcg, hjx, hcz, hfz, hbm, hset⟩ := ownII_set hoq hxq hz
        have hvx : (fldJ f.parts (exI f.parts y o t j))[q]? = some (atL (fldJ f.parts (exI f.parts y o t j)) q) := by
          rw [List.getElem?_eq_getElem (by rw [fldJ_len, F2.out]; exact hql), atL_get (List.getElem?_eq_getElem (by rw [fldJ_len, F2.out]; exact hql))]
        obtain ⟨bv, ov, ad6, l6, c6, vrow, rfl, hvr, hcv, h61, _, _, h64, _⟩ := rdII_get (ownII_rd hov) hql
        obtain rfl : atL (fldJ f.parts (exI f.parts y o t j)) q = vrow := by rw [hvx] at hvr; exact Option.some.inj hvr
        have hvl : (atL (fldJ f.parts (exI f.parts y o t j)) q).length = o + 1 := by
          have hqp : q < f.parts.length := by rw [F2.out]; exact hql
          have hpx : f.parts[q]? = some f.parts[q] := List.getElem?_eq_getElem hqp
          rw [fldJ_at hpx, dervL, dervP_len, hdL_at, exI_row _ _ _ _ _ _ (by rw [HYN.out]; omega)]
        obtain ⟨b7, o7, zv, rfl, hzv, hcv7, _, _⟩ := rdI_get h64 (k := j) (by omega)
        have hst := hset (fracZ (timesZ t zv) ((j : Int) + 1)) (i64_of_bd (fracZ_bd _ _))
        have hRs : (exR (fldJ f.parts (exI f.parts y o t j)) (exI f.parts y o t j) j t q).set q ((atL (exI f.parts y o t j) q).set (j + 1) (fracZ (timesZ t zv) ((j : Int) + 1))) = exR (fldJ f.parts (exI f.parts y o t j)) (exI f.parts y o t j) j t (q + 1) := by
          rw [exR, atZ_get hzv]
        rw [hRs] at hst
        have hO : Only [bz] wq (wq.setCell ⟨bz, j + 1, none⟩ (.int .i64 (fracZ (timesZ t zv) ((j : Int) + 1)))) := (Only.refl _ _).setCell (by simp) _
        have hov2 := ownII_only hov hO (fun b hb hm => by
          have h1 := HFV.out b hb
          have h2 := HFZ.out bz hbm
          have h3 := List.mem_singleton.1 hm
          omega)
        have hbq2 := hbq.setCell (p := ⟨bz, j + 1, none⟩) (HF.out bz hbm) (.int .i64 (fracZ (timesZ t zv) ((j : Int) + 1)))
        have hdr := below_drew (wq.setCell ⟨bz, j + 1, none⟩ (.int .i64 (fracZ (timesZ t zv) ((j : Int) + 1))))
        have HS1 := Lib.hid (ownII_only hst (Only.of_below (fp := []) hdr) (by simp))
        have HS2 := Lib.hid (ownII_only hov2 (Only.of_below (fp := []) hdr) (by simp))
        have HS3 := Lib.hid hbq2.drew
        rw [hrl] at hcg
        have hj6 : j < l6 := by omega
        have u2 : IntKind.i64.wrap ((j : Int) + 1) = (j : Int) + 1 := IntWalk.i64_in _ (by omega)
        have u4 : ((j : Int) + 1).toNat = j + 1 := by omega
        have u5 : 0 ≤ (j : Int) + 1 := by omega
        have u6 : (j : Int) + 1 < (o : Int) + 1 := by omega
        have u7 : j + 1 < o + 1 := by omega
        clear hst hRs hO hov2 hbq2 hdr hset hov hoq hxq hz hvx hvr hvl hzv h61 h64 hrl hzl hjx hbm hbq
        go_wp2
        (refine wp_region_still_tail 19 (by kernel_rfl) (by kernel_rfl) ?_; simp only [List.take_succ_cons, List.take_zero, List.drop_succ_cons, List.drop_zero]; (repeat (first | still_step | still_call (still_of (times_any _ _ _)) | still_call (still_of (fraction_any _ _ _)))); refine wpStill_nil ?_; change wpList _ _ _ _ _ (World.drew _))
        go_wp2
        go_roundw
        case rel => exact ⟨q + 1, by omega, by go_num, HS1.out, HS2.out, HS3.out⟩
        case measure => simp [intOf]; omega
end Go.Proofs.YtbcjhpgkodeoeaaGreatDoor

/- ExactPath of the reference. Conditions: lengths of slices up to 2^20. -/
namespace Go.Proofs.YtbcjhpgkodeoeaaGreatDoor
open Go.RowKit Go.Sort

end Go.Proofs.YtbcjhpgkodeoeaaGreatDoor
