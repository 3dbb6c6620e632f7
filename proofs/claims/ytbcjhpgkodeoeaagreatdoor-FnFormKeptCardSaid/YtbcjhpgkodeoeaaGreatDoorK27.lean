/- The texts TanS, StepS, ExS, FormK in one: each says at its head what it proves. Conditions: as said there. -/
import Derived.Test.YtbcjhpgkodeoeaaGreatDoorK19
import Derived.Test.YtbcjhpgkodeoeaaGreatDoorK26
set_option linter.unusedSimpArgs false
set_option linter.unusedVariables false
/- The tangents' field and the field of a polynomial at series: the form of two tangents does not change along it. Plain: no program's step stands here. -/
namespace Go.Proofs.YtbcjhpgkodeoeaaGreatDoor
open Go.RowKit Go.Sort

theorem pwV_congr {Y : Vec} {ps qs : List Int} : ∀ v, (∀ i, i < v → atZ ps i = atZ qs i) → pwV Y ps v = pwV Y qs v
  | 0, _ => rfl
  | v + 1, h => by rw [pwV, pwV, pwV_congr v (fun i hi => h i (by omega)), h v (by omega)]
theorem pwV_vec {Y Z : Vec} {ps : List Int} : ∀ v, (∀ i, i < v → Y i = Z i) → pwV Y ps v = pwV Z ps v
  | 0, _ => rfl
  | v + 1, h => by rw [pwV, pwV, pwV_vec v (fun i hi => h i (by omega)), h v (by omega)]
theorem pwV_more (Y : Vec) (ps : List Int) : ∀ n, pwV Y ps (ps.length + n) = pwV Y ps ps.length
  | 0 => rfl
  | n + 1 => by
    rw [← Nat.add_assoc, pwV, pwV_more Y ps n]
    have : atZ ps (ps.length + n) = 0 := by unfold atZ; rw [List.getElem?_eq_none (by omega)]; rfl
    rw [this]
    show cv _ (on 1) = _
    rw [cv_on1]
theorem atZ_zeros (ps : List Int) (n i : Nat) : atZ (ps ++ List.replicate n 0) i = atZ ps i := by
  unfold atZ
  by_cases h : i < ps.length
  · rw [List.getElem?_append_left h]
  · rw [List.getElem?_append_right (by omega), List.getElem?_eq_none (l := ps) (by omega), List.getElem?_replicate]
    split <;> rfl
theorem cv_swap (a b c : Ser) : cv (cv a b) c = cv (cv a c) b := by rw [cv_assoc, cv_comm b c, ← cv_assoc]
theorem pwV_set {Y : Vec} {ps : List Int} {u : Nat} (hu : u < ps.length) (h0 : 0 ≤ atZ ps u) : ∀ v, pwV Y (ps.set u (atZ ps u + 1)) v = if u < v then cv (pwV Y ps v) (Y u) else pwV Y ps v
  | 0 => by simp [pwV]
  | v + 1 => by
    rw [pwV, pwV_set hu h0 v, atZ_set hu]
    by_cases hv : u < v
    · rw [if_pos hv, if_neg (by omega), if_pos (by omega), pwV, cv_swap]
    · rw [if_neg hv]
      by_cases he : v = u
      · subst he
        rw [if_pos rfl, if_pos (by omega), pwV, show (atZ ps v + 1).toNat = (atZ ps v).toNat + 1 by omega, pwN, cv_assoc]
      · rw [if_neg he, if_neg (by omega), pwV]
theorem mv_wide0 {Y : Vec} {n : Nat} (m : MonZ) : mv Y (wideM n (-1) m) = mv Y m := by
  unfold mv
  show sc m.coef (pwV Y (wideP n (-1) m.pows) (wideP n (-1) m.pows).length) = _
  rw [wideP_len, wideP_neg _ (by omega), pwV_congr _ (fun i _ => atZ_zeros m.pows n i), pwV_more]
theorem mv_wide1 {Y : Vec} {n i : Nat} {m : MonZ} (hl : m.pows.length = n) (hi : i < n) : mv Y (wideM n ((n : Int) + (i : Int)) m) = cv (mv Y m) (Y (n + i)) := by
  unfold mv
  show sc m.coef (pwV Y (wideP n ((n : Int) + (i : Int)) m.pows) (wideP n ((n : Int) + (i : Int)) m.pows).length) = _
  have e : ((n : Int) + (i : Int)).toNat = n + i := by omega
  rw [wideP_len, wideP, if_pos (by omega), e]
  rw [pwV_set (by simp; omega) (by rw [atZ_zeros]; unfold atZ; rw [List.getElem?_eq_none (by omega)]; exact Int.le_refl _), if_pos (by omega), pwV_congr _ (fun i _ => atZ_zeros m.pows n i), pwV_more, sc_cv]
theorem pv_wide0 (Y : Vec) (n : Nat) : ∀ p : List MonZ, pv Y (wideL n (-1) p) = pv Y p
  | [] => rfl
  | m :: p => by
    show pv Y (wideM n (-1) m :: wideL n (-1) p) = _
    rw [pv_cons, pv_cons, mv_wide0, pv_wide0 Y n p]
theorem pv_wide1 (Y : Vec) {n i : Nat} (hi : i < n) : ∀ p : List MonZ, (∀ m ∈ p, m.pows.length = n) → pv Y (wideL n ((n : Int) + (i : Int)) p) = cv (pv Y p) (Y (n + i))
  | [], _ => by rw [pv_nil, cv_ze]; rfl
  | m :: p, h => by
    show pv Y (wideM n _ m :: wideL n _ p) = _
    rw [pv_cons, pv_cons, mv_wide1 (h m (by simp)) hi, pv_wide1 Y hi p (fun x hx => h x (by simp [hx])), ad_cv]
theorem pv_vec {Y Z : Vec} {n : Nat} (hY : ∀ i, i < n → Y i = Z i) : ∀ p : List MonZ, (∀ m ∈ p, m.pows.length = n) → pv Y p = pv Z p
  | [], _ => rfl
  | m :: p, h => by
    rw [pv_cons, pv_cons, pv_vec hY p (fun x hx => h x (by simp [hx]))]
    unfold mv
    rw [pwV_vec _ (fun i hi => hY i (by have := h m (by simp); omega))]
theorem pv_congr {N n : Nat} {Y Z : Vec} (hY : ∀ i, i < n → Sm N (Y i) (Z i)) (p : List MonZ) (h : ∀ m ∈ p, m.pows.length = n) : Sm N (pv Y p) (pv Z p) := by
  have h1 : pv Y p = pv (fun i => if i < n then Y i else ze) p := pv_vec (n := n) (fun i hi => by rw [if_pos hi]) p h
  have h2 : pv Z p = pv (fun i => if i < n then Z i else ze) p := pv_vec (n := n) (fun i hi => by rw [if_pos hi]) p h
  rw [h1, h2]
  refine VSm.pv (fun i => ?_) p
  by_cases hi : i < n
  · simp only [if_pos hi]; exact hY i hi
  · simp only [if_neg hi]; exact Sm.refl _
/-- the sum of the first n series -/
def ssum (f : Nat → Ser) : Nat → Ser
  | 0 => ze
  | n + 1 => ad (ssum f n) (f n)
theorem pv_tanQ (Y : Vec) {n : Nat} {p : List MonZ} (hp : ∀ m ∈ p, MonFine n m) : ∀ k, k ≤ n → pv Y (tanQ n p k) = ssum (fun i => cv (pv Y (partL i 1 p)) (Y (n + i))) k
  | 0, _ => rfl
  | k + 1, hk => by
    rw [tanQ_next, pv_append, pv_tanQ Y hp k (by omega), pv_wide1 Y (by omega) _ (fun m hm => (low_part hp m hm).2.1), ssum]
/-- The parts of the tangents' field at series. -/
theorem pv_tanP (Y : Vec) {n : Nat} {parts : List (List MonZ)} (hl : parts.length = n) (hp : ∀ p ∈ parts, ∀ m ∈ p, MonFine n m) {j : Nat} {p : List MonZ} (hj : parts[j]? = some p) :
    (∃ q, (tanP n parts)[j]? = some q ∧ pv Y q = pv Y p) ∧ ∃ q, (tanP n parts)[n + j]? = some q ∧ ∀ N, Sm N (pv Y q) (ssum (fun i => cv (pv Y (partL i 1 p)) (Y (n + i))) n) := by
  have hjn : j < n := by have := (List.getElem?_eq_some_iff.1 hj).1; omega
  constructor
  · refine ⟨wideL n (-1) p, ?_, pv_wide0 Y n p⟩
    rw [tanP, List.getElem?_append_left (by rw [tanW_len]; omega), tanW, List.getElem?_map, hj]
    rfl
  · refine ⟨putAll [] (tanQ n p n), ?_, fun N => ?_⟩
    · rw [tanP, List.getElem?_append_right (by rw [tanW_len]; omega), tanW_len, hl, show n + j - n = j by omega, tanC, List.getElem?_map, hj]
      rfl
    · have hf := hp p (List.mem_of_getElem? hj)
      rw [← pv_tanQ Y hf n (Nat.le_refl _)]
      exact pv_putAll Y (tanQ_nums hf n) N

theorem partL_cons (v : Nat) (s : Int) (m : MonZ) (p : List MonZ) : partL v s (m :: p) = (partM v s m).toList ++ partL v s p := by
  rw [partL, List.filterMap_cons]
  cases partM v s m <;> rfl
theorem partL_append (v : Nat) (s : Int) (p q : List MonZ) : partL v s (p ++ q) = partL v s p ++ partL v s q := List.filterMap_append
/-- Mixed derivatives. -/
theorem part_mixed (Y : Vec) (N : Nat) : ∀ h : List MonZ, (∀ m ∈ h, 2 ≤ m.pows.length) → Sm N (ad (pv Y (partL 0 1 (partL 1 1 h))) (pv Y (partL 1 1 (partL 0 (-1) h)))) ze
  | [], _ => fun k _ => by show resZ (0 + 0) = _; rfl
  | m :: h, hl => by
    have ih := part_mixed Y N h (fun x hx => hl x (by simp [hx]))
    have h2 := hl m (by simp)
    rw [partL_cons, partL_cons 0 (-1), partL_append, partL_append, pv_append, pv_append]
    have key : Sm N (ad (pv Y (partL 0 1 (partM 1 1 m).toList)) (pv Y (partL 1 1 (partM 0 (-1) m).toList))) ze := by
      by_cases h1 : 0 < atZ m.pows 1
      · by_cases h0 : 0 < atZ m.pows 0
        · have e1 : partL 0 1 (partM 1 1 m).toList = [⟨timesZ (timesZ m.coef (1 * atZ m.pows 1)) (1 * atZ m.pows 0), (m.pows.set 1 (atZ m.pows 1 - 1)).set 0 (atZ m.pows 0 - 1)⟩] := by
            rw [partM, if_pos h1, Option.toList_some, partL_cons, partM]
            simp only [atZ_set (show 1 < m.pows.length by omega), if_neg (show ¬ (0 : Nat) = 1 by omega)]
            rw [if_pos h0]
            rfl
          have e2 : partL 1 1 (partM 0 (-1) m).toList = [⟨timesZ (timesZ m.coef (-1 * atZ m.pows 0)) (1 * atZ m.pows 1), (m.pows.set 1 (atZ m.pows 1 - 1)).set 0 (atZ m.pows 0 - 1)⟩] := by
            rw [partM, if_pos h0, Option.toList_some, partL_cons, partM]
            simp only [atZ_set (show 0 < m.pows.length by omega), if_neg (show ¬ (1 : Nat) = 0 by omega)]
            rw [if_pos h1, List.set_comm _ _ (by omega)]
            rfl
          rw [e1, e2]
          intro k _
          rw [pv_cons, pv_cons, pv_nil]
          show resZ ((timesZ _ _ * _ + 0) + (timesZ _ _ * _ + 0)) = resZ 0
          generalize pwV Y ((m.pows.set 1 (atZ m.pows 1 - 1)).set 0 (atZ m.pows 0 - 1)) ((m.pows.set 1 (atZ m.pows 1 - 1)).set 0 (atZ m.pows 0 - 1)).length k = g
          rw [Int.add_zero, Int.add_zero, ← Int.add_mul]
          have e3 : resZ (timesZ (timesZ m.coef (1 * atZ m.pows 1)) (1 * atZ m.pows 0) + timesZ (timesZ m.coef (-1 * atZ m.pows 0)) (1 * atZ m.pows 1)) = resZ 0 := by
            simp only [timesZ, resZ, modl]
            rw [← Int.add_emod, show m.coef * (1 * atZ m.pows 1) * (1 * atZ m.pows 0) + m.coef * (-1 * atZ m.pows 0) * (1 * atZ m.pows 1) = 0 by grind]
          rw [res_mul2 e3 rfl, Int.zero_mul]
        · have e1 : partL 0 1 (partM 1 1 m).toList = [] := by
            rw [partM, if_pos h1, Option.toList_some, partL_cons, partM]
            simp only [atZ_set (show 1 < m.pows.length by omega), if_neg (show ¬ (0 : Nat) = 1 by omega)]
            rw [if_neg h0]
            rfl
          have e2 : partM 0 (-1) m = none := by rw [partM, if_neg h0]
          rw [e1, e2]
          exact fun k _ => rfl
      · have e1 : partM 1 1 m = none := by rw [partM, if_neg h1]
        by_cases h0 : 0 < atZ m.pows 0
        · have e2 : partL 1 1 (partM 0 (-1) m).toList = [] := by
            rw [partM, if_pos h0, Option.toList_some, partL_cons, partM]
            simp only [atZ_set (show 0 < m.pows.length by omega), if_neg (show ¬ (1 : Nat) = 0 by omega)]
            rw [if_neg h1]
            rfl
          rw [e1, e2]
          exact fun k _ => rfl
        · have e2 : partM 0 (-1) m = none := by rw [partM, if_neg h0]
          rw [e1, e2]
          exact fun k _ => rfl
    intro k hk
    have a1 := key k hk
    have a2 := ih k hk
    have a3 := res_add a1 a2
    show resZ ((_ + _) + (_ + _)) = _
    have e : ∀ a b c d : Int, (a + b) + (c + d) = (a + c) + (b + d) := fun a b c d => by omega
    rw [e]
    exact a3
end Go.Proofs.YtbcjhpgkodeoeaaGreatDoor

/- The stages of a step, and exact solutions, as series. Plain: no program's step stands here. -/
namespace Go.Proofs.YtbcjhpgkodeoeaaGreatDoor
open Go.RowKit Go.Sort

theorem se_nil : se [] = ze := by funext k; rfl
theorem se_later {x : List Int} : Sm x.length (se (laterJ x)) (sh (se x)) := fun k hk => by
  show resZ (atZ (laterJ x) k) = _
  rw [laterJ_at hk]
  unfold sh se
  split <;> rfl
/-- the stages' values as vectors of series -/
def vse (v : List (List Int)) : Vec := fun i => se (atL v i)
theorem vse_out {v : List (List Int)} {i : Nat} (h : v.length ≤ i) : vse v i = ze := by
  unfold vse atL
  rw [List.getElem?_eq_none h]
  exact se_nil
theorem stg_zero {z : Vec} {c : Nat → Int} {F : Nat → Vec} {i : Nat} (hz : z i = ze) (hF : ∀ s, F s i = ze) : ∀ n, stg z c F n i = ze
  | 0 => hz
  | n + 1 => by
    show ad (stg z c F n i) (sc (c n) (sh (F n i))) = ze
    rw [stg_zero hz hF n, hF n]
    funext k
    simp [ad, sc, sh, ze]
theorem se_atRow {ys : List (List Int)} {vals : List (List (List Int))} {row : List Int} {i N : Nat} (hN : (atL ys i).length = N) : ∀ st, (∀ s, s < st → (atL (atLL vals s) i).length = N) →
    Sm N (se (atRow ys vals row i st)) (stg (vse ys) (atZ row) (fun s => vse (atLL vals s)) st i)
  | 0, _ => Sm.refl _
  | st + 1, h => by
    have h1 := se_add (atRow ys vals row i st) (laterJ (atL (atLL vals st) i)) (atZ row st)
    rw [atRow_len, hN] at h1
    have h2 := se_later (x := atL (atLL vals st) i)
    rw [h st (by omega)] at h2
    exact h1.trans ((se_atRow hN st (fun s hs => h s (by omega))).ad (Sm.sc _ h2))
theorem vse_atAll {ys : List (List Int)} {vals : List (List (List Int))} {row : List Int} {N n st : Nat} (hn : ys.length = n) (hN : ∀ i, i < n → (atL ys i).length = N) (hv : ∀ s i, s < st → i < n → (atL (atLL vals s) i).length = N) (ho : ∀ s, (atLL vals s).length ≤ n) :
    VSm N (vse (atAll ys vals row st)) (stg (vse ys) (atZ row) (fun s => vse (atLL vals s)) st) := fun i => by
  by_cases hi : i < n
  · show Sm N (se (atL (atAll ys vals row st) i)) _
    rw [atAll_at (by omega)]
    exact se_atRow (hN i hi) st (fun s hs => hv s i hs hi)
  · rw [vse_out (by rw [atAll_len]; omega), stg_zero (vse_out (by omega)) (fun s => vse_out (by have := ho s; omega))]
    exact Sm.refl _
/-- What the stages are after all rounds. -/
theorem stages {parts : List (List MonZ)} {ys : List (List Int)} {rows : Nat → List Int} {st n N : Nat} {start : List (List (List Int))} (hy : ys.length = n) (hp : parts.length = n) (hn : 0 < n) (hN0 : 0 < N) (hs : ∀ i, i < n → (atL ys i).length = N) (h0 : Cube st n N start)
    (hm : ∀ p ∈ parts, ∀ m ∈ p, m.pows.length ≤ n) :
    ∃ (F Z : Nat → Vec), (∀ s, s < st → VSm N (Z s) (stg (vse ys) (atZ (rows s)) F st)) ∧
      (∀ s i p, s < st → parts[i]? = some p → Sm N (F s i) (pv (Z s) p)) ∧ (∀ s i, n ≤ i → Z s i = ze) ∧
      ∀ row, VSm N (vse (atAll ys (roundsZ parts ys rows st start N) row st)) (stg (vse ys) (atZ row) F st) := by
  obtain ⟨V, hV⟩ : ∃ V, V = roundsZ parts ys rows st start N := ⟨_, rfl⟩
  have hc : Cube st n N V := hV ▸ roundsZ_cube hy hp hn hs h0 N
  have hshift : ∀ r, roundsZ parts ys rows st (roundZ parts ys rows st start) r = roundsZ parts ys rows st start (r + 1) := fun r => by
    induction r with
    | zero => rfl
    | succ r ih => rw [roundsZ, ih]; rfl
  have hfix : ∀ s i, s < st → i < n → atL (atLL V s) i = atL (atLL (roundZ parts ys rows st V) s) i := fun s i h1 h2 => by
    have h := rounds_agree (rows := rows) hy hp hn hs h0 (roundZ_cube (vals := start) (rows := rows) (st := st) hy hp hn hs) hm N (Nat.le_refl _) s i h1 h2
    rw [hshift N, roundsZ, ← hV] at h
    exact h.eq (hc.2 s i h1 h2) ((roundZ_cube hy hp hn hs).2 s i h1 h2)
  have hlen : ∀ s, (atLL V s).length ≤ n := fun s => by
    by_cases h : s < st
    · obtain ⟨M, rfl⟩ : ∃ M, N = M + 1 := ⟨N - 1, by omega⟩
      rw [hV, roundsZ, roundZ_at h, fldJ_len, hp]
      exact Nat.le_refl _
    · unfold atLL
      rw [List.getElem?_eq_none (by have := hc.1; omega)]
      exact Nat.zero_le _
  refine ⟨fun s => vse (atLL V s), fun s => vse (atAll ys V (rows s) st), fun s h => ?_, fun s i p h1 h2 => ?_, fun s i h => vse_out (by rw [atAll_len]; omega), fun row => ?_⟩
  · exact vse_atAll hy hs hc.2 hlen
  · have hi : i < n := by have := (List.getElem?_eq_some_iff.1 h2).1; omega
    have h3 : (fun s => vse (atLL V s)) s i = se (dervL p (atAll ys V (rows s) st) []) := by
      show se (atL (atLL V s) i) = _
      rw [hfix s i h1 hi, roundZ_at h1, fldJ_at h2]
    rw [h3]
    have hh : hdL (atAll ys V (rows s) st) = N := by rw [hdL_at, atAll_at (by omega), atRow_len, hs 0 hn]
    have h4 := dervL_pv (p := p) (y := atAll ys V (rows s) st) (by omega)
    rw [hh] at h4
    exact h4
  · rw [← hV]
    exact vse_atAll hy hs hc.2 hlen
end Go.Proofs.YtbcjhpgkodeoeaaGreatDoor

/- Exact solutions as series: their derivative is the field's value. Plain: no program's step stands here. -/
namespace Go.Proofs.YtbcjhpgkodeoeaaGreatDoor
open Go.RowKit Go.Sort

theorem frac_back (a : Int) {k : Nat} (h1 : 1 ≤ k) (h2 : k ≤ 1000000270) : resZ ((k : Int) * fracZ a (k : Int)) = resZ a := by
  have hu := inv_one (a := (k : Int)) (by omega)
  have e : resZ ((k : Int) * powZ (k : Int) 1000000269) = 1 := hu
  have h3 : resZ ((k : Int) * fracZ a (k : Int)) = resZ (a * ((k : Int) * powZ (k : Int) 1000000269)) := by
    simp only [fracZ, timesZ, resZ]
    rw [modr]
    congr 1
    grind
  rw [h3, res_mul (b := 1) (by rw [e]; rfl), Int.mul_one]
theorem powZ_one (k : Nat) : powZ 1 (k : Int) = 1 := by
  unfold powZ
  rw [if_neg (by omega), Int.toNat_natCast, Int.one_pow]
  rfl
/-- the points of an exact path, as columns -/
theorem exSt_at {parts : List (List MonZ)} {y : List Int} {order k i : Nat} (hk : k ≤ order) (hi : i < y.length) (hy : Nums y) : atZ (atL (exSt parts y order 1) k) i = atZ (atL (exS parts y order) k) i := by
  have e1 : atL (exSt parts y order 1) k = (List.range y.length).map fun i => timesZ (atZ (atL (exS parts y order) k) i) (powZ 1 (k : Int)) := by simp [exSt, atL, show k < order + 1 by omega]
  rw [e1, powZ_one]
  have hn : Nums (atL (exS parts y order) k) := exS_nums hy order _ (by unfold atL; rw [List.getElem?_eq_getElem (by rw [exS_len]; omega)]; exact List.getElem_mem _)
  have hb := numsZ_at hn i
  simp only [atZ, List.getElem?_map, List.getElem?_range hi, Option.map_some, Option.getD_some]
  unfold timesZ
  have hb' : 0 ≤ ((atL (exS parts y order) k)[i]?.getD 0) ∧ ((atL (exS parts y order) k)[i]?.getD 0) ≤ 1000000270 := hb
  omega
theorem exSt_len (parts : List (List MonZ)) (y : List Int) (order : Nat) (t : Int) : (exSt parts y order t).length = order + 1 := by simp [exSt]
theorem exact_ser {parts : List (List MonZ)} {y : List Int} {order : Nat} (hy : Nums y) (hn : 0 < y.length) (hp : parts.length = y.length) (ho : order ≤ 1000)
    {i : Nat} {p : List MonZ} (hi : parts[i]? = some p) (hm : ∀ m ∈ p, m.pows.length = y.length) : Sm order (dt (vse (turnZ (exSt parts y order 1) y.length) i)) (pv (vse (turnZ (exSt parts y order 1) y.length)) p) := by
  have hin : i < y.length := by have := (List.getElem?_eq_some_iff.1 hi).1; omega
  have hcol : ∀ j k, j < y.length → k ≤ order → vse (turnZ (exSt parts y order 1) y.length) j k = atZ (atL (exS parts y order) k) j := fun j k hj hk => by
    show atZ (atL (turnZ _ _) j) k = _
    rw [turn_at hj, col_at (by rw [exSt_len]; omega), exSt_at hk hj hy]
  intro k hk
  show resZ (((k : Int) + 1) * vse _ i (k + 1)) = _
  rw [hcol i (k + 1) hin (by omega)]
  have hS : atZ (atL (exS parts y order) (k + 1)) i = fracZ (atZ (atL (fldJ parts (turnZ (exS parts y k) y.length)) i) k) ((k : Int) + 1) := by
    rw [exS_pre parts y (j := k + 1) (n := order) (by omega) (k + 1) (Nat.le_refl _), exS, atL, List.getElem?_append_right (by rw [exS_len]; omega), exS_len, Nat.sub_self]
    simp [atZ, hin]
  have h1 := frac_back (atZ (atL (fldJ parts (turnZ (exS parts y k) y.length)) i) k) (k := k + 1) (by omega) (by omega)
  rw [show (((k + 1 : Nat) : Int)) = (k : Int) + 1 by omega] at h1
  rw [hS, h1, fldJ_at hi]
  have hh : hdL (turnZ (exS parts y k) y.length) = k + 1 := by rw [hdL_at, turn_at hn, colZ_len, exS_len]
  have h2 := dervL_pv (p := p) (y := turnZ (exS parts y k) y.length) (by omega)
  rw [hh] at h2
  have h3 := h2 k (by omega)
  have h4 : Sm (k + 1) (pv (fun i => se (atL (turnZ (exS parts y k) y.length) i)) p) (pv (vse (turnZ (exSt parts y order 1) y.length)) p) := by
    refine VSm.pv (fun j => ?_) p
    by_cases hj : j < y.length
    · intro q hq
      rw [hcol j q hj (by omega)]
      show resZ (atZ (atL (turnZ _ _) j) q) = _
      rw [turn_at hj, col_at (by rw [exS_len]; omega), exS_pre parts y (j := k) (n := order) (by omega) q (by omega)]
    · rw [vse_out (by rw [turnZ_len]; omega)]
      refine Sm.of_eq ?_
      show se (atL _ j) = _
      unfold atL
      rw [List.getElem?_eq_none (by rw [turnZ_len]; omega)]
      exact se_nil
  exact h3.trans (h4 k (by omega))
end Go.Proofs.YtbcjhpgkodeoeaaGreatDoor

/- Symplectic steps of the tangents of a polynomial's field keep the form, and so do exact ones; in series. Plain: no program's step stands here. -/
namespace Go.Proofs.YtbcjhpgkodeoeaaGreatDoor
open Go.RowKit Go.Sort

theorem stg_sm {N : Nat} {z w : Vec} {c : Nat → Int} {F G : Nat → Vec} {i : Nat} (hz : Sm (N + 1) (z i) (w i)) : ∀ n, (∀ s, s < n → Sm N (F s i) (G s i)) → Sm (N + 1) (stg z c F n i) (stg w c G n i)
  | 0, _ => hz
  | n + 1, h => (stg_sm hz n (fun s hs => h s (by omega))).ad (Sm.sc _ (h n (by omega)).sh)
/-- Stages whose fields look at the first coordinates alone agree there. -/
theorem base_agree {N st n : Nat} {z w : Vec} {a : Nat → Nat → Int} {F G Z W : Nat → Vec} {P : Nat → List MonZ} (hz : ∀ i, i < n → Sm N (z i) (w i)) (hZ : ∀ s, s < st → VSm N (Z s) (stg z (a s) F st)) (hW : ∀ s, s < st → VSm N (W s) (stg w (a s) G st))
    (hP : ∀ i, i < n → ∀ m ∈ P i, m.pows.length = n) (hF : ∀ s i, s < st → i < n → Sm N (F s i) (pv (Z s) (P i))) (hG : ∀ s i, s < st → i < n → Sm N (G s i) (pv (W s) (P i))) :
    ∀ k, k ≤ N → ∀ s i, s < st → i < n → Sm k (Z s i) (W s i)
  | 0, _ => fun s i _ _ k hk => absurd hk (by omega)
  | k + 1, hk => fun s i hs hi => by
    have ih := base_agree hz hZ hW hP hF hG k (by omega)
    refine ((hZ s hs i).le hk).trans ((stg_sm ((hz i hi).le hk) st (fun r hr => ?_)).trans ((hW s hs i).le hk).symm)
    exact ((hF r i hr hi).le (by omega)).trans ((pv_congr (fun j hj => ih r j hr hj) (P i) (hP i hi)).trans ((hG r i hr hi).le (by omega)).symm)
/-- Solutions likewise. -/
theorem flow_agree {N n : Nat} {x y : Vec} {P : Nat → List MonZ} (h0 : ∀ i, i < n → resZ (x i 0) = resZ (y i 0)) (hN : N ≤ 1000000270) (hP : ∀ i, i < n → ∀ m ∈ P i, m.pows.length = n) (hx : ∀ i, i < n → Sm N (dt (x i)) (pv x (P i))) (hy : ∀ i, i < n → Sm N (dt (y i)) (pv y (P i))) :
    ∀ k, k ≤ N → ∀ i, i < n → Sm (k + 1) (x i) (y i)
  | 0, _ => fun i hi k hk => by
    obtain rfl : k = 0 := by omega
    exact h0 i hi
  | k + 1, hk => fun i hi q hq => by
    have ih := flow_agree h0 hN hP hx hy k (by omega)
    by_cases hqk : q < k + 1
    · exact ih i hi q hqk
    · obtain rfl : q = k + 1 := by omega
      have h1 := (hx i hi k (by omega)).trans ((pv_congr (fun j hj => (ih j hj)) (P i) (hP i hi) k (by omega)).trans (hy i hi k (by omega)).symm)
      have h2 : resZ (((k : Int) + 1) * x i (k + 1)) = resZ (((k : Int) + 1) * y i (k + 1)) := h1
      have h3 := res_unit (k := k + 1) (v := x i (k + 1) - y i (k + 1)) (by omega) (by omega) (by
        rw [show (((k + 1 : Nat) : Int)) = (k : Int) + 1 by omega, Int.mul_sub]
        unfold resZ at h2 ⊢
        omega)
      unfold resZ at h3 ⊢
      omega
/-- the form of the tangents -/
def Lf : Frm := [(1, 2, 3), (-1, 3, 2)]
theorem bil_Lf (x y : Vec) (k : Nat) : bil Lf x y k = cv (x 2) (y 3) k - cv (x 3) (y 2) k := by
  show (1 * cv (x 2) (y 3) k + (-1 * cv (x 3) (y 2) k + 0)) = _
  omega
theorem ssum2 (f : Nat → Ser) : ssum f 2 = ad (f 0) (f 1) := by
  funext k
  show (0 + f 0 k) + f 1 k = f 0 k + f 1 k
  omega
/-- The form does not change along the field of a polynomial. -/
theorem tan_form {N : Nat} {h : List MonZ} {F Z G W : Vec} (hl : ∀ m ∈ h, m.pows.length = 2) (hb : ∀ i, i < 2 → Sm N (Z i) (W i))
    (hF0 : Sm N (F 2) (ssum (fun i => cv (pv Z (partL i 1 (partL 1 1 h))) (Z (2 + i))) 2)) (hF1 : Sm N (F 3) (ssum (fun i => cv (pv Z (partL i 1 (partL 0 (-1) h))) (Z (2 + i))) 2))
    (hG0 : Sm N (G 2) (ssum (fun i => cv (pv W (partL i 1 (partL 1 1 h))) (W (2 + i))) 2)) (hG1 : Sm N (G 3) (ssum (fun i => cv (pv W (partL i 1 (partL 0 (-1) h))) (W (2 + i))) 2)) :
    Sm N (ad (bil Lf F W) (bil Lf Z G)) ze := by
  have hlen : ∀ (v : Nat) (s : Int) (p : List MonZ), (∀ m ∈ p, m.pows.length = 2) → ∀ m ∈ partL v s p, m.pows.length = 2 := fun v s p hp m hm => by
    obtain ⟨m0, hm0, he⟩ := List.mem_filterMap.1 hm
    unfold partM at he
    split at he
    · injection he with he
      rw [← he, List.length_set]
      exact hp m0 hm0
    · cases he
  obtain ⟨a, ha⟩ : ∃ a, a = pv Z (partL 0 1 (partL 1 1 h)) := ⟨_, rfl⟩
  obtain ⟨b, hb'⟩ : ∃ b, b = pv Z (partL 1 1 (partL 1 1 h)) := ⟨_, rfl⟩
  obtain ⟨c, hc⟩ : ∃ c, c = pv Z (partL 0 1 (partL 0 (-1) h)) := ⟨_, rfl⟩
  obtain ⟨d, hd⟩ : ∃ d, d = pv Z (partL 1 1 (partL 0 (-1) h)) := ⟨_, rfl⟩
  have had : Sm N (ad a d) ze := by rw [ha, hd]; exact part_mixed Z N h (fun m hm => by rw [hl m hm]; exact Nat.le_refl _)
  have e1 := pv_congr (N := N) hb (partL 0 1 (partL 1 1 h)) (hlen _ _ _ (hlen _ _ _ hl))
  have e2 := pv_congr (N := N) hb (partL 1 1 (partL 1 1 h)) (hlen _ _ _ (hlen _ _ _ hl))
  have e3 := pv_congr (N := N) hb (partL 0 1 (partL 0 (-1) h)) (hlen _ _ _ (hlen _ _ _ hl))
  have e4 := pv_congr (N := N) hb (partL 1 1 (partL 0 (-1) h)) (hlen _ _ _ (hlen _ _ _ hl))
  rw [ssum2] at hF0 hF1 hG0 hG1
  rw [← ha] at hF0 e1
  rw [← hb'] at hF0 e2
  rw [← hc] at hF1 e3
  rw [← hd] at hF1 e4
  have g0 : Sm N (G 2) (ad (cv a (W 2)) (cv b (W 3))) := hG0.trans ((e1.symm.cv (Sm.refl _)).ad (e2.symm.cv (Sm.refl _)))
  have g1 : Sm N (G 3) (ad (cv c (W 2)) (cv d (W 3))) := hG1.trans ((e3.symm.cv (Sm.refl _)).ad (e4.symm.cv (Sm.refl _)))
  intro k hk
  have t1 := (hF0.cv (Sm.refl (W 3))) k hk
  have t2 := (hF1.cv (Sm.refl (W 2))) k hk
  have t3 := ((Sm.refl (Z 2)).cv g1) k hk
  have t4 := ((Sm.refl (Z 3)).cv g0) k hk
  have hs : ∀ p q r : Ser, cv p (cv q r) = cv (cv q p) r := fun p q r => by rw [← cv_assoc, cv_comm p q]
  rw [ad_cv] at t1 t2
  rw [cv_ad, hs, hs] at t3 t4
  have t5 := (had.cv (Sm.refl (Z 2))).cv (Sm.refl (W 3)) k hk
  have t6 := (had.cv (Sm.refl (Z 3))).cv (Sm.refl (W 2)) k hk
  rw [ad_cv, ad_cv, cv_ze, cv_ze] at t5 t6
  show resZ (bil Lf F W k + bil Lf Z G k) = resZ 0
  rw [bil_Lf, bil_Lf]
  unfold ad at t1 t2 t3 t4 t5 t6
  unfold ze at t5 t6
  simp only [Nat.add_zero] at t1 t2
  unfold resZ at t1 t2 t3 t4 t5 t6 ⊢
  have u1 : (2 + 1 : Nat) = 3 := rfl
  rw [u1] at t1 t2
  omega
end Go.Proofs.YtbcjhpgkodeoeaaGreatDoor
