/- The texts InvP, InvQ, InvR, InvS, InvT, LawHl4, InvU in one: each says at its head what it proves. Conditions: as said there. -/
import Derived.Test.YtbcjhpgkodeoeaaGreatDoorN38
import Derived.Test.YtbcjhpgkodeoeaaGreatDoorN37
import Derived.Test.YtbcjhpgkodeoeaaGreatDoorN29
import Derived.Test.YtbcjhpgkodeoeaaGreatDoorN41
import Derived.Test.YtbcjhpgkodeoeaaGreatDoorN15
import Derived.Test.YtbcjhpgkodeoeaaGreatDoorN10
import Derived.Test.YtbcjhpgkodeoeaaGreatDoorN44
import Derived.Test.YtbcjhpgkodeoeaaGreatDoorN26
set_option linter.unusedSimpArgs false
set_option linter.unusedVariables false
/- What a field keeps is constant along its exact flow: chain rule for polynomials at series. Plain: no program's step stands here. -/
namespace Go.Proofs.YtbcjhpgkodeoeaaGreatDoor
open Go.RowKit Go.Sort

theorem ssum_cv (f : Nat → Ser) (c : Ser) : ∀ n, cv (ssum f n) c = ssum (fun i => cv (f i) c) n
  | 0 => cv_ze c
  | n + 1 => by rw [ssum, ad_cv, ssum_cv f c n, ssum]
theorem ssum_congr {f g : Nat → Ser} : ∀ {n : Nat}, (∀ i, i < n → f i = g i) → ssum f n = ssum g n
  | 0, _ => rfl
  | n + 1, h => by rw [ssum, ssum, ssum_congr (fun i hi => h i (by omega)), h n (by omega)]
theorem ssum_sm {N : Nat} {f g : Nat → Ser} : ∀ {n : Nat}, (∀ i, i < n → Sm N (f i) (g i)) → Sm N (ssum f n) (ssum g n)
  | 0, _ => Sm.refl _
  | n + 1, h => (ssum_sm (fun i hi => h i (by omega))).ad (h n (by omega))
theorem ssum_sc (c : Int) (f : Nat → Ser) : ∀ n, sc c (ssum f n) = ssum (fun i => sc c (f i)) n
  | 0 => by funext k; simp [ssum, sc, ze]
  | n + 1 => by
    rw [ssum, ssum, ← ssum_sc c f n]
    funext k
    simp only [sc, ad, Int.mul_add]
theorem ssum_ad (f g : Nat → Ser) : ∀ n, ad (ssum f n) (ssum g n) = ssum (fun i => ad (f i) (g i)) n
  | 0 => by funext k; simp [ssum, ad, ze]
  | n + 1 => by
    rw [ssum, ssum, ssum, ← ssum_ad f g n]
    funext k
    simp only [ad]
    omega
theorem sc_zero (a : Ser) : sc 0 a = ze := by funext k; simp [sc, ze]
theorem ze_ad (a : Ser) : ad ze a = a := by funext k; simp [ad, ze]
theorem sc_sc (c d : Int) (a : Ser) : sc c (sc d a) = sc (c * d) a := by funext k; simp [sc, Int.mul_assoc]
theorem ad_sc (c d : Int) (a : Ser) : ad (sc c a) (sc d a) = sc (c + d) a := by funext k; simp only [ad, sc, Int.add_mul]
theorem dt_pwN (y : Ser) : ∀ n : Nat, dt (pwN y n) = sc (n : Int) (cv (pwN y (n - 1)) (dt y))
  | 0 => by rw [pwN, dt_on, show ((0 : Nat) : Int) = 0 from rfl, sc_zero]
  | n + 1 => by
    rw [pwN, dt_cv, dt_pwN y n, sc_cv, cv_swap]
    have h : sc (n : Int) (cv (cv (pwN y (n - 1)) y) (dt y)) = sc (n : Int) (cv (pwN y n) (dt y)) := by
      cases n with
      | zero => rw [show ((0 : Nat) : Int) = 0 from rfl, sc_zero, sc_zero]
      | succ n => rfl
    rw [h, Nat.add_sub_cancel]
    have h1 : cv (pwN y n) (dt y) = sc 1 (cv (pwN y n) (dt y)) := (sc_one _).symm
    conv => lhs; rhs; rw [h1]
    rw [ad_sc]
    rfl
theorem atZ_dec (ps : List Int) (i j : Nat) (h : i ≠ j) (c : Int) : atZ (ps.set i c) j = atZ ps j := by
  unfold atZ
  rw [List.getElem?_set_ne h]
theorem dt_pwV (Y : Vec) {ps : List Int} (h0 : ∀ i, 0 ≤ atZ ps i) : ∀ v, v ≤ ps.length → dt (pwV Y ps v) = ssum (fun i => cv (sc (atZ ps i) (pwV Y (ps.set i (atZ ps i - 1)) v)) (dt (Y i))) v
  | 0, _ => by rw [pwV, dt_on]; rfl
  | v + 1, hv => by
    rw [pwV, dt_cv, dt_pwV Y h0 v (by omega), ssum_cv, ssum]
    refine congr (congrArg ad (ssum_congr fun i hi => ?_)) ?_
    · rw [cv_swap, sc_cv, pwV, atZ_dec ps i v (by omega)]
    · rw [dt_pwN]
      have hvl : v < ps.length := by omega
      have h1 : atZ (ps.set v (atZ ps v - 1)) v = atZ ps v - 1 := by unfold atZ; rw [List.getElem?_set_self hvl]; rfl
      have h2 : pwV Y (ps.set v (atZ ps v - 1)) v = pwV Y ps v := pwV_congr v (fun i hi => atZ_dec ps v i (by omega) _)
      have h3 : (atZ ps v - 1).toNat = (atZ ps v).toNat - 1 := by omega
      have h4 : (((atZ ps v).toNat : Nat) : Int) = atZ ps v := Int.toNat_of_nonneg (h0 v)
      rw [pwV, h1, h2, h3, h4, cv_sc, sc_cv, cv_assoc]
theorem pv_partM (Y : Vec) (N i : Nat) (m : MonZ) (h0 : 0 ≤ atZ m.pows i) (hi : i < m.pows.length) : Sm N (pv Y (partM i 1 m).toList) (sc (m.coef * atZ m.pows i) (pwV Y (m.pows.set i (atZ m.pows i - 1)) m.pows.length)) := by
  intro k _
  unfold partM
  split
  · rw [Option.toList_some, pv_cons, pv_nil]
    show resZ (timesZ m.coef (1 * atZ m.pows i) * pwV Y _ (m.pows.set i (atZ m.pows i - 1)).length k + 0) = resZ (m.coef * atZ m.pows i * _)
    rw [Int.add_zero, List.length_set]
    refine res_mul2 ?_ rfl
    simp only [timesZ, resZ, modl]
    rw [Int.one_mul, Int.emod_emod_of_dvd _ (Int.dvd_refl _)]
  · have e : atZ m.pows i = 0 := by omega
    rw [e, Int.mul_zero, sc_zero]
    rfl
/-- The chain rule. -/
theorem dt_pv (Y : Vec) (N n : Nat) : ∀ h : List MonZ, (∀ m ∈ h, m.pows.length = n ∧ ∀ i, 0 ≤ atZ m.pows i) → Sm N (dt (pv Y h)) (ssum (fun i => cv (pv Y (partL i 1 h)) (dt (Y i))) n)
  | [], _ => by
    have h1 : dt (pv Y []) = ze := by rw [pv_nil]; funext k; simp [dt, ze]
    rw [h1]
    have h2 : ssum (fun i => cv (pv Y (partL i 1 [])) (dt (Y i))) n = ssum (fun _ => ze) n := ssum_congr fun i _ => cv_ze _
    rw [h2]
    have h3 : ∀ n, ssum (fun _ => ze) n = ze := fun n => by
      induction n with
      | zero => rfl
      | succ n ih => rw [ssum, ih, ze_ad]
    rw [h3]
    exact Sm.refl _
  | m :: h, hm => by
    have ih := dt_pv Y N n h (fun x hx => hm x (by simp [hx]))
    obtain ⟨hl, h0⟩ := hm m (by simp)
    rw [pv_cons, dt_ad]
    have h1 : dt (mv Y m) = ssum (fun i => cv (sc (m.coef * atZ m.pows i) (pwV Y (m.pows.set i (atZ m.pows i - 1)) m.pows.length)) (dt (Y i))) n := by
      unfold mv
      rw [dt_sc, dt_pwV Y h0 _ (Nat.le_refl _), ssum_sc, hl]
      refine ssum_congr fun i _ => ?_
      rw [sc_cv, sc_cv, sc_sc]
    have h2 : Sm N (dt (mv Y m)) (ssum (fun i => cv (pv Y (partM i 1 m).toList) (dt (Y i))) n) := by
      rw [h1]
      exact ssum_sm fun i hi => ((pv_partM Y N i m (h0 i) (by omega)).symm).cv (Sm.refl _)
    refine (h2.ad ih).trans (Sm.of_eq ?_)
    rw [ssum_ad]
    refine ssum_congr fun i _ => ?_
    rw [partL_cons, pv_append, ad_cv]
end Go.Proofs.YtbcjhpgkodeoeaaGreatDoor

/- What a field keeps does not change along its exact flow. Plain: no program's step stands here. -/
namespace Go.Proofs.YtbcjhpgkodeoeaaGreatDoor
open Go.RowKit Go.Sort

theorem pwN_add (y : Ser) (a : Nat) : ∀ b, pwN y (a + b) = cv (pwN y a) (pwN y b)
  | 0 => by rw [Nat.add_zero, pwN, cv_on1]
  | b + 1 => by rw [← Nat.add_assoc, pwN, pwN_add y a b, pwN, cv_assoc]
theorem cv_4 (a b c d : Ser) : cv (cv a b) (cv c d) = cv (cv a c) (cv b d) := by
  rw [cv_assoc, ← cv_assoc b c d, cv_comm b c, cv_assoc c b d, ← cv_assoc]
theorem atZ_zip (a b : List Int) (hl : a.length = b.length) (i : Nat) : atZ (powsAdd a b) i = atZ a i + atZ b i := by
  unfold atZ powsAdd
  rw [List.getElem?_zipWith]
  by_cases h : i < a.length
  · rw [List.getElem?_eq_getElem h, List.getElem?_eq_getElem (show i < b.length by omega)]
    rfl
  · rw [List.getElem?_eq_none (l := a) (by omega), List.getElem?_eq_none (l := b) (by omega)]
    rfl
theorem pwV_mul (Y : Vec) {a b : List Int} (hl : a.length = b.length) (ha : ∀ i, 0 ≤ atZ a i) (hb : ∀ i, 0 ≤ atZ b i) : ∀ v, pwV Y (powsAdd a b) v = cv (pwV Y a v) (pwV Y b v)
  | 0 => by rw [pwV, pwV, pwV, cv_on1]
  | v + 1 => by
    rw [pwV, pwV, pwV, pwV_mul Y hl ha hb v, atZ_zip a b hl, cv_4]
    have := ha v
    have := hb v
    rw [show (atZ a v + atZ b v).toNat = (atZ a v).toNat + (atZ b v).toNat by omega, pwN_add]
theorem mv_mulM (Y : Vec) (N : Nat) {a b : MonZ} (hl : a.pows.length = b.pows.length) (ha : ∀ i, 0 ≤ atZ a.pows i) (hb : ∀ i, 0 ≤ atZ b.pows i) : Sm N (mv Y (mulM a b)) (cv (mv Y a) (mv Y b)) := by
  have hz : (powsAdd a.pows b.pows).length = a.pows.length := by simp [powsAdd, hl]
  unfold mv mulM
  simp only
  rw [hz, pwV_mul Y hl ha hb, sc_cv, cv_sc, hl, sc_sc]
  intro k _
  show resZ (timesZ a.coef b.coef * _) = resZ (a.coef * b.coef * _)
  refine res_mul2 ?_ rfl
  simp only [timesZ, resZ, modl]
  rw [Int.emod_emod_of_dvd _ (Int.dvd_refl _)]
/-- Powers as a polynomial of n variables has them. -/
def PolyN (n : Nat) (p : List MonZ) : Prop := ∀ m ∈ p, m.pows.length = n ∧ ∀ i, 0 ≤ atZ m.pows i
theorem pv_mulRow (Y : Vec) (N n : Nat) {a : MonZ} (ha : a.pows.length = n ∧ ∀ i, 0 ≤ atZ a.pows i) : ∀ q : List MonZ, PolyN n q → Sm N (pv Y (mulRowM a q)) (cv (mv Y a) (pv Y q))
  | [], _ => by
    rw [show mulRowM a [] = [] from rfl, pv_nil, cv_comm, cv_ze]
    exact Sm.refl _
  | b :: q, h => by
    have hb := h b (by simp)
    rw [show mulRowM a (b :: q) = mulM a b :: mulRowM a q from rfl, pv_cons, pv_cons, cv_ad]
    exact (mv_mulM Y N (by rw [ha.1, hb.1]) ha.2 hb.2).ad (pv_mulRow Y N n ha q (fun x hx => h x (by simp [hx])))
theorem pv_mulL (Y : Vec) (N n : Nat) {q : List MonZ} (hq : PolyN n q) : ∀ p : List MonZ, PolyN n p → Sm N (pv Y (mulL p q)) (cv (pv Y p) (pv Y q))
  | [], _ => by
    rw [show mulL [] q = [] from rfl, pv_nil, cv_ze]
    exact Sm.refl _
  | a :: p, h => by
    rw [show mulL (a :: p) q = mulRowM a q ++ mulL p q from by simp [mulL], pv_append, pv_cons, ad_cv]
    exact (pv_mulRow Y N n (h a (by simp)) q hq).ad (pv_mulL Y N n hq p (fun x hx => h x (by simp [hx])))
theorem polyN_part {n v : Nat} {h : List MonZ} (hh : PolyN n h) : PolyN n (partL v 1 h) := by
  intro m hm
  obtain ⟨m0, hm0, he⟩ := List.mem_filterMap.1 hm
  obtain ⟨h1, h2⟩ := hh m0 hm0
  unfold partM at he
  split at he
  · rename_i hpos
    simp only [Option.some.injEq] at he
    subst he
    refine ⟨by simp [h1], fun i => ?_⟩
    show 0 ≤ atZ (m0.pows.set v _) i
    by_cases hi : v = i
    · subst hi
      by_cases hl : v < m0.pows.length
      · unfold atZ at hpos ⊢
        rw [List.getElem?_set_self hl]
        simp only [Option.getD_some]
        omega
      · unfold atZ
        rw [List.getElem?_eq_none (by simp; omega)]
        exact Int.le_refl _
    · rw [atZ_dec _ _ _ hi]
      exact h2 i
  · cases he
theorem pv_allL (Y : Vec) (N n : Nat) {parts : List (List MonZ)} {h : List MonZ} (hh : PolyN n h) (hp : ∀ p ∈ parts, PolyN n p) : ∀ k, k ≤ parts.length → Sm N (pv Y (allL parts h k)) (ssum (fun i => cv (pv Y (partL i 1 h)) (pv Y (parts[i]?.getD []))) k)
  | 0, _ => by
    rw [show allL parts h 0 = [] from rfl, pv_nil]
    exact Sm.refl _
  | k + 1, hk => by
    have hk' : parts[k]? = some (parts[k]'(by omega)) := List.getElem?_eq_getElem (by omega)
    rw [allL_next hk', pv_append, ssum]
    refine (pv_allL Y N n hh hp k (by omega)).ad ?_
    rw [hk']
    exact pv_mulL Y N n (hp _ (List.getElem_mem _)) _ (polyN_part hh)
theorem fine_polyN {n : Nat} {p : List MonZ} (h : ∀ m ∈ p, MonFine n m) : PolyN n p := fun m hm => by
  obtain ⟨_, h2, _, h4⟩ := h m hm
  refine ⟨h2, fun i => ?_⟩
  unfold atZ
  by_cases hi : i < m.pows.length
  · rw [List.getElem?_eq_getElem hi]
    exact (h4 _ (List.getElem_mem _)).1
  · rw [List.getElem?_eq_none (by omega)]
    exact Int.le_refl _
/-- What a field keeps is constant along what flows with it. -/
theorem keeps_flow {f : FldZ} {h : List MonZ} {n N : Nat} {X : Vec} (hk : keepsB f h = true) (hd : f.dim = n) (hX : ∀ i p, f.parts[i]? = some p → Sm N (dt (X i)) (pv X p)) : Sm N (dt (pv X h)) ze := by
  simp only [keepsB, Bool.and_eq_true, decide_eq_true_eq] at hk
  obtain ⟨⟨hf, hh⟩, h0⟩ := hk
  obtain ⟨n', hd', hpl, hn1, hn6, hp⟩ := fldOk_parts hf
  obtain rfl : n = n' := by omega
  rw [hd] at hh
  obtain ⟨_, _, hh12, hfine⟩ := polyOk_facts hh
  have hPh : PolyN n h := fine_polyN (by first | exact hfine | (intro m hm; exact hfine m hm))
  have hPp : ∀ p ∈ f.parts, PolyN n p := fun p hp' => fine_polyN (hp p hp').2
  have h1 := dt_pv X N n h hPh
  have h2 : Sm N (ssum (fun i => cv (pv X (partL i 1 h)) (dt (X i))) n) (ssum (fun i => cv (pv X (partL i 1 h)) (pv X (f.parts[i]?.getD []))) n) := ssum_sm fun i hi => by
    have hk' : f.parts[i]? = some (f.parts[i]'(by omega)) := List.getElem?_eq_getElem (by omega)
    refine (Sm.refl _).cv ?_
    have := hX i _ hk'
    rw [hk']
    exact this
  have h3 := (pv_allL X N n hPh hPp f.parts.length (Nat.le_refl _)).symm
  have h4 := (pv_putAll X (allL_nums f.parts h f.parts.length) N).symm
  rw [List.eq_nil_of_length_eq_zero h0, pv_nil] at h4
  rw [hpl] at h3 h4
  exact ((h1.trans h2).trans h3).trans h4
end Go.Proofs.YtbcjhpgkodeoeaaGreatDoor

/- The program's polynomial along the program's exact path, if the field keeps it: all coefficients behind the first are zero. Plain: no program's step stands here. -/
namespace Go.Proofs.YtbcjhpgkodeoeaaGreatDoor
open Go.RowKit Go.Sort

theorem keeps_along {f : FldZ} {h : List MonZ} {y : List Int} {M j : Nat} {x : Int} (hk : keepsB f h = true) (hy : (y.length : Int) = f.dim) (hn : Nums y) (hM : M ≤ 1000) (hj : 1 ≤ j) (hx : (polyAlongL h (exactL f y M 1))[j]? = some x) : x = 0 := by
  unfold polyAlongL at hx
  split at hx
  case isFalse => simp at hx
  rename_i hp
  unfold exactL at hx hp
  split at hx
  case isFalse hb =>
    rw [if_neg hb] at hp
    simp [paOkB] at hp
  rename_i hb
  rw [if_pos hb] at hp
  have hk' := hk
  simp only [keepsB, Bool.and_eq_true, decide_eq_true_eq] at hk'
  obtain ⟨n, hd', hpl, hn1, hn6, hpp⟩ := fldOk_parts hk'.1.1
  have hyl : y.length = n := by omega
  rw [Int.toNat_natCast] at hx hp
  have hlen : (exSt f.parts y M 1).length = M + 1 := exSt_len _ _ _ _
  have hh : hdL (exSt f.parts y M 1) = n := by
    rw [hdL_at]
    have h0 : ((exSt f.parts y M 1)[0]?).isSome := by simp [hlen]
    obtain ⟨r, hr⟩ := Option.isSome_iff_exists.1 h0
    have hm := List.mem_of_getElem? hr
    simp only [exSt, List.mem_map] at hm
    obtain ⟨k, _, rfl⟩ := hm
    unfold atL
    rw [hr]
    simp [hyl]
  rw [hh] at hx
  have hX : ∀ i p, f.parts[i]? = some p → Sm M (dt (vse (turnZ (exSt f.parts y M 1) n) i)) (pv (vse (turnZ (exSt f.parts y M 1) n)) p) := fun i p hi => by
    have hm : ∀ m ∈ p, m.pows.length = y.length := fun m hm => by rw [hyl]; exact ((hpp p (List.mem_of_getElem? hi)).2 m hm).2.1
    have := exact_ser (order := M) hn (by omega) (by omega) (by omega) hi hm
    rw [hyl] at this
    exact this
  have hc := flow_const (keeps_flow hk hd' hX) (by omega)
  have hz : hdL (turnZ (exSt f.parts y M 1) n) = M + 1 := by rw [hdL_turn (by omega), hlen]
  have hs := dervL_pv (p := h) (y := turnZ (exSt f.parts y M 1) n) (by omega)
  rw [hz] at hs
  have hl : (dervL h (turnZ (exSt f.parts y M 1) n) []).length = M + 1 := by rw [← hz]; exact dervP_len _ _ _ _
  have hjl : j < M + 1 := by rw [← hl]; exact (List.getElem?_eq_some_iff.1 hx).1
  have h1 := hs j hjl
  have h2 := hc j hj (by omega)
  have h3 : se (dervL h (turnZ (exSt f.parts y M 1) n) []) j = x := atZ_get hx
  rw [h3] at h1
  have h4 : resZ x = 0 := h1.trans h2
  have h5 : 0 ≤ x ∧ x ≤ 1000000270 := dervP_nums _ _ _ _ x (List.mem_of_getElem? hx)
  rw [res_num h5] at h4
  exact h4
end Go.Proofs.YtbcjhpgkodeoeaaGreatDoor

/- Steps of Gauss's rules with the field of a top keep the sum of squares. Plain: no program's step stands here. -/
namespace Go.Proofs.YtbcjhpgkodeoeaaGreatDoor
open Go.RowKit Go.Sort

def sqM : List MonZ := [⟨1, [2, 0, 0]⟩, ⟨1, [0, 2, 0]⟩, ⟨1, [0, 0, 2]⟩]
def L3 : Frm := [(1, 0, 0), (1, 1, 1), (1, 2, 2)]
theorem bil_L3 (x y : Vec) : bil L3 x y = ad (cv (x 0) (y 0)) (ad (cv (x 1) (y 1)) (cv (x 2) (y 2))) := by
  funext k
  simp [bil, L3, sumZ, ad]
theorem pv_sqM (Y : Vec) : pv Y sqM = bil L3 Y Y := by
  have e0 : pwV Y [2, 0, 0] 3 = cv (cv (cv (on 1) (cv (cv (on 1) (Y 0)) (Y 0))) (on 1)) (on 1) := rfl
  have e1 : pwV Y [0, 2, 0] 3 = cv (cv (cv (on 1) (on 1)) (cv (cv (on 1) (Y 1)) (Y 1))) (on 1) := rfl
  have e2 : pwV Y [0, 0, 2] 3 = cv (cv (cv (on 1) (on 1)) (on 1)) (cv (cv (on 1) (Y 2)) (Y 2)) := rfl
  rw [sqM, pv_cons, pv_cons, pv_cons, pv_nil, bil_L3]
  show ad (sc 1 (pwV Y [2, 0, 0] 3)) (ad (sc 1 (pwV Y [0, 2, 0] 3)) (ad (sc 1 (pwV Y [0, 0, 2] 3)) ze)) = _
  rw [e0, e1, e2]
  simp only [on_cv, cv_on1, sc_one]
  funext k
  simp [ad, ze]
theorem pv_rot (Y : Vec) (N : Nat) (x : Int) : Sm N (pv Y (rotM 0 x)) (sc x (cv (Y 1) (Y 2))) ∧ Sm N (pv Y (rotM 1 x)) (sc x (cv (Y 0) (Y 2))) ∧ Sm N (pv Y (rotM 2 x)) (sc x (cv (Y 0) (Y 1))) := by
  have e0 : pwV Y [0, 1, 1] 3 = cv (cv (cv (on 1) (on 1)) (cv (on 1) (Y 1))) (cv (on 1) (Y 2)) := rfl
  have e1 : pwV Y [1, 0, 1] 3 = cv (cv (cv (on 1) (cv (on 1) (Y 0))) (on 1)) (cv (on 1) (Y 2)) := rfl
  have e2 : pwV Y [1, 1, 0] 3 = cv (cv (cv (on 1) (cv (on 1) (Y 0))) (cv (on 1) (Y 1))) (on 1) := rfl
  simp only [on_cv, cv_on1] at e0 e1 e2
  have hx : resZ (x % 1000000271) = resZ x := Int.emod_emod _ _
  by_cases h0 : x % 1000000271 = 0
  · have hz : resZ x = resZ 0 := by rw [← hx, h0]
    have hk : ∀ s : Ser, Sm N (pv Y []) (sc x s) := fun s k _ => by
      rw [pv_nil]
      show resZ 0 = resZ (x * s k)
      rw [res_mul2 hz rfl, Int.zero_mul]
    simp only [rotM, if_pos h0]
    exact ⟨hk _, hk _, hk _⟩
  · have hk : ∀ (ps : List Int) (s : Ser), ps.length = 3 → pwV Y ps 3 = s → Sm N (pv Y [⟨x % 1000000271, ps⟩]) (sc x s) := fun ps s hl hs k _ => by
      rw [pv_cons, pv_nil]
      show resZ (x % 1000000271 * pwV Y ps ps.length k + 0) = resZ (x * s k)
      rw [hl, hs, Int.add_zero]
      exact res_mul2 hx rfl
    simp only [rotM, if_neg h0]
    exact ⟨hk _ _ rfl e0, hk _ _ rfl e1, hk _ _ rfl e2⟩
/-- The field of a top keeps the squares. -/
theorem rot_sq {a b c : Int} {N : Nat} (hs : resZ (a + b + c) = 0) {F Z : Vec} (h0 : Sm N (F 0) (pv Z (rotM 0 a))) (h1 : Sm N (F 1) (pv Z (rotM 1 b))) (h2 : Sm N (F 2) (pv Z (rotM 2 c))) : Sm N (ad (bil L3 F Z) (bil L3 Z F)) ze := by
  have g0 := h0.trans (pv_rot Z N a).1
  have g1 := h1.trans (pv_rot Z N b).2.1
  have g2 := h2.trans (pv_rot Z N c).2.2
  have k0 := g0.cv (Sm.refl (Z 0))
  have k1 := g1.cv (Sm.refl (Z 1))
  have k2 := g2.cv (Sm.refl (Z 2))
  rw [sc_cv] at k0 k1 k2
  have t0 : cv (cv (Z 1) (Z 2)) (Z 0) = cv (cv (Z 0) (Z 1)) (Z 2) := by rw [cv_comm, cv_assoc]
  have t1 : cv (cv (Z 0) (Z 2)) (Z 1) = cv (cv (Z 0) (Z 1)) (Z 2) := cv_swap _ _ _
  rw [t0] at k0
  rw [t1] at k1
  intro k hk
  rw [bil_L3, bil_L3, cv_comm (Z 0), cv_comm (Z 1) (F 1), cv_comm (Z 2) (F 2)]
  have q0 := k0 k hk
  have q1 := k1 k hk
  have q2 := k2 k hk
  show resZ ((cv (F 0) (Z 0) k + (cv (F 1) (Z 1) k + cv (F 2) (Z 2) k)) + (cv (F 0) (Z 0) k + (cv (F 1) (Z 1) k + cv (F 2) (Z 2) k))) = resZ 0
  have q : resZ (cv (F 0) (Z 0) k + (cv (F 1) (Z 1) k + cv (F 2) (Z 2) k)) = resZ 0 := by
    rw [res_add q0 (res_add q1 q2)]
    show resZ (a * _ + (b * _ + c * _)) = _
    rw [show ∀ g : Int, a * g + (b * g + c * g) = (a + b + c) * g from fun g => by grind]
    rw [res_mul2 (show resZ (a + b + c) = resZ 0 from hs) rfl, Int.zero_mul]
  rw [res_add q q]
  rfl
end Go.Proofs.YtbcjhpgkodeoeaaGreatDoor

/- Steps of symplectic rules with the field of a top: the program's sums of squares along them are those of the start. Plain: no program's step stands here. -/
namespace Go.Proofs.YtbcjhpgkodeoeaaGreatDoor
open Go.RowKit Go.Sort

def Row3 (N : Nat) (X : List (List Int)) : Prop := X.length = N ∧ ∀ y ∈ X, y.length = 3 ∧ Nums y
/-- a start that stands still -/
def hullZ (y : List Int) (M : Nat) : List (List Int) := y :: List.replicate M (List.replicate y.length 0)
theorem row3_hull {y : List Int} {M : Nat} (h : y.length = 3 ∧ Nums y) : Row3 (M + 1) (hullZ y M) := by
  refine ⟨by simp [hullZ], fun x hx => ?_⟩
  rcases List.mem_cons.1 hx with rfl | hx
  · exact h
  · rw [(List.mem_replicate.1 hx).2]
    exact ⟨by simp [h.1], nums_zero _⟩
theorem row3_turn {M : List (List Int)} {N : Nat} (hl : M.length = 3) (hM : ∀ y ∈ M, Nums y) : Row3 N (turnZ M N) := by
  refine ⟨turnZ_len _ _, fun y hy => ?_⟩
  simp only [turnZ, List.mem_map] at hy
  obtain ⟨k, _, rfl⟩ := hy
  exact ⟨by rw [colZ_len, hl], colZ_nums hM k⟩
theorem row3_path {N : Nat} {X : List (List Int)} (h : Row3 N X) (h1 : 1 ≤ N) (h7 : N ≤ 7) : pathOkB X 3 = true := by
  rw [pathOkB_all (by rw [h.1]; exact h1) (by rw [h.1]; exact h7), List.all_eq_true]
  intro y hy
  obtain ⟨e1, e2⟩ := h.2 y hy
  simp only [rowOkB, e1]
  refine Bool.and_eq_true_iff.2 ⟨by decide, List.all_eq_true.2 fun z hz => ?_⟩
  have := e2 z hz
  simp [isNumB]; omega
theorem row3_hd {N : Nat} {X : List (List Int)} (h : Row3 N X) (h1 : 1 ≤ N) : hdL X = 3 := by
  cases X with
  | nil => have := h.1; simp at this; omega
  | cons x X => exact (h.2 x (by simp)).1
/-- The sum of squares along a path. -/
theorem sq_along {N : Nat} {X : List (List Int)} (h : Row3 N X) (h1 : 1 ≤ N) (h7 : N ≤ 7) : (polyAlongL sqM X).length = N ∧ Nums (polyAlongL sqM X) ∧ Sm N (se (polyAlongL sqM X)) (bil L3 (vse (turnZ X 3)) (vse (turnZ X 3))) := by
  have hd := row3_hd h h1
  have hok : paOkB sqM X = true := by
    rw [paOkB, hd, show ((3 : Nat) : Int) = 3 from rfl, row3_path h h1 h7, show polyOkB sqM 3 = true from by decide, decide_eq_true (by rw [h.1]; omega)]
    rfl
  have hz : hdL (turnZ X 3) = N := by rw [hdL_turn (by omega), h.1]
  have e : polyAlongL sqM X = dervL sqM (turnZ X 3) [] := by rw [polyAlongL, if_pos hok, hd]
  rw [e]
  refine ⟨by rw [← hz]; exact dervP_len _ _ _ _, dervP_nums _ _ _ _, ?_⟩
  have hs := dervL_pv (p := sqM) (y := turnZ X 3) (by omega)
  rw [hz] at hs
  exact hs.trans (Sm.of_eq (pv_sqM _))
theorem rotF_ok (a b c : Int) : fldOkB (rotF a b c) = true := by
  have hr : ∀ k x, k < 3 → polyOkB (rotM k x) 3 = true := fun k x hk => by
    refine polyOk_canon (n := 3) (by omega) (by omega) ?_ ?_ ?_
    · unfold rotM
      split
      · exact ⟨List.Pairwise.nil, (fun m hm => by cases hm), (fun m hm => by cases hm)⟩
      · refine ⟨List.pairwise_singleton _ _, fun m hm => ?_, fun m hm => ?_⟩
        · rw [List.mem_singleton] at hm; subst hm
          show 0 ≤ x % 1000000271 ∧ x % 1000000271 ≤ 1000000270
          omega
        · rw [List.mem_singleton] at hm; subst hm
          assumption
    · unfold rotM; split <;> simp
    · intro m hm
      unfold rotM at hm
      split at hm
      · cases hm
      · rw [List.mem_singleton] at hm; subst hm
        rcases (by omega : k = 0 ∨ k = 1 ∨ k = 2) with rfl | rfl | rfl <;> exact ⟨rfl, (fun x hx => by simp at hx; omega), by show (2 : Int) ≤ 5; omega⟩
  simp only [fldOkB, rotF, List.all_cons, List.all_nil]
  rw [hr 0 a (by omega), hr 1 b (by omega), hr 2 c (by omega)]
  rfl
theorem rot_step {a b c : Int} {t : TabZ} {y : List Int} {M : Nat} (hs : resZ (a + b + c) = 0) (ht : tabOkB t = true) (hsy : SympT t) (hy : y.length = 3 ∧ Nums y) (hM : M ≤ 6) :
    Row3 (M + 1) (stepL t (rotF a b c) (hullZ y M)) ∧ (polyAlongL sqM (stepL t (rotF a b c) (hullZ y M))).length = M + 1 ∧ polyAlongL sqM (stepL t (rotF a b c) (hullZ y M)) = polyAlongL sqM (hullZ y M) := by
  have hr := row3_hull (M := M) hy
  have hp := row3_path hr (by omega) (by omega)
  have hl : (hullZ y M).length = M + 1 := hr.1
  have hf : (fpOkB (rotF a b c) (hullZ y M) && tabOkB t) = true := by rw [fpOkB, rotF_ok, show (rotF a b c).dim = 3 from rfl, hp, ht]; rfl
  have hE : stepL t (rotF a b c) (hullZ y M) = turnZ (atAll (turnZ (hullZ y M) 3) (roundsZ (rotF a b c).parts (turnZ (hullZ y M) 3) (rowZ t.A t.B.length) t.B.length (zAll t.B.length 3 (M + 1)) (M + 1)) t.B t.B.length) (M + 1) := by
    rw [stepL, if_pos hf, show (rotF a b c).dim.toNat = 3 from rfl, hl]
  have hJ : AllJ (M + 1) (turnZ (hullZ y M) 3) := by
    have := turn_ok (n := 3) hp
    rwa [hl] at this
  have hlen : ∀ i, i < 3 → (atL (turnZ (hullZ y M) 3) i).length = M + 1 := fun i hi => by rw [turn_at hi, colZ_len, hl]
  obtain ⟨n', hd', _, _, _, hpp⟩ := fldOk_parts (rotF_ok a b c)
  have hn3 : n' = 3 := by have : (rotF a b c).dim = 3 := rfl; omega
  subst hn3
  obtain ⟨F, Z, h1, h2, _, h4⟩ := stages (rows := rowZ t.A t.B.length) (st := t.B.length) (turnZ_len (hullZ y M) 3) (show (rotF a b c).parts.length = 3 from rfl) (by omega) (by omega) hlen (zAll_cube t.B.length 3 (M + 1)) (fun p hp m hm => by rw [((hpp p hp).2 m hm).2.1]; exact Nat.le_refl _)
  have hB : ∀ s, s < t.B.length → Sm (M + 1) (ad (bil L3 (F s) (Z s)) (bil L3 (Z s) (F s))) ze := fun s hs' =>
    rot_sq hs (h2 s 0 _ hs' rfl) (h2 s 1 _ hs' rfl) (h2 s 2 _ hs' rfl)
  have hrk := rk_form (N := M + 1) (L := L3) (a := fun s => atZ (rowZ t.A t.B.length s)) (b := atZ t.B) h1 h1 hB (fun i j hi hj => by
    show resZ (_ * atZ (rowZ t.A t.B.length i) j + _ * atZ (rowZ t.A t.B.length j) i) = _
    rw [rowZ_at hj, rowZ_at hi]
    exact hsy i j hi hj)
  have rX : Row3 (M + 1) (stepL t (rotF a b c) (hullZ y M)) := by
    rw [hE]
    exact row3_turn (by rw [atAll_len, turnZ_len]) (fun y hy => (atAll_ok hJ _ _ _ y hy).2)
  obtain ⟨a1, a2, a3⟩ := sq_along rX (by omega) (by omega)
  obtain ⟨b1, b2, b3⟩ := sq_along hr (by omega) (by omega)
  refine ⟨rX, a1, nums_ext a1 b1 a2 b2 ?_⟩
  have hcol : ∀ i, i < 3 → Sm (M + 1) (vse (turnZ (stepL t (rotF a b c) (hullZ y M)) 3) i) (stg (vse (turnZ (hullZ y M) 3)) (atZ t.B) F t.B.length i) := fun i hi => by
    rw [vse_turn hi, hE]
    exact (col_turn (by rw [atAll_len, turnZ_len]; exact hi)).trans (h4 t.B i)
  have c1 : Sm (M + 1) (bil L3 (vse (turnZ (stepL t (rotF a b c) (hullZ y M)) 3)) (vse (turnZ (stepL t (rotF a b c) (hullZ y M)) 3))) (bil L3 (stg (vse (turnZ (hullZ y M) 3)) (atZ t.B) F t.B.length) (stg (vse (turnZ (hullZ y M) 3)) (atZ t.B) F t.B.length)) := by
    rw [bil_L3, bil_L3]
    exact ((hcol 0 (by omega)).cv (hcol 0 (by omega))).ad (((hcol 1 (by omega)).cv (hcol 1 (by omega))).ad ((hcol 2 (by omega)).cv (hcol 2 (by omega))))
  exact ((a3.trans c1).trans (hrk.le (by omega))).trans b3.symm
end Go.Proofs.YtbcjhpgkodeoeaaGreatDoor

/- The laws' helper that lets a point stand still. Conditions: three coordinates, few points. -/
namespace Go.Proofs.YtbcjhpgkodeoeaaGreatDoor
open Go.ChangeShapes Go.WideShapes Go.ChangeAt Go.RowKit Go.Deep Go.Joins

theorem ownII_lit1 {e1 e : Nat} {w : World} {p : Value} {y : List Int} {f : List Nat} (h : OwnI e w p y f) : OwnII e1 e (w.alloc (.cells #[p] e1)) (.slice (some ⟨w.heap.size, 0, none⟩) 1 1) [y] (w.heap.size :: f) := by
  have hal : Below w.heap.size w (w.alloc (.cells #[p] e1)) := (Below.refl _ _).alloc (Nat.le_refl _) _
  have hlt := ownI_lt h
  refine ⟨[[p]], f, by simpa using World.ownsRow_lit (base := 0) (e := e1) (size := 1) w #[p] 1 (Nat.zero_le _) (by unfold maxLen; omega) rfl, by simp, ⟨f, [], by simp, ⟨p, rfl, ownI_only h (Only.of_below (fp := []) hal) (by simp)⟩, rfl⟩, rfl, ?_⟩
  refine List.nodup_cons.2 ⟨fun hm => ?_, ownI_nodup h⟩
  have := hlt _ hm
  omega
/-- Make, one element's box, and an append of it to rows of the call's own. -/
theorem push_zeros {m n : Nat} (hm : m ≤ 100) {W : World} {adx : Option Addr} {cpx : Nat} {us : List Value} {xs : List (List Int)} {fx : List Nat} (hlx : ∀ b ∈ fx, b < W.heap.size)
    (hp : ∀ (wa : World) (fp' : List Nat), Only fp' W wa → (∀ b ∈ fx, b ∉ fp') → wa.ownsRow 0 35 1 (.slice adx n cpx) n us ∧ ∀ (p : Value) (ys : List Int) (f : List Nat) (w2 : World) (gg capn : Nat), OwnI 3 wa p ys f → (∀ b ∈ f, b ∉ fx) →
      w2.ownsRow 0 35 1 (.slice (some ⟨gg, 0, none⟩) (n + 1) capn) (n + 1) (us ++ [p]) → (wa.alloc (.cells #[p] 35)).grownBy w2 (Value.slice adx n cpx).ownBlock → ((Value.slice adx n cpx).ownBlock = some gg ∨ gg = wa.heap.size + 1) →
      ∃ f', OwnII 35 3 w2 (.slice (some ⟨gg, 0, none⟩) (n + 1) capn) (xs ++ [ys]) f' ∧ (∀ b ∈ f', b ∈ fx ∨ b ∈ f ∨ wa.heap.size ≤ b) ∧ Only fx wa w2) :
    (W.alloc (.cells (Array.replicate m (.int .i64 0)) 3)).ownsRow 0 35 1 (.slice adx n cpx) n us ∧ ∀ (w2 : World) (gg capn : Nat),
      w2.ownsRow 0 35 1 (.slice (some ⟨gg, 0, none⟩) (n + 1) capn) (n + 1) (us ++ [.slice (some ⟨W.heap.size, 0, none⟩) m m]) → ((W.alloc (.cells (Array.replicate m (.int .i64 0)) 3)).alloc (.cells #[.slice (some ⟨W.heap.size, 0, none⟩) m m] 35)).grownBy w2 (Value.slice adx n cpx).ownBlock → ((Value.slice adx n cpx).ownBlock = some gg ∨ gg = W.heap.size + 1 + 1) →
      ∃ f', OwnII 35 3 w2 (.slice (some ⟨gg, 0, none⟩) (n + 1) capn) (xs ++ [List.replicate m 0]) f' ∧ (∀ b ∈ f', b ∈ fx ∨ W.heap.size ≤ b) ∧ Only fx W w2 := by
  have hal : Below W.heap.size W (W.alloc (.cells (Array.replicate m (.int .i64 0)) 3)) := (Below.refl _ _).alloc (Nat.le_refl _) _
  have hals : (W.alloc (.cells (Array.replicate m (.int .i64 0)) 3)).heap.size = W.heap.size + 1 := by simp
  obtain ⟨h1, h2⟩ := hp (W.alloc (.cells (Array.replicate m (.int .i64 0)) 3)) [] (Only.of_below hal) (by simp)
  refine ⟨h1, fun w2 gg capn hown hgrow hat => ?_⟩
  obtain ⟨f', k1, k2, k3⟩ := h2 (.slice (some ⟨W.heap.size, 0, none⟩) m m) (List.replicate m 0) [W.heap.size] w2 gg capn (zeros_row W hm) (fun b hb hm => by have := hlx b hm; simp at hb; omega) hown hgrow (by rw [hals]; exact hat)
  refine ⟨f', k1, fun b hb => ?_, (Only.of_below hal).trans k3⟩
  rcases k2 b hb with h | h | h
  · exact .inl h
  · simp at h; omega
  · omega
theorem news_zeros (m : Nat) (W : World) : ∀ (j : Nat) u, [Value.slice (some ⟨W.heap.size, 0, none⟩) m m][j]? = some u → ((W.alloc (.cells (Array.replicate m (.int .i64 0)) 3)).alloc (.cells #[.slice (some ⟨W.heap.size, 0, none⟩) m m] 35)).cell? ((⟨W.heap.size + 1, 0, none⟩ : Addr).add j) = some u := by
  have h := World.news_of_block (cs := #[Value.slice (some ⟨W.heap.size, 0, none⟩) m m]) (t := 35) (fr := (0, 0)) (heap_alloc_new (W.alloc (.cells (Array.replicate m (.int .i64 0)) 3)) _)
  rw [show (W.alloc (.cells (Array.replicate m (.int .i64 0)) 3)).heap.size = W.heap.size + 1 from by simp] at h
  exact h
theorem hull_next (y : List Int) (q : Nat) : hullZ y q ++ [List.replicate y.length 0] = hullZ y (q + 1) := by
  rw [hullZ, hullZ, List.replicate_succ' (n := q), List.cons_append]
theorem hull_len (y : List Int) (q : Nat) : (hullZ y q).length = q + 1 := by simp [hullZ]
set_option maxRecDepth 100000 in
set_option maxHeartbeats 3200000 in
theorem hull_any (v : Value) (y : List Int) (n : Nat) (nz : Int) (hz : nz = n) (hn : n ≤ 6) (w : World) (h : RdI w v y) (h3 : y.length = 3) :
    Calls Tryz.prog 27 #[v, .int .i64 nz] w (Gives (fun w' v fp => OwnII 35 3 w' v (hullZ y n) fp) w) := by
  obtain ⟨ji, hji, hji0, hji1, hji2⟩ := info_parts Tryz.info_int
  obtain ⟨jl, hjl, hjl0, hjl1, hjl2⟩ := info_parts Tryz.info_ints
  obtain ⟨ad, len, cap, rfl, hl, hlc, hcm, h'⟩ := rdS_open h
  obtain rfl : len = 3 := by omega
  obtain ⟨b1, o1, _, rfl, _⟩ := rdI_get h' (k := 0) (by omega)
  have hal : Below w.heap.size w (w.alloc (.cells #[] 3)) := below_lit w _
  have HNW := Lib.hid (rdI_news (rdI_mono hal h'))
  have HLN := Lib.hid hl
  have HI := Lib.hid (i64_all h')
  have HAL := Lib.hid hal
  have HLR := Lib.hid (lit_row (w := w) (e := 3))
  have HZ := Lib.hid hz
  clear h h' hal hl hz
  go_enter Tryz.func27, Tryz.ntmps27
  go_wp2_with (first
    | (at_builtin; refine wpList_append_lies _ rfl _ _ _ rfl 0 3 ji _ 1 8 Tryz.underlying35 hji hji0 hji1 hji2 rfl (by omega) (.slice (some ⟨w.heap.size, 0, none⟩) 0 0) 0 [] (by rfl) HLR.out ⟨b1, o1, none⟩ 3 cap (y.map (Value.int .i64)) (by rfl) (by rw [List.length_map, HLN.out]) HNW.out (by intro u hu; simp only [List.mem_map] at hu; obtain ⟨z, _, rfl⟩ := hu; rfl) (by omega) (by unfold maxLen; omega) (by omega) (by simp) (w.heap.size + 1) (by simp) ?_; intro gg capn wa hown1 hgrow hat hlt1; have hP := copy_own HAL.out hown1 (by simpa [Value.ownBlock] using hgrow) (Nat.le_refl _) (by simpa [Value.ownBlock] using hat) HLN.out HI.out; obtain ⟨hPo, hPg, hPb⟩ := hP; simp only [Nat.zero_add]; have HL1 := Lib.hid (ownII_lit1 (e1 := 35) hPo); have HPB := Lib.hid hPb; have HPG := Lib.hid hPg; clear hown1 hgrow hat hPo hPb hPg))
  go_loopw [5, 6] (fun p j wq => ∃ (q : Nat) (f : List Nat), q ≤ n ∧ j = .int .i64 q ∧ OwnII 35 3 wq p (hullZ y q) f ∧ (∀ b ∈ f, w.heap.size ≤ b) ∧ Below w.heap.size w wq) (fun _ j _ => n - (intOf j).toNat)
  case atStart =>
    refine ⟨0, wa.heap.size :: [gg], Nat.zero_le _, rfl, HL1.out, fun b hb => ?_, HPB.out.trans (((Below.refl _ _).alloc (Nat.le_refl _) _).mono HPB.out.size)⟩
    have := HPG.out
    have := HPB.out.size
    simp at hb
    omega
  case round =>
    obtain ⟨wk, rfl⟩ : ∃ W, W = wr := ⟨_, rfl⟩
    obtain ⟨q, f, hq, rfl, hp, hf, hb⟩ := hrel
    clear HL1 HPB HPG
    by_cases hlt : q < n
    case neg =>
      obtain rfl : q = n := by omega
      have hnq : ¬ ((q : Int) < nz) := by rw [HZ.out]; omega
      go_wp2
      go_ret
      exact ⟨_, f, rfl, hp, hf, hb⟩
    have hqI : (q : Int) < nz := by rw [HZ.out]; omega
    obtain ⟨adp, capp, us, rfl, hqc, hcpm, hpush⟩ := ownII_push4 hp (n := q + 1) (hull_len _ _)
    have hmk := mk_rowG 3 3 rfl (by omega)
    have hq1 := push_zeros (m := 3) (by omega) (ownII_lt hp) hpush
    have HNP := Lib.hid hq1.1
    have HPA := Lib.hid hq1.2
    have HNW1 := Lib.hid (news_zeros 3 wk)
    have HF := Lib.hid hf
    have HB := Lib.hid hb
    clear hp hpush hf hb hq1
    go_wp2_with (first
      | (at_builtin; refine wpList_append_lies _ rfl _ _ _ rfl 0 35 jl _ 1 24 Tryz.underlying25 hjl hjl0 hjl1 hjl2 rfl (by omega) (.slice adp (q + 1) capp) (q + 1) _ (by rfl) (HNP.out.alloc _) ⟨wk.heap.size + 1, 0, none⟩ 1 1 [.slice (some ⟨wk.heap.size, 0, none⟩) 3 3] (by rfl) (by rfl) HNW1.out (by simp [Value.oneCell']) (by omega) (by unfold maxLen; omega) (by omega) (by simp) (wk.heap.size + 1 + 1) (by simp) ?_; intro g7 cap7 w7 hown1 hgrow hat hlt1; obtain ⟨f7, hP1, hP2, hP3⟩ := HPA.out w7 g7 cap7 hown1 hgrow hat; have HPP := Lib.hid hP1; have HP2 := Lib.hid hP2; have HP3 := Lib.hid hP3; clear hown1 hgrow hat hP1 hP2 hP3))
    all_goals (
      go_roundw
      case rel =>
        refine ⟨q + 1, f7, by omega, by go_num, ?_, fun b hb => ?_, ?_⟩
        · have e : hullZ y (q + 1) = hullZ y q ++ [List.replicate 3 0] := by rw [← hull_next, HLN.out]
          rw [e]
          exact HPP.out
        · have := HB.out.size
          rcases HP2.out b hb with h | h
          · exact HF.out b h
          · omega
        · exact below_newer HB.out HP3.out HF.out
      case measure => simp [intOf]; omega)
end Go.Proofs.YtbcjhpgkodeoeaaGreatDoor

/- The field of a top keeps the sum of squares, as the program tests it. Plain: no program's step stands here. -/
namespace Go.Proofs.YtbcjhpgkodeoeaaGreatDoor
open Go.RowKit Go.Sort

theorem putAll_none {q : List MonZ} (hq : NumsM q) (h : ∀ ps, coefAt ps q % 1000000271 = 0) : putAll [] q = [] := by
  obtain ⟨h1, h2⟩ := putAll_canon (q := q) canon_nil hq
  refine canon_unique h1 canon_nil fun ps => ?_
  rw [h2 ps]
  show (0 + coefAt ps q) % 1000000271 = 0
  rw [Int.zero_add, h ps]
theorem coef_rot (k : Nat) (x : Int) (u ps : List Int) (hu : powsAdd u ([1, 1, 1].set k 0) = [1, 1, 1]) : coefAt ps (mulL [⟨2, u⟩] (rotM k x)) % 1000000271 = (if [1, 1, 1] = ps then 2 * x else 0) % 1000000271 := by
  unfold rotM
  split
  · rename_i h0
    show (0 : Int) % 1000000271 = _
    split
    · omega
    · rfl
  · show coefAt ps [mulM ⟨2, u⟩ ⟨x % 1000000271, [1, 1, 1].set k 0⟩] % 1000000271 = _
    unfold mulM
    simp only [hu, coefAt]
    split
    · simp only [timesZ, resZ, modl]; omega
    · rfl
theorem keeps_rot {a b c : Int} (hs : resZ (a + b + c) = 0) : keepsB (rotF a b c) sqM = true := by
  have hp : polyOkB sqM 3 = true := by decide
  have hq : allL (rotF a b c).parts sqM 3 = mulL [⟨2, [1, 0, 0]⟩] (rotM 0 a) ++ (mulL [⟨2, [0, 1, 0]⟩] (rotM 1 b) ++ mulL [⟨2, [0, 0, 1]⟩] (rotM 2 c)) := by
    have e0 : partL 0 1 sqM = [⟨2, [1, 0, 0]⟩] := by rfl
    have e1 : partL 1 1 sqM = [⟨2, [0, 1, 0]⟩] := by rfl
    have e2 : partL 2 1 sqM = [⟨2, [0, 0, 1]⟩] := by rfl
    have : allL (rotF a b c).parts sqM 3 = mulL (partL 0 1 sqM) (rotM 0 a) ++ (mulL (partL 1 1 sqM) (rotM 1 b) ++ (mulL (partL 2 1 sqM) (rotM 2 c) ++ [])) := rfl
    rw [this, e0, e1, e2, List.append_nil]
  have h0 : putAll [] (allL (rotF a b c).parts sqM 3) = [] := by
    refine putAll_none (allL_nums _ _ _) fun ps => ?_
    rw [hq, coefAt_append, coefAt_append]
    have k0 := coef_rot 0 a [1, 0, 0] ps (by decide)
    have k1 := coef_rot 1 b [0, 1, 0] ps (by decide)
    have k2 := coef_rot 2 c [0, 0, 1] ps (by decide)
    have hs' : (a + b + c) % 1000000271 = 0 := hs
    split at k0
    · rename_i h; rw [if_pos h] at k1 k2; omega
    · rename_i h; rw [if_neg h] at k1 k2; omega
  rw [keepsB, rotF_ok, show (rotF a b c).dim = 3 from rfl, hp, show (rotF a b c).parts.length = 3 from rfl, h0]
  rfl
end Go.Proofs.YtbcjhpgkodeoeaaGreatDoor
