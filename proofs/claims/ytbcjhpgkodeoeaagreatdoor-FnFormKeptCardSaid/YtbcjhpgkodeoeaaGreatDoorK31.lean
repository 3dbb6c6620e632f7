/- The texts FormT, LinP, LinQ in one: each says at its head what it proves. Conditions: as said there. -/
import Derived.Test.YtbcjhpgkodeoeaaGreatDoorK30
import Derived.Test.YtbcjhpgkodeoeaaGreatDoorK17
import Derived.Test.YtbcjhpgkodeoeaaGreatDoorK16
import Derived.Test.YtbcjhpgkodeoeaaGreatDoorK19
import Derived.Test.YtbcjhpgkodeoeaaGreatDoorK13
set_option linter.unusedSimpArgs false
set_option linter.unusedVariables false
/- Symplectic steps of the tangents of a polynomial's field keep the form, and so do exact ones: what the law FnFormKept compares. Plain: no program's step stands here. -/
namespace Go.Proofs.YtbcjhpgkodeoeaaGreatDoor
open Go.RowKit Go.Sort

theorem col_turn {M : List (List Int)} {N i : Nat} (hi : i < M.length) : Sm N (se (colZ (turnZ M N) i)) (vse M i) := fun k hk => by
  show resZ (atZ (colZ (turnZ M N) i) k) = resZ (atZ (atL M i) k)
  rw [col_at (by rw [turnZ_len]; exact hk), turn_at hk, col_at hi]
theorem row4_turn {M : List (List Int)} {N : Nat} (hl : M.length = 4) (hM : ∀ y ∈ M, Nums y) : Row4 N (turnZ M N) := by
  refine ⟨turnZ_len _ _, fun y hy => ?_⟩
  simp only [turnZ, List.mem_map] at hy
  obtain ⟨k, _, rfl⟩ := hy
  exact ⟨by rw [colZ_len, hl], colZ_nums hM k⟩
theorem row4_still {yA : List Int} {M : Nat} (h : yA.length = 4 ∧ Nums yA) : Row4 (M + 1) (still yA M) := by
  refine ⟨still_len _ _, fun y hy => ?_⟩
  rcases List.mem_cons.1 hy with rfl | hy
  · exact h
  · rw [(List.mem_replicate.1 hy).2]
    exact ⟨by simp, nums_zero _⟩
theorem row4_path {N : Nat} {X : List (List Int)} (h : Row4 N X) (h1 : 1 ≤ N) (h7 : N ≤ 7) : pathOkB X 4 = true := by
  rw [pathOkB_all (by rw [h.1]; exact h1) (by rw [h.1]; exact h7), List.all_eq_true]
  intro y hy
  obtain ⟨e1, e2⟩ := h.2 y hy
  simp only [rowOkB, e1]
  refine Bool.and_eq_true_iff.2 ⟨by decide, List.all_eq_true.2 fun z hz => ?_⟩
  have := e2 z hz
  simp [isNumB]; omega
theorem zAll_cube (st n N : Nat) : Cube st n N (zAll st n N) := by
  refine ⟨by simp [zAll], fun s i hs hi => ?_⟩
  simp [atLL, atL, zAll, zRow, zJ, hs, hi]

/-- the two parts of the field -/
def hamQ (h : List MonZ) (i : Nat) : List MonZ := if i = 0 then partL 1 1 h else partL 0 (-1) h
structure TanOk (h : List MonZ) (g : FldZ) : Prop where
  dim : g.dim = 4
  parts : g.parts = tanP 2 [partL 1 1 h, partL 0 (-1) h]
  len : g.parts.length = 4
  fine : ∀ p ∈ g.parts, ∀ m ∈ p, MonFine 4 m
  fine2 : ∀ p ∈ [partL 1 1 h, partL 0 (-1) h], ∀ m ∈ p, MonFine 2 m
  ok : fldOkB g = true
theorem tanOk_of {h : List MonZ} (hh : hamB h 2 = true) (hg : tanB (hamF h 2) = true) : TanOk h (tanF (hamF h 2)) := by
  have e1 : hamF h 2 = ⟨2, [partL 1 1 h, partL 0 (-1) h]⟩ := by rw [hamF, if_pos hh]; rfl
  rw [tanF_yes hg]
  have hg2 := hg
  rw [e1] at hg ⊢
  have hb : fldOkB ⟨2, [partL 1 1 h, partL 0 (-1) h]⟩ = true := by
    cases hc : fldOkB ⟨2, [partL 1 1 h, partL 0 (-1) h]⟩ with
    | true => rfl
    | false => rw [tanB_no hc] at hg; cases hg
  have hr : fldOkB (tanR ⟨2, [partL 1 1 h, partL 0 (-1) h]⟩) = true := by rw [← tanB_yes hb]; exact hg
  obtain ⟨n, e2, e3, _, _, e4⟩ := fldOk_parts hb
  obtain ⟨n', e5, e6, _, _, e7⟩ := fldOk_parts hr
  have hn : n = 2 := by have : (2 : Int) = n := e2; omega
  have hn' : n' = 4 := by have : (2 * 2 : Int) = n' := e5; omega
  subst hn hn'
  exact ⟨rfl, rfl, e6, fun p hp => (e7 p hp).2, fun p hp => (e4 p hp).2, hr⟩
theorem TanOk.base {h : List MonZ} {g : FldZ} (H : TanOk h g) (Y : Vec) {i : Nat} (hi : i < 2) : (∃ q, g.parts[i]? = some q ∧ pv Y q = pv Y (hamQ h i)) ∧ ∃ q, g.parts[2 + i]? = some q ∧ ∀ N, Sm N (pv Y q) (ssum (fun j => cv (pv Y (partL j 1 (hamQ h i))) (Y (2 + j))) 2) := by
  rw [H.parts]
  have hj : [partL 1 1 h, partL 0 (-1) h][i]? = some (hamQ h i) := by
    have : i = 0 ∨ i = 1 := by omega
    rcases this with rfl | rfl <;> rfl
  exact pv_tanP Y (n := 2) rfl H.fine2 hj
theorem TanOk.pows {h : List MonZ} {g : FldZ} (H : TanOk h g) {i : Nat} (hi : i < 2) : ∀ m ∈ hamQ h i, m.pows.length = 2 := fun m hm => by
  have : i = 0 ∨ i = 1 := by omega
  rcases this with rfl | rfl
  · exact (H.fine2 _ (by simp [hamQ]) m hm).2.1
  · exact (H.fine2 _ (by simp [hamQ]) m hm).2.1

/-- A tableau whose numbers are symplectic. -/
def SympT (t : TabZ) : Prop := ∀ i j, i < t.B.length → j < t.B.length → resZ (atZ t.B i * atZ t.A (i * t.B.length + j) + atZ t.B j * atZ t.A (j * t.B.length + i)) = resZ (atZ t.B i * atZ t.B j)
/-- What a step of the tangents' field is in series. -/
theorem step_ser {h : List MonZ} {g : FldZ} {t : TabZ} {yA : List Int} {M : Nat} (H : TanOk h g) (ht : tabOkB t = true) (hy : yA.length = 4 ∧ Nums yA) (hM : M ≤ 6) :
    Row4 (M + 1) (stepL t g (still yA M)) ∧ ∃ F Z : Nat → Vec, (∀ s, s < t.B.length → VSm (M + 1) (Z s) (stg (vse (turnZ (still yA M) 4)) (atZ (rowZ t.A t.B.length s)) F t.B.length)) ∧
      (∀ s i p, s < t.B.length → g.parts[i]? = some p → Sm (M + 1) (F s i) (pv (Z s) p)) ∧
      ∀ i, i < 4 → Sm (M + 1) (se (colZ (stepL t g (still yA M)) i)) (stg (vse (turnZ (still yA M) 4)) (atZ t.B) F t.B.length i) := by
  have hr := row4_still (M := M) hy
  have hp := row4_path hr (by omega) (by omega)
  have hd : g.dim.toNat = 4 := by rw [H.dim]; rfl
  have hf : (fpOkB g (still yA M) && tabOkB t) = true := by rw [fpOkB, H.ok, H.dim, hp, ht]; rfl
  have hE : stepL t g (still yA M) = turnZ (atAll (turnZ (still yA M) 4) (roundsZ g.parts (turnZ (still yA M) 4) (rowZ t.A t.B.length) t.B.length (zAll t.B.length 4 (M + 1)) (M + 1)) t.B t.B.length) (M + 1) := by
    rw [stepL, if_pos hf, hd, still_len]
  have hJ : AllJ (M + 1) (turnZ (still yA M) 4) := by
    have := turn_ok (n := 4) hp
    rwa [still_len] at this
  have hlen : ∀ i, i < 4 → (atL (turnZ (still yA M) 4) i).length = M + 1 := fun i hi => by rw [turn_at hi, colZ_len, still_len]
  obtain ⟨F, Z, h1, h2, _, h4⟩ := stages (rows := rowZ t.A t.B.length) (st := t.B.length) (turnZ_len (still yA M) 4) H.len (by omega) (by omega) hlen (zAll_cube t.B.length 4 (M + 1)) (fun p hp m hm => by rw [(H.fine p hp m hm).2.1]; exact Nat.le_refl _)
  refine ⟨?_, F, Z, h1, h2, fun i hi => ?_⟩
  · rw [hE]
    exact row4_turn (by rw [atAll_len, turnZ_len]) (fun y hy => (atAll_ok hJ _ _ _ y hy).2)
  · rw [hE]
    exact (col_turn (by rw [atAll_len, turnZ_len]; exact hi)).trans (h4 t.B i)
theorem start_agree {yu yv : List Int} {M N : Nat} (h0 : ∀ i, i < 2 → atZ yu i = atZ yv i) {i : Nat} (hi : i < 2) : Sm N (vse (turnZ (still yu M) 4) i) (vse (turnZ (still yv M) 4) i) := by
  rw [vse_turn (by omega), vse_turn (by omega), col_still, col_still, h0 i hi]
  exact Sm.refl _
/-- Symplectic steps. -/
theorem kept_step {h : List MonZ} {t : TabZ} {yu yv : List Int} {M : Nat} (hh : hamB h 2 = true) (hg : tanB (hamF h 2) = true) (hl : ∀ m ∈ h, m.pows.length = 2) (ht : tabOkB t = true) (hs : SympT t) (hu : yu.length = 4 ∧ Nums yu) (hv : yv.length = 4 ∧ Nums yv) (h0 : ∀ i, i < 2 → atZ yu i = atZ yv i) (hM : M ≤ 6) :
    Row4 (M + 1) (stepL t (tanF (hamF h 2)) (still yu M)) ∧ Row4 (M + 1) (stepL t (tanF (hamF h 2)) (still yv M)) ∧
      sympFormL (tanT (stepL t (tanF (hamF h 2)) (still yu M))) (tanT (stepL t (tanF (hamF h 2)) (still yv M))) = sympFormL (tanT (still yu M)) (tanT (still yv M)) := by
  have H := tanOk_of hh hg
  obtain ⟨g, hge⟩ : ∃ g, g = tanF (hamF h 2) := ⟨_, rfl⟩
  rw [← hge] at H ⊢
  obtain ⟨rX, F, Z, z1, z2, z3⟩ := step_ser H ht hu hM
  obtain ⟨rY, G, W, w1, w2, w3⟩ := step_ser H ht hv hM
  have hF : ∀ s i, s < t.B.length → i < 2 → Sm (M + 1) (F s i) (pv (Z s) (hamQ h i)) := fun s i hs' hi => by
    obtain ⟨⟨q, hq, e⟩, _⟩ := H.base (Z s) hi
    have := z2 s i q hs' hq
    rwa [e] at this
  have hG : ∀ s i, s < t.B.length → i < 2 → Sm (M + 1) (G s i) (pv (W s) (hamQ h i)) := fun s i hs' hi => by
    obtain ⟨⟨q, hq, e⟩, _⟩ := H.base (W s) hi
    have := w2 s i q hs' hq
    rwa [e] at this
  have hb := base_agree (n := 2) (P := hamQ h) (fun i hi => start_agree (M := M) h0 hi) z1 w1 (fun i hi => H.pows hi) hF hG (M + 1) (Nat.le_refl _)
  have hB : ∀ s, s < t.B.length → Sm (M + 1) (ad (bil Lf (F s) (W s)) (bil Lf (Z s) (G s))) ze := fun s hs' => by
    obtain ⟨_, q0, hq0, e0⟩ := H.base (Z s) (i := 0) (by omega)
    obtain ⟨_, q1, hq1, e1⟩ := H.base (Z s) (i := 1) (by omega)
    obtain ⟨_, p0, hp0, d0⟩ := H.base (W s) (i := 0) (by omega)
    obtain ⟨_, p1, hp1, d1⟩ := H.base (W s) (i := 1) (by omega)
    exact tan_form hl (fun i hi => hb s i hs' hi) ((z2 s _ q0 hs' hq0).trans (e0 _)) ((z2 s _ q1 hs' hq1).trans (e1 _)) ((w2 s _ p0 hs' hp0).trans (d0 _)) ((w2 s _ p1 hs' hp1).trans (d1 _))
  have hrk := rk_form (N := M + 1) (L := Lf) (a := fun s => atZ (rowZ t.A t.B.length s)) (b := atZ t.B) z1 w1 hB (fun i j hi hj => by
    show resZ (_ * atZ (rowZ t.A t.B.length i) j + _ * atZ (rowZ t.A t.B.length j) i) = _
    rw [rowZ_at hj, rowZ_at hi]
    exact hs i j hi hj)
  refine ⟨rX, rY, ?_⟩
  obtain ⟨a1, a2⟩ := sf_len rX rY (by omega) (by omega)
  obtain ⟨b1, b2⟩ := sf_len (row4_still (M := M) hu) (row4_still (M := M) hv) (by omega) (by omega)
  refine nums_ext a1 b1 a2 b2 (fun k hk => ?_)
  have c1 := sf_ser rX rY (by omega) (by omega) k hk
  have c2 := sf_ser (row4_still (M := M) hu) (row4_still (M := M) hv) (by omega) (by omega) k hk
  have c3 := hrk k (by omega)
  rw [bil_Lf, bil_Lf] at c3
  rw [vse_turn (by omega), vse_turn (by omega), vse_turn (by omega), vse_turn (by omega)] at c3
  refine c1.trans (Eq.trans ?_ (c3.trans c2.symm))
  have t1 := ((z3 2 (by omega)).cv (w3 3 (by omega))) k hk
  have t2 := ((z3 3 (by omega)).cv (w3 2 (by omega))) k hk
  exact res_sub t1 t2
theorem row4_exact {parts : List (List MonZ)} {y : List Int} {M : Nat} (hy : y.length = 4) : Row4 (M + 1) (exSt parts y M 1) := by
  refine ⟨exSt_len _ _ _ _, fun x hx => ?_⟩
  simp only [exSt, List.mem_map] at hx
  obtain ⟨j, _, rfl⟩ := hx
  refine ⟨by simp [hy], fun z hz => ?_⟩
  simp only [List.mem_map] at hz
  obtain ⟨i, _, rfl⟩ := hz
  exact timesZ_bd _ _
theorem exact_start {parts : List (List MonZ)} {y : List Int} {M i : Nat} (hy : y.length = 4 ∧ Nums y) (hi : i < 4) : se (colZ (exSt parts y M 1) i) 0 = atZ y i := by
  show atZ (colZ (exSt parts y M 1) i) 0 = _
  rw [col_at (by rw [exSt_len]; omega), exSt_at (by omega) (by omega) hy.2, exS_pre parts y (j := 0) (n := M) (by omega) 0 (Nat.le_refl _)]
  rfl
/-- Exact steps. -/
theorem kept_exact {h : List MonZ} {yu yv : List Int} {M : Nat} (hh : hamB h 2 = true) (hg : tanB (hamF h 2) = true) (hl : ∀ m ∈ h, m.pows.length = 2) (hu : yu.length = 4 ∧ Nums yu) (hv : yv.length = 4 ∧ Nums yv) (h0 : ∀ i, i < 2 → atZ yu i = atZ yv i) (hM : M ≤ 6) :
    Row4 (M + 1) (exactL (tanF (hamF h 2)) yu M 1) ∧ Row4 (M + 1) (exactL (tanF (hamF h 2)) yv M 1) ∧
      sympFormL (tanT (exactL (tanF (hamF h 2)) yu M 1)) (tanT (exactL (tanF (hamF h 2)) yv M 1)) = sympFormL (tanT (still yu M)) (tanT (still yv M)) := by
  have H := tanOk_of hh hg
  obtain ⟨g, hge⟩ : ∃ g, g = tanF (hamF h 2) := ⟨_, rfl⟩
  rw [← hge] at H ⊢
  have hE : ∀ y : List Int, y.length = 4 ∧ Nums y → exactL g y M 1 = exSt g.parts y M 1 := fun y hy => by
    have hp : pathOkB [y] 4 = true := row4_path (N := 1) ⟨rfl, fun x hx => by rw [List.mem_singleton] at hx; rw [hx]; exact hy⟩ (by omega) (by omega)
    have hf : (fpOkB g [y] && ordB (M : Int)) = true := by
      rw [fpOkB, H.ok, H.dim, hp]
      simp [ordB]; omega
    rw [exactL, if_pos hf, Int.toNat_natCast]
  rw [hE yu hu, hE yv hv]
  have rX := row4_exact (parts := g.parts) (M := M) hu.1
  have rY := row4_exact (parts := g.parts) (M := M) hv.1
  obtain ⟨x, hx⟩ : ∃ x : Vec, x = vse (turnZ (exSt g.parts yu M 1) 4) := ⟨_, rfl⟩
  obtain ⟨y, hy⟩ : ∃ y : Vec, y = vse (turnZ (exSt g.parts yv M 1) 4) := ⟨_, rfl⟩
  have ex : ∀ i p, g.parts[i]? = some p → Sm M (dt (x i)) (pv x p) := fun i p hi => by
    have hm : ∀ m ∈ p, m.pows.length = yu.length := fun m hm => by rw [hu.1]; exact (H.fine p (List.mem_of_getElem? hi) m hm).2.1
    have := exact_ser (order := M) hu.2 (by omega) (by rw [H.len, hu.1]) (by omega) hi hm
    rw [hu.1] at this
    rw [hx]
    exact this
  have ey : ∀ i p, g.parts[i]? = some p → Sm M (dt (y i)) (pv y p) := fun i p hi => by
    have hm : ∀ m ∈ p, m.pows.length = yv.length := fun m hm => by rw [hv.1]; exact (H.fine p (List.mem_of_getElem? hi) m hm).2.1
    have := exact_ser (order := M) hv.2 (by omega) (by rw [H.len, hv.1]) (by omega) hi hm
    rw [hv.1] at this
    rw [hy]
    exact this
  have x0 : ∀ i, i < 4 → x i 0 = atZ yu i := fun i hi => by rw [hx, vse_turn hi]; exact exact_start hu hi
  have y0 : ∀ i, i < 4 → y i 0 = atZ yv i := fun i hi => by rw [hy, vse_turn hi]; exact exact_start hv hi
  have hag := flow_agree (N := M) (n := 2) (x := x) (y := y) (P := hamQ h) (fun i hi => by rw [x0 i (by omega), y0 i (by omega), h0 i hi]) (by omega) (fun i hi => H.pows hi)
    (fun i hi => by
      obtain ⟨⟨q, hq, e⟩, _⟩ := H.base x hi
      have := ex i q hq
      rwa [e] at this)
    (fun i hi => by
      obtain ⟨⟨q, hq, e⟩, _⟩ := H.base y hi
      have := ey i q hq
      rwa [e] at this) M (Nat.le_refl _)
  have hB : Sm M (ad (bil Lf (fun i => dt (x i)) y) (bil Lf x (fun i => dt (y i)))) ze := by
    obtain ⟨_, q0, hq0, d0⟩ := H.base x (i := 0) (by omega)
    obtain ⟨_, q1, hq1, d1⟩ := H.base x (i := 1) (by omega)
    obtain ⟨_, p0, hp0, c0⟩ := H.base y (i := 0) (by omega)
    obtain ⟨_, p1, hp1, c1⟩ := H.base y (i := 1) (by omega)
    exact tan_form (F := fun i => dt (x i)) (G := fun i => dt (y i)) hl (fun i hi => (hag i hi).le (by omega)) ((ex _ q0 hq0).trans (d0 _)) ((ex _ q1 hq1).trans (d1 _)) ((ey _ p0 hp0).trans (c0 _)) ((ey _ p1 hp1).trans (c1 _))
  have hfl := flow_form (N := M) (L := Lf) (x := x) (y := y) (F := fun i => dt (x i)) (G := fun i => dt (y i)) (fun i => Sm.refl _) (fun i => Sm.refl _) hB (by omega)
  refine ⟨rX, rY, ?_⟩
  obtain ⟨a1, a2⟩ := sf_len rX rY (by omega) (by omega)
  obtain ⟨b1, b2⟩ := sf_len (row4_still (M := M) hu) (row4_still (M := M) hv) (by omega) (by omega)
  refine nums_ext a1 b1 a2 b2 (fun k hk => ?_)
  have c1 := sf_ser rX rY (by omega) (by omega) k hk
  have c2 := sf_ser (row4_still (M := M) hu) (row4_still (M := M) hv) (by omega) (by omega) k hk
  refine c1.trans (Eq.trans ?_ c2.symm)
  have e2 : ∀ i, i < 4 → se (colZ (exSt g.parts yu M 1) i) = x i := fun i hi => by rw [hx, vse_turn hi]
  have e3 : ∀ i, i < 4 → se (colZ (exSt g.parts yv M 1) i) = y i := fun i hi => by rw [hy, vse_turn hi]
  show resZ (cv (se (colZ _ 2)) (se (colZ _ 3)) k - cv (se (colZ _ 3)) (se (colZ _ 2)) k) = resZ (cv (se (colZ _ 2)) (se (colZ _ 3)) k - cv (se (colZ _ 3)) (se (colZ _ 2)) k)
  rw [e2 2 (by omega), e2 3 (by omega), e3 2 (by omega), e3 3 (by omega), col_still, col_still, col_still, col_still, cv_on, cv_on]
  cases k with
  | zero =>
    show resZ ((0 + x 2 0 * y 3 0) - (0 + x 3 0 * y 2 0)) = resZ (atZ yu 2 * on (atZ yv 3) 0 - atZ yu 3 * on (atZ yv 2) 0)
    rw [x0 2 (by omega), x0 3 (by omega), y0 2 (by omega), y0 3 (by omega)]
    simp [on]
  | succ k =>
    have h1 := hfl (k + 1) (by omega) (by omega)
    rw [bil_Lf] at h1
    rw [h1]
    show 0 = resZ (atZ yu 2 * on (atZ yv 3) (k + 1) - atZ yu 3 * on (atZ yv 2) (k + 1))
    simp [on, resZ]
end Go.Proofs.YtbcjhpgkodeoeaaGreatDoor

/- Rows brought to a reduced form: what stays true, and why equations with powers of different nodes have an answer. Plain: no program's step stands here. -/
namespace Go.Proofs.YtbcjhpgkodeoeaaGreatDoor

theorem nums_atZ {l : List Int} (h : Nums l) (k : Nat) : 0 ≤ atZ l k ∧ atZ l k ≤ 1000000270 := by
  unfold atZ
  by_cases hk : k < l.length
  · rw [List.getElem?_eq_getElem hk]; exact h _ (List.getElem_mem _)
  · rw [List.getElem?_eq_none (by omega)]; exact ⟨by simp, by simp⟩
def scaleR (row : List Int) (x : Int) : List Int := row.map fun a => timesZ a x
def elimR (row pr : List Int) (y : Int) : List Int := (List.range row.length).map fun j => minusZ (atZ row j) (timesZ y (atZ pr j))
/-- the rows below t, but for the row r, with the column k cleared -/
def elimA (m : List (List Int)) (r k : Nat) : Nat → List (List Int)
  | 0 => m
  | i + 1 => if i = r then elimA m r k i else (elimA m r k i).set i (elimR (atL (elimA m r k i) i) (atL (elimA m r k i) r) (atZ (atL (elimA m r k i) i) k))
def swapR (m : List (List Int)) (i r : Nat) : List (List Int) := (m.set i (atL m r)).set r (atL m i)
def scaleA (m : List (List Int)) (r k : Nat) : List (List Int) := m.set r (scaleR (atL m r) (powZ (atZ (atL m r) k) 1000000269))
def stepR (m : List (List Int)) (i r k : Nat) : List (List Int) := elimA (scaleA (swapR m i r) r k) r k m.length

theorem atL_set {m : List (List Int)} {i q : Nat} {x : List Int} (h : i < m.length) : atL (m.set i x) q = if q = i then x else atL m q := by
  unfold atL
  by_cases hq : q = i
  · subst hq; rw [List.getElem?_set_self h, if_pos rfl]; rfl
  · rw [List.getElem?_set_ne (fun h => hq h.symm), if_neg hq]
theorem elimA_len (m : List (List Int)) (r k t : Nat) : (elimA m r k t).length = m.length := by
  induction t with
  | zero => rfl
  | succ t ih => rw [elimA]; split; exact ih; rw [List.length_set, ih]
theorem elimA_at {m : List (List Int)} {r k : Nat} (q : Nat) : ∀ t, t ≤ m.length → atL (elimA m r k t) q = if q < t ∧ q ≠ r then elimR (atL m q) (atL m r) (atZ (atL m q) k) else atL m q
  | 0, _ => by rw [elimA, if_neg (by omega)]
  | t + 1, h => by
    have ih := fun q => elimA_at (m := m) (r := r) (k := k) q t (by omega)
    rw [elimA]
    by_cases ht : t = r
    · rw [if_pos ht, ih]
      by_cases hq : q < t ∧ q ≠ r
      · rw [if_pos hq, if_pos (by omega)]
      · rw [if_neg hq, if_neg (by omega)]
    · rw [if_neg ht, atL_set (by rw [elimA_len]; omega)]
      by_cases hq : q = t
      · subst hq
        rw [if_pos rfl, if_pos (by omega), ih, ih, if_neg (by omega), if_neg (by omega)]
      · rw [if_neg hq, ih]
        by_cases hq2 : q < t ∧ q ≠ r
        · rw [if_pos hq2, if_pos (by omega)]
        · rw [if_neg hq2, if_neg (by omega)]

def rowX (X : Nat → Int) (c : Nat) (row : List Int) : Int := sumZ (fun j => atZ row j * X j) (List.range c)
theorem scaleR_at (row : List Int) (x : Int) (j : Nat) : atZ (scaleR row x) j = timesZ (atZ row j) x := by
  unfold scaleR atZ
  rw [List.getElem?_map]
  cases row[j]? <;> simp [timesZ]
theorem elimR_at {row pr : List Int} {y : Int} {j : Nat} (h : j < row.length) : atZ (elimR row pr y) j = minusZ (atZ row j) (timesZ y (atZ pr j)) := by simp [elimR, atZ, h]
theorem scaleR_sol {X : Nat → Int} {c : Nat} {row : List Int} {x : Int} (h : resZ (rowX X c row) = 0) : resZ (rowX X c (scaleR row x)) = 0 := by
  have : resZ (rowX X c (scaleR row x)) = resZ (x * rowX X c row) := by
    unfold rowX
    rw [← sumZ_mul]
    refine res_sum fun j _ => ?_
    rw [scaleR_at, timesZ]
    unfold resZ
    rw [modl]
    congr 1
    grind
  rw [this, ← res_mul (a := resZ (rowX X c row)) (res_res _), h]
  simp [resZ]
theorem elimR_sol {X : Nat → Int} {c : Nat} {row pr : List Int} {y : Int} (hl : row.length = c) (h : resZ (rowX X c row) = 0) (hp : resZ (rowX X c pr) = 0) : resZ (rowX X c (elimR row pr y)) = 0 := by
  have : resZ (rowX X c (elimR row pr y)) = resZ (rowX X c row + (-y) * rowX X c pr) := by
    unfold rowX
    rw [← sumZ_mul, ← sumZ_add]
    refine res_sum fun j hj => ?_
    rw [elimR_at (by rw [hl]; simpa using hj), minusZ, timesZ]
    unfold resZ
    rw [modl, Int.sub_mul, Int.sub_emod, modl, ← Int.sub_emod]
    congr 1
    grind
  rw [this, res_add (b := 0) h (d := 0) (by rw [← res_mul (a := resZ (rowX X c pr)) (res_res _), hp]; simp [resZ])]
  rfl

/-- what a reduction keeps: a rows are done, k columns are looked at -/
structure RedInv (X : Nat → Int) (c k a : Nat) (m : List (List Int)) : Prop where
  row : ∀ i, i < m.length → (atL m i).length = c ∧ Nums (atL m i)
  sol : ∀ i, i < m.length → resZ (rowX X c (atL m i)) = 0
  zero : ∀ i, a ≤ i → i < m.length → ∀ j, j < k → atZ (atL m i) j = 0
theorem RedInv.skip {X : Nat → Int} {c k a : Nat} {m : List (List Int)} (h : RedInv X c k a m) (hz : ∀ i, a ≤ i → i < m.length → atZ (atL m i) k = 0) : RedInv X c (k + 1) a m :=
  ⟨h.row, h.sol, fun i h1 h2 j hj => by
    rcases (by omega : j < k ∨ j = k) with hj | rfl
    · exact h.zero i h1 h2 j hj
    · exact hz i h1 h2⟩
theorem swapR_at {m : List (List Int)} {i r : Nat} (hi : i < m.length) (hr : r < m.length) (q : Nat) : atL (swapR m i r) q = if q = r then atL m i else if q = i then atL m r else atL m q := by
  unfold swapR
  rw [atL_set (by simpa using hr), atL_set hi]
theorem swapR_len (m : List (List Int)) (i r : Nat) : (swapR m i r).length = m.length := by simp [swapR]
theorem RedInv.swap {X : Nat → Int} {c k a i : Nat} {m : List (List Int)} (h : RedInv X c k a m) (hi : i < m.length) (ha : a ≤ i) : RedInv X c k a (swapR m i a) := by
  have hal : a < m.length := by omega
  have hq : ∀ q, q < m.length → ∃ q', q' < m.length ∧ (a ≤ q → a ≤ q') ∧ atL (swapR m i a) q = atL m q' := fun q hq => by
    rw [swapR_at hi hal]
    by_cases h1 : q = a
    · exact ⟨i, hi, fun _ => ha, by rw [if_pos h1]⟩
    · rw [if_neg h1]
      by_cases h2 : q = i
      · exact ⟨a, hal, fun _ => Nat.le_refl _, by rw [if_pos h2]⟩
      · exact ⟨q, hq, id, by rw [if_neg h2]⟩
  refine ⟨fun q hq' => ?_, fun q hq' => ?_, fun q h1 h2 j hj => ?_⟩
  · obtain ⟨q', h1, _, h3⟩ := hq q (by rwa [swapR_len] at hq'); rw [h3]; exact h.row q' h1
  · obtain ⟨q', h1, _, h3⟩ := hq q (by rwa [swapR_len] at hq'); rw [h3]; exact h.sol q' h1
  · obtain ⟨q', g1, g2, g3⟩ := hq q (by rwa [swapR_len] at h2); rw [g3]; exact h.zero q' (g2 h1) g1 j hj
theorem nums_scale (row : List Int) (x : Int) : Nums (scaleR row x) := fun y hy => by
  obtain ⟨a, _, rfl⟩ := List.mem_map.1 hy
  exact timesZ_bd _ _
theorem nums_elim (row pr : List Int) (y : Int) : Nums (elimR row pr y) := fun z hz => by
  obtain ⟨a, _, rfl⟩ := List.mem_map.1 hz
  exact minusZ_bd _ _
theorem RedInv.scale {X : Nat → Int} {c k a : Nat} {m : List (List Int)} (h : RedInv X c k a m) (ha : a < m.length) : RedInv X c k a (scaleA m a k) := by
  have hl : (scaleA m a k).length = m.length := by simp [scaleA]
  have hq : ∀ q, atL (scaleA m a k) q = if q = a then scaleR (atL m a) (powZ (atZ (atL m a) k) 1000000269) else atL m q := fun q => atL_set ha
  refine ⟨fun q hq' => ?_, fun q hq' => ?_, fun q h1 h2 j hj => ?_⟩
  · rw [hq]
    split
    · exact ⟨by rw [scaleR, List.length_map]; exact (h.row a ha).1, nums_scale _ _⟩
    · exact h.row q (by omega)
  · rw [hq]
    split
    · exact scaleR_sol (h.sol a ha)
    · exact h.sol q (by omega)
  · rw [hq]
    split
    · rw [scaleR_at, h.zero a (Nat.le_refl _) ha j hj]; simp [timesZ]
    · exact h.zero q h1 (by omega) j hj
theorem scaleA_one {m : List (List Int)} {a k : Nat} (ha : a < m.length) (h : atZ (atL m a) k % 1000000271 ≠ 0) : atZ (atL (scaleA m a k) a) k = 1 := by
  rw [scaleA, atL_set ha, if_pos rfl, scaleR_at]
  exact inv_one h
theorem RedInv.elim {X : Nat → Int} {c k a : Nat} {m : List (List Int)} (h : RedInv X c k a m) (ha : a < m.length) (hk : k < c) (h1 : atZ (atL m a) k = 1) : RedInv X c (k + 1) (a + 1) (elimA m a k m.length) := by
  have hq := fun q => elimA_at (m := m) (r := a) (k := k) q m.length (Nat.le_refl _)
  refine ⟨fun q hq' => ?_, fun q hq' => ?_, fun q g1 g2 j hj => ?_⟩
  · rw [elimA_len] at hq'
    rw [hq]
    split
    · exact ⟨by simp [elimR, (h.row q hq').1], nums_elim _ _ _⟩
    · exact h.row q hq'
  · rw [elimA_len] at hq'
    rw [hq]
    split
    · exact elimR_sol (h.row q hq').1 (h.sol q hq') (h.sol a ha)
    · exact h.sol q hq'
  · rw [elimA_len] at g2
    have hlen := (h.row q g2).1
    rw [hq, if_pos (by omega), elimR_at (by omega)]
    rcases (by omega : j < k ∨ j = k) with hj | rfl
    · rw [h.zero q (by omega) g2 j hj, h.zero a (Nat.le_refl _) ha j hj]
      simp [minusZ, timesZ]
    · rw [h1]
      have hn : 0 ≤ atZ (atL m q) j ∧ atZ (atL m q) j ≤ 1000000270 := by
        have hx : (atL m q)[j]? = some (atL m q)[j] := List.getElem?_eq_getElem (by omega)
        rw [atZ_get hx]
        exact (h.row q g2).2 _ (List.getElem_mem _)
      unfold minusZ timesZ
      omega
/-- One column with a row that is not zero there. -/
theorem RedInv.step {X : Nat → Int} {c k a i : Nat} {m : List (List Int)} (h : RedInv X c k a m) (hi : i < m.length) (ha : a ≤ i) (hk : k < c) (hz : atZ (atL m i) k ≠ 0) : RedInv X c (k + 1) (a + 1) (stepR m i a k) ∧ (stepR m i a k).length = m.length := by
  have hal : a < m.length := by omega
  have h1 := h.swap hi ha
  have h2 := h1.scale (by rw [swapR_len]; exact hal)
  have hsl : (scaleA (swapR m i a) a k).length = m.length := by simp [scaleA, swapR_len]
  have hn := nums_atZ (h.row i hi).2 k
  have h3 : atZ (atL (scaleA (swapR m i a) a k) a) k = 1 := scaleA_one (by rw [swapR_len]; exact hal) (by
    rw [swapR_at hi hal, if_pos rfl]
    omega)
  refine ⟨?_, by rw [stepR, elimA_len, hsl]⟩
  have := h2.elim (by rw [hsl]; exact hal) hk h3
  rw [hsl] at this
  exact this
/-- A row that is done has nothing to say. -/
theorem RedInv.last {X : Nat → Int} {n a : Nat} {m : List (List Int)} (h : RedInv X (n + 1) n a m) (hX : X n = -1) {i : Nat} (ha : a ≤ i) (hi : i < m.length) : atZ (atL m i) n = 0 := by
  have h1 := h.sol i hi
  have h2 : rowX X (n + 1) (atL m i) = - atZ (atL m i) n := by
    unfold rowX
    rw [List.range_succ, sumZ_append, sumZ_cons, sumZ_nil, hX]
    have : sumZ (fun j => atZ (atL m i) j * X j) (List.range n) = sumZ (fun _ => 0) (List.range n) := sumZ_congr fun j hj => by rw [h.zero i ha hi j (by simpa using hj)]; simp
    rw [this, sumZ_zero]
    omega
  have hn := nums_atZ (h.row i hi).2 n
  rw [h2] at h1
  unfold resZ at h1
  omega

end Go.Proofs.YtbcjhpgkodeoeaaGreatDoor

/- The two systems of equations that the draws solve have an answer. Plain: no program's step stands here. -/
namespace Go.Proofs.YtbcjhpgkodeoeaaGreatDoor

/-- the rows with the right sides behind them -/
def augZ (rows : List (List Int)) (right : List Int) : List (List Int) := (List.range rows.length).map fun i => atL rows i ++ [atZ right i]
theorem augZ_at {rows : List (List Int)} {right : List Int} {i : Nat} (h : i < rows.length) : atL (augZ rows right) i = atL rows i ++ [atZ right i] := by simp [augZ, atL, h]
theorem augZ_len (rows : List (List Int)) (right : List Int) : (augZ rows right).length = rows.length := by simp [augZ]
def powR (cs : List Int) (k : Nat) : List Int := cs.map fun c => powZ c k
def powRows (cs : List Int) : List (List Int) := (List.range cs.length).map (powR cs)
end Go.Proofs.YtbcjhpgkodeoeaaGreatDoor
