/- The texts DLaw, Open, Shut, LawHel in one: each says at its head what it proves. Conditions: as said there. -/
import Derived.ProofKit
import Derived.OpenShut
import Derived.Deep.Slices
import Derived.Deep.Fields
import Derived.Lib.SmallJoins
import Derived.Test.YtbcjhpgkodeoeaaRows
import Derived.Test.YtbcjhpgkodeoeaaG50
import Derived.Test.YtbcjhpgkodeoeaaG01
import Derived.Test.YtbcjhpgkodeoeaaG02
set_option linter.unusedSimpArgs false
set_option linter.unusedVariables false
/- Laws of derivatives: two vectors in either order, a sum of vectors, the numbers along a line. Plain: no program's step stands here. -/
namespace Go.Proofs.Ytbcjhpgkodeoeaa
open Go.RowKit

/-- A polynomial's derivative along directions, as an integer. -/
def derE (Y : Nat → Int) (ds : List (Nat → Int)) (p : List MonZ) : Int := sumZ (fun m => m.coef * elE Y (facs m.pows m.pows.length) ds) p
theorem powOk_pos {m : MonZ} {n : Nat} (h : MonFine n m) : ∀ x ∈ m.pows, 0 ≤ x := fun x hx => (h.2.2.2 x hx).1
theorem dervP_res {p : List MonZ} {y : List (List Int)} {al : List (List (List Int))} {n : Nat} (hy : J1 y) (h1 : hdL y = 1) (hyn : y.length = n) (ha : ∀ a ∈ al, J1 a ∧ a.length = n) (hm : ∀ m ∈ p, MonFine n m) :
    ∀ k, k ≤ p.length → dervP p y al k = [resZ (derE (val y) (al.map val) (p.take k))]
  | 0, _ => by rw [dervP, h1]; rfl
  | k + 1, hk => by
    have hx : p[k]? = some p[k] := List.getElem?_eq_getElem (by omega)
    have hf := hm p[k] (List.getElem_mem _)
    rw [dervP, hx, take_snoc hx, derE, sumZ_append, sumZ_cons, sumZ_nil, Int.add_zero]
    simp only [Option.getD_some]
    rw [add_res _ (dervP_res hy h1 hyn ha hm k (by omega)) (oneL_one hy h1 al p[k].pows (fun v hv => ⟨(ha v hv).1, by rw [(ha v hv).2, hf.2.1]; exact Nat.le_refl _⟩) (by rw [hyn, hf.2.1]; exact Nat.le_refl _) (powOk_pos hf)), derE, Int.mul_comm p[k].coef]
theorem dervL_res {p : List MonZ} {y : List (List Int)} {al : List (List (List Int))} {n : Nat} (hy : J1 y) (h1 : hdL y = 1) (hyn : y.length = n) (ha : ∀ a ∈ al, J1 a ∧ a.length = n) (hm : ∀ m ∈ p, MonFine n m) :
    dervL p y al = [resZ (derE (val y) (al.map val) p)] := by rw [dervL, dervP_res hy h1 hyn ha hm _ (Nat.le_refl _), List.take_length]
theorem val_turn {u : List Int} {n : Nat} (h : u.length = n) : val (turnZ [u] n) = atZ u := by
  funext i
  unfold val hd
  by_cases hi : i < n
  · rw [turn_at hi]; simp [colZ, atZ]
  · have h1 : atL (turnZ [u] n) i = [] := by unfold atL; rw [List.getElem?_eq_none (by rw [turnZ_len]; omega)]; rfl
    rw [h1]
    unfold atZ
    rw [List.getElem?_eq_none (by omega : u.length ≤ i)]
    rfl

/-- a field, a point and vectors for it -/
structure DerOk (f : FldZ) (n : Nat) : Prop where
  ok : fldOkB f = true
  dim : f.dim = n
  len : f.parts.length = n
  pos : 1 ≤ n
  six : n ≤ 6
  mons : ∀ p ∈ f.parts, ∀ m ∈ p, MonFine n m
theorem derOk_of {f : FldZ} (h : fldOkB f = true) : ∃ n, DerOk f n := by
  obtain ⟨n, h1, h2, h3, h4, h5⟩ := fldOk_facts h
  exact ⟨n, h, h1, h2, h3, h4, fun p hp m hm => (h5 p hp).2 m hm⟩
def VecOk (n : Nat) (u : List Int) : Prop := u.length = n ∧ Nums u
theorem vecOk_row {n : Nat} {u : List Int} (h : VecOk n u) : rowOkB (n : Int) u = true := by
  simp only [rowOkB, h.1, decide_true, Bool.true_and, List.all_eq_true]
  intro x hx
  have := h.2 x hx
  simp [isNumB]
  omega
theorem derAt_val {f : FldZ} {n : Nat} (hf : DerOk f n) {y : List Int} (hy : VecOk n y) {vs : List (List Int)} (hv : ∀ v ∈ vs, VecOk n v) (h6 : vs.length ≤ 6) :
    derAtL f y vs = f.parts.map fun p => resZ (derE (atZ y) (vs.map atZ) p) := by
  have hp : ∀ u : List Int, VecOk n u → pathOkB [u] (n : Int) = true := fun u hu => by simp [pathOkB, vecOk_row hu]
  have hok : daOkB f y vs = true := by
    simp only [daOkB, fpOkB, hf.ok, hf.dim, hp y hy, Bool.true_and, decide_eq_true h6, List.all_eq_true]
    exact fun v hv' => hp v (hv v hv')
  have hn : f.dim.toNat = n := by rw [hf.dim]; simp
  rw [derAtL, if_pos hok, hn]
  unfold colZ fldE
  rw [List.map_map]
  refine List.map_congr_left fun p hpp => ?_
  have hval : (dirsL vs n).map val = vs.map atZ := by
    rw [dirsL, List.map_map]
    exact List.map_congr_left fun v hv' => val_turn (hv v hv').1
  simp only [Function.comp_def]
  rw [dervL_res (n := n) turn_J1 (by rw [hdL_turn hf.pos]; rfl) (turnZ_len _ _) (fun a ha => by
    simp only [dirsL, List.mem_map] at ha
    obtain ⟨v, _, rfl⟩ := ha
    exact ⟨turn_J1, turnZ_len _ _⟩) (hf.mons p hpp), hval, val_turn hy.1]
  rfl
theorem derAt_len {f : FldZ} {n : Nat} (hf : DerOk f n) {y : List Int} (hy : VecOk n y) {vs : List (List Int)} (hv : ∀ v ∈ vs, VecOk n v) (h6 : vs.length ≤ 6) : VecOk n (derAtL f y vs) := by
  rw [derAt_val hf hy hv h6]
  refine ⟨by rw [List.length_map, hf.len], fun x hx => ?_⟩
  obtain ⟨p, _, rfl⟩ := List.mem_map.1 hx
  unfold resZ
  omega
/-- The order of two vectors does not matter. -/
theorem derAt_swap {f : FldZ} {n : Nat} (hf : DerOk f n) {y u v : List Int} (hy : VecOk n y) (hu : VecOk n u) (hv : VecOk n v) : derAtL f y [u, v] = derAtL f y [v, u] := by
  rw [derAt_val hf hy (by intro x hx; simp at hx; rcases hx with rfl | rfl <;> assumption) (by simp), derAt_val hf hy (by intro x hx; simp at hx; rcases hx with rfl | rfl <;> assumption) (by simp)]
  refine List.map_congr_left fun p _ => ?_
  congr 1
  unfold derE
  congr 1
  funext m
  rw [List.map_cons, List.map_cons, List.map_nil, elE_rev2]
  rfl
theorem elE_sum {Y a b w : Nat → Int} (hw : ∀ i, resZ (w i) = resZ (a i + b i)) (fs : List Nat) (ds : List (Nat → Int)) : resZ (elE Y fs (w :: ds)) = resZ (elE Y fs (a :: ds) + elE Y fs (b :: ds)) := by
  rw [elE_dir, elE_dir, elE_dir, ← sumZ_add]
  refine res_sum fun q _ => ?_
  rw [res_mul2 (hw q.1) rfl, Int.add_mul]
theorem derE_sum {Y a b w : Nat → Int} (hw : ∀ i, resZ (w i) = resZ (a i + b i)) (ds : List (Nat → Int)) (p : List MonZ) : resZ (derE Y (w :: ds) p) = resZ (derE Y (a :: ds) p + derE Y (b :: ds) p) := by
  unfold derE
  rw [← sumZ_add]
  refine res_sum fun m _ => ?_
  rw [res_mul (elE_sum hw _ ds), Int.mul_add]
/-- The sum of two vectors. -/
def sumV (n : Nat) (u v : List Int) : List Int := (List.range n).map fun i => plusZ (atZ u i) (atZ v i)
theorem sumV_ok {n : Nat} (u v : List Int) : VecOk n (sumV n u v) := ⟨by simp [sumV], fun x hx => by
  simp only [sumV, List.mem_map] at hx
  obtain ⟨i, _, rfl⟩ := hx
  exact plusZ_bd _ _⟩
theorem atZ_out {u : List Int} {i : Nat} (h : u.length ≤ i) : atZ u i = 0 := by unfold atZ; rw [List.getElem?_eq_none h]; rfl
theorem sumV_at {n : Nat} {u v : List Int} (hu : u.length = n) (hv : v.length = n) (i : Nat) : resZ (atZ (sumV n u v) i) = resZ (atZ u i + atZ v i) := by
  by_cases hi : i < n
  · simp [sumV, atZ, hi, plusZ, resZ]
  · rw [atZ_out (by simp [sumV]; omega), atZ_out (by omega), atZ_out (by omega)]; rfl
theorem atZ_map {α : Type} {g : α → Int} {l : List α} {i : Nat} (h : i < l.length) : atZ (l.map g) i = g l[i] := by simp [atZ, h]
theorem derAt_sum {f : FldZ} {n : Nat} (hf : DerOk f n) {y u v s : List Int} (hy : VecOk n y) (hu : VecOk n u) (hv : VecOk n v) (hs : VecOk n s) {i : Nat} (hi : i < n) :
    atZ (derAtL f y [sumV n u v, s]) i = plusZ (atZ (derAtL f y [u, s]) i) (atZ (derAtL f y [v, s]) i) := by
  rw [derAt_val hf hy (by intro x hx; simp at hx; rcases hx with rfl | rfl; exact sumV_ok _ _; exact hs) (by simp), derAt_val hf hy (by intro x hx; simp at hx; rcases hx with rfl | rfl <;> assumption) (by simp), derAt_val hf hy (by intro x hx; simp at hx; rcases hx with rfl | rfl <;> assumption) (by simp)]
  have hl : i < f.parts.length := by rw [hf.len]; exact hi
  rw [atZ_map hl, atZ_map hl, atZ_map hl]
  simp only [List.map_cons, List.map_nil]
  rw [derE_sum (sumV_at hu.1 hv.1)]
  simp only [plusZ, resZ, Int.add_emod_emod, Int.emod_add_emod]

-- the numbers along a line
theorem mul3 (a0 a1 a2 b0 b1 : Int) : mulZ [resZ a0, resZ a1, resZ a2] [b0, b1, 0] = [resZ (b0 * a0), resZ (b0 * a1 + b1 * a0), resZ (b0 * a2 + b1 * a1)] := by
  simp only [mulZ, mulCol, mulRow, atZ, plusZ, timesZ, resZ, List.length_cons, List.length_nil, List.replicate, List.set, List.getElem?_cons_zero, List.getElem?_cons_succ, Option.getD_some, Nat.zero_add, Nat.reduceAdd, Nat.reduceSub, modl, Int.add_emod_emod, Int.emod_add_emod, Int.emod_emod, Int.zero_add, Int.mul_zero, Int.zero_emod, Int.add_zero]
  grind
theorem add3 (a0 a1 a2 b0 b1 b2 k : Int) : addJ [resZ a0, resZ a1, resZ a2] [resZ b0, resZ b1, resZ b2] k = [resZ (a0 + b0 * k), resZ (a1 + b1 * k), resZ (a2 + b2 * k)] := by
  simp [addJ, atZ, plusZ, timesZ, resZ, List.range_succ, modl, Int.add_emod_emod, Int.emod_add_emod]
  refine ⟨?_, ?_, ?_⟩ <;> rw [Int.add_emod, modl, ← Int.add_emod]
theorem powN_three {Y U : Nat → Int} {v : Nat} {y : List Int} (hy : y = [Y v, U v, 0]) {a : List Int} {fs : List Nat} (ha : ∃ c, a = [resZ (elE Y fs []), resZ (elE Y fs [U]), resZ c] ∧ 2 * c = elE Y fs [U, U]) :
    ∀ k, ∃ c, powN y a k = [resZ (elE Y (List.replicate k v ++ fs) []), resZ (elE Y (List.replicate k v ++ fs) [U]), resZ c] ∧ 2 * c = elE Y (List.replicate k v ++ fs) [U, U]
  | 0 => ha
  | k + 1 => by
    obtain ⟨c, h1, h2⟩ := powN_three hy ha k
    rw [powN, h1, hy, mul3, List.replicate_succ, List.cons_append, elE_nil]
    refine ⟨Y v * c + U v * elE Y (List.replicate k v ++ fs) [U], ?_, ?_⟩
    · rw [elE_cons]; simp [picks, sumZ]
    · rw [elE_cons]; simp [picks, sumZ]; grind
theorem powV_three {Y U : Nat → Int} {y : List (List Int)} {ps : List Int} (hy : ∀ v, v < y.length → atL y v = [Y v, U v, 0]) :
    ∀ v, v ≤ y.length → ∃ c, powV y ps [1, 0, 0] v = [resZ (elE Y (facs ps v) []), resZ (elE Y (facs ps v) [U]), resZ c] ∧ 2 * c = elE Y (facs ps v) [U, U]
  | 0, _ => ⟨0, rfl, rfl⟩
  | v + 1, h => by
    rw [powV, facs]
    exact powN_three (hy v (by omega)) (powV_three hy v (by omega)) _
theorem dervP_three {Y U : Nat → Int} {p : List MonZ} {y : List (List Int)} {n : Nat} (hy : ∀ v, v < y.length → atL y v = [Y v, U v, 0]) (h3 : hdL y = 3) (hyn : y.length = n) (hm : ∀ m ∈ p, MonFine n m) :
    ∀ k, k ≤ p.length → ∃ c, dervP p y [] k = [resZ (derE Y [] (p.take k)), resZ (derE Y [U] (p.take k)), resZ c] ∧ 2 * c = derE Y [U, U] (p.take k)
  | 0, _ => ⟨0, by rw [dervP, h3]; rfl, rfl⟩
  | k + 1, hk => by
    have hx : p[k]? = some p[k] := List.getElem?_eq_getElem (by omega)
    have hf := hm p[k] (List.getElem_mem _)
    obtain ⟨c, h1, h2⟩ := dervP_three hy h3 hyn hm k (by omega)
    obtain ⟨d, g1, g2⟩ := powV_three (ps := p[k].pows) hy p[k].pows.length (by rw [hf.2.1, hyn]; exact Nat.le_refl _)
    rw [dervP, hx, take_snoc hx, h1]
    simp only [Option.getD_some]
    rw [oneL, h3, show oneAt 1 3 = [1, 0, 0] from rfl, g1, add3]
    refine ⟨c + d * p[k].coef, ?_, ?_⟩
    · unfold derE
      rw [sumZ_append, sumZ_append, sumZ_cons, sumZ_cons, sumZ_nil, sumZ_nil, Int.add_zero, Int.add_zero, Int.mul_comm p[k].coef, Int.mul_comm p[k].coef]
    · unfold derE at h2 ⊢
      rw [sumZ_append, sumZ_cons, sumZ_nil]
      grind
theorem map_pick {α : Type} {g0 g1 : α → Int} {g : α → List Int} {Q : α → Int → Prop} : ∀ (l : List α), (∀ p ∈ l, ∃ c, g p = [g0 p, g1 p, c] ∧ Q p c) → ∃ C : List Int, C.length = l.length ∧ colZ (l.map g) 0 = l.map g0 ∧ colZ (l.map g) 1 = l.map g1 ∧ colZ (l.map g) 2 = C ∧ ∀ i (h : i < l.length), Q l[i] (atZ C i)
  | [], _ => ⟨[], rfl, rfl, rfl, rfl, fun i h => by simp at h⟩
  | p :: l, h => by
    obtain ⟨c, h1, h2⟩ := h p (by simp)
    obtain ⟨C, i1, i2, i3, i4, i5⟩ := map_pick l (fun q hq => h q (by simp [hq]))
    refine ⟨c :: C, by simp [i1], ?_, ?_, ?_, ?_⟩
    · show (g p)[0]?.getD 0 :: colZ (l.map g) 0 = g0 p :: l.map g0
      rw [h1, i2]; rfl
    · show (g p)[1]?.getD 0 :: colZ (l.map g) 1 = g1 p :: l.map g1
      rw [h1, i3]; rfl
    · show (g p)[2]?.getD 0 :: colZ (l.map g) 2 = c :: C
      rw [h1, i4]; rfl
    · intro i hi
      cases i with
      | zero => simpa [atZ] using h2
      | succ i => simpa [atZ] using i5 i (by simpa using hi)
/-- Along a line: the value, the derivative, half the second derivative. -/
theorem value_three {f : FldZ} {n : Nat} (hf : DerOk f n) {y u z : List Int} (hy : VecOk n y) (hu : VecOk n u) (hz : z = List.replicate n 0) :
    ∃ C, valueL f [y, u, z] = [derAtL f y [], derAtL f y [u], C] ∧ VecOk n C ∧ ∀ i, i < n → timesZ 2 (atZ C i) = atZ (derAtL f y [u, u]) i := by
  have hzv : VecOk n z := hz ▸ ⟨by simp, nums_zero n⟩
  have hok : fpOkB f [y, u, z] = true := by simp [fpOkB, hf.ok, hf.dim, pathOkB, vecOk_row hy, vecOk_row hu, vecOk_row hzv]
  have hn : f.dim.toNat = n := by rw [hf.dim]; simp
  have hrow : ∀ v, v < (turnZ [y, u, z] n).length → atL (turnZ [y, u, z] n) v = [atZ y v, atZ u v, 0] := fun v hv => by
    rw [turnZ_len] at hv
    rw [turn_at hv]
    simp [colZ, atZ, hz, hv]
  obtain ⟨C, c1, c2, c3, c4, c5⟩ := map_pick (g := fun p => dervL p (turnZ [y, u, z] n) []) (g0 := fun p => resZ (derE (atZ y) [] p)) (g1 := fun p => resZ (derE (atZ y) [atZ u] p))
    (Q := fun p c => (0 ≤ c ∧ c ≤ 1000000270) ∧ timesZ 2 c = resZ (derE (atZ y) [atZ u, atZ u] p)) f.parts (fun p hp => by
      obtain ⟨c, h1, h2⟩ := dervP_three hrow (by rw [hdL_turn hf.pos]; rfl) (turnZ_len _ _) (hf.mons p hp) p.length (Nat.le_refl _)
      rw [List.take_length] at h1 h2
      refine ⟨resZ c, h1, ⟨by unfold resZ; omega, by unfold resZ; omega⟩, ?_⟩
      rw [← h2]
      unfold timesZ resZ
      omega)
  refine ⟨C, ?_, ⟨by rw [c1, hf.len], fun x hx => ?_⟩, fun i hi => ?_⟩
  · rw [valueL, if_pos hok, hn]
    rw [derAt_val hf hy (by simp) (by simp), derAt_val hf hy (by simpa using hu) (by simp)]
    show turnZ _ 3 = _
    unfold turnZ fldE
    simp only [List.range_succ, List.range_zero, List.nil_append, List.map_append, List.map_cons, List.map_nil, List.cons_append]
    rw [← c2, ← c3, ← c4]
    rfl
  · obtain ⟨i, hi, rfl⟩ := List.getElem_of_mem hx
    have := (c5 i (by omega)).1
    simpa [atZ, hi] using this
  · have hl : i < f.parts.length := by rw [hf.len]; exact hi
    rw [derAt_val hf hy (by intro x hx; simp at hx; rcases hx with rfl | rfl <;> assumption) (by simp), atZ_map hl]
    exact (c5 i hl).2
end Go.Proofs.Ytbcjhpgkodeoeaa

/- From the form's readings of arguments to the readings of these proofs, over any program. Conditions: none. -/
namespace Go.Proofs.Ytbcjhpgkodeoeaa
open Go.ChangeShapes Go.WideShapes Go.ChangeAt Go.RowKit Go.Deep Go.Joins

theorem add_eq (b o j : Nat) : (⟨b, o, none⟩ : Addr).add j = ⟨b, o + j, none⟩ := by
  by_cases h : j = 0 <;> simp [Addr.add, h]

section
variable {H : Type} {enc : TypeId × Value → H} {P : Program} {w : World} {base : Nat} {held : Bool}

theorem rdS_of_trod {α : Type} [Inhabited α] {size : Nat} {El : World → List Value → α → Prop} {t e : TypeId} {fuel : Nat} {cs : List Value} {x : DataW H × List MemPlace}
    (ht : P.underlying t = some (.slice e)) (hC : P.cellsOf e = size) (hs : 0 < size)
    (hel : ∀ n cs' y, DataW.trod enc P w base (fun _ => true) held n e cs' = some y → ∃ x : α, El w cs' x)
    (h : DataW.trod enc P w base (fun _ => true) held fuel t cs = some x) : ∃ v xs, cs = [v] ∧ RdS size El w v xs := by
  rcases open_slice ht h with ⟨h0, _⟩ | ⟨a, len, cap, m, n, D, Pl, hcs, hb, hl, hm, hmm, hx, hi⟩
  · exact ⟨_, [], h0, none, 0, rfl, Nat.le_refl _, by omega, fun hp => by simp at hp⟩
  · simp only [if_true] at hmm
    subst hmm
    rw [hC] at hi
    have each : ∀ i, i < len → ∃ y : List Value × α, y.1.length = size ∧ (∀ j, j < size → w.cell? ((a.add (i * size)).add j) = y.1[j]?) ∧ El w y.1 y.2 := by
      intro i hil
      obtain ⟨cs', hc, ht'⟩ := hi i (by omega)
      obtain ⟨_, hcl, hat⟩ := World.cells?_some hc
      obtain ⟨x, hx⟩ := hel _ _ _ ht'
      exact ⟨(cs', x), hcl, fun j hj => hat j hj, hx⟩
    obtain ⟨f, hf⟩ := choose_lt each
    refine ⟨_, (List.range len).map fun i => (f i).2, hcs, _, m, by rw [List.length_map, List.length_range], by simpa using hl, by unfold maxLen at hm; simpa using hm, fun hp => ?_⟩
    simp at hp
    obtain ⟨b, off, spot⟩ := a
    have hc0 := (hf 0 hp).2.1 0 hs
    have h1 := (hf 0 hp).1
    rw [List.getElem?_eq_getElem (by omega)] at hc0
    have hspot : spot = none := by simpa [Addr.add] using World.cell?_spot hc0
    subst hspot
    refine ⟨b, off, rfl, fun i x hx => ?_⟩
    simp only [List.getElem?_map, Option.map_eq_some_iff] at hx
    obtain ⟨i', hi', rfl⟩ := hx
    obtain ⟨hil, rfl⟩ := List.getElem?_eq_some_iff.1 hi'
    simp only [List.length_range] at hil
    simp only [List.getElem_range]
    obtain ⟨h2, h3, h4⟩ := hf i hil
    refine ⟨_, h2, fun j u hj => ?_, h4⟩
    have := h3 j (by have := (List.getElem?_eq_some_iff.1 hj).1; omega)
    rw [hj] at this
    rwa [add_eq, add_eq] at this

theorem elI_of_trod {e : TypeId} (he : P.underlying e = some (.int .i64)) {spare : Nat → Bool} (n : Nat) (cs : List Value) (y : DataW H × List MemPlace)
    (h : DataW.trod enc P w base spare held n e cs = some y) : ∃ x : Int, ElI w cs x := by
  obtain ⟨x, rfl, _, hw⟩ := DataW.trod_int he h
  exact ⟨x, rfl, bounds_i64 hw⟩

theorem elII_of_trod {t e : TypeId} (ht : P.underlying t = some (.slice e)) (he : P.underlying e = some (.int .i64)) (hC : P.cellsOf e = 1) (n : Nat) (cs : List Value) (y : DataW H × List MemPlace)
    (h : DataW.trod enc P w base (fun _ => true) held n t cs = some y) : ∃ x : List Int, ElII w cs x := by
  obtain ⟨v, xs, rfl, hx⟩ := rdS_of_trod ht hC (by omega) (elI_of_trod he) h
  exact ⟨xs, v, rfl, hx⟩

/-- An argument that is a slice. -/
theorem rdS_of_arg {α : Type} [Inhabited α] {size : Nat} {El : World → List Value → α → Prop} {t e : TypeId} {v : Value} {d : DataW H} {p : List MemPlace} {r : Reach} {b0 : Nat}
    (ht : P.underlying t = some (.slice e)) (hC : P.cellsOf e = size) (hs : 0 < size)
    (hel : ∀ n cs' y, DataW.trod enc P w base (fun _ => true) held n e cs' = some y → ∃ x : α, El w cs' x)
    (hval : Value.okWide P w r b0 t v) (h : DataW.Trod enc P w base (fun _ => true) held t v d p) : ∃ xs, RdS size El w v xs := by
  obtain ⟨a0, len, cap, rfl⟩ := okWide_slice ht hval
  obtain ⟨fuel, hf⟩ := h
  obtain ⟨v, xs, hcs, h⟩ := rdS_of_trod ht hC hs hel hf
  simp [Value.cells] at hcs
  subst hcs
  exact ⟨xs, h⟩

theorem int_of_arg {t : TypeId} {v : Value} {d : DataW H} {p : List MemPlace} {r : Reach} {b0 : Nat} {spare : Nat → Bool}
    (ht : P.underlying t = some (.int .i64)) (hval : Value.okWide P w r b0 t v) (h : DataW.Trod enc P w base spare held t v d p) : ∃ n : Int, v = .int .i64 n ∧ I64 n := by
  obtain ⟨n, rfl, rfl, rfl, hw⟩ := open_int ht hval h
  exact ⟨n, rfl, bounds_i64 hw⟩
end
end Go.Proofs.Ytbcjhpgkodeoeaa

/- Closed facts on the program that every row's step wants. Conditions: none. -/
namespace Go.Proofs.Ytbcjhpgkodeoeaa
theorem Try.own : ownKnob Try.prog.godebug = none := by kernel_rfl
theorem Try.laidOut : laidOutB Try.prog = true := by kernel_rfl
theorem Try.cells_int : Try.prog.cellsOf 3 = 1 := by kernel_rfl
theorem Try.cells_ints : Try.prog.cellsOf 24 = 1 := by kernel_rfl
end Go.Proofs.Ytbcjhpgkodeoeaa

/- The laws' own helpers: the size of an argument, shapes, comparisons. Conditions: none. -/
namespace Go.Proofs.Ytbcjhpgkodeoeaa
open Go.ChangeShapes Go.WideShapes Go.ChangeAt Go.RowKit Go.Deep Go.Joins

theorem Try.cells_byte : Try.prog.cellsOf 5 = 1 := by kernel_rfl
theorem elB_of_trod {H : Type} {enc : TypeId × Value → H} {P : Program} {w : World} {base : Nat} {held : Bool} {e : TypeId} (he : P.underlying e = some (.int .u8)) {spare : Nat → Bool} (n : Nat) (cs : List Value) (y : DataW H × List MemPlace)
    (h : DataW.trod enc P w base spare held n e cs = some y) : ∃ x : Int, ElB w cs x := by
  obtain ⟨x, rfl, _, hw⟩ := DataW.trod_int he h
  have := bounds_u8 hw
  exact ⟨x, rfl, this.1, by omega⟩
theorem big_any (ad : Option Addr) (len cap : Nat) (w : World) : Calls Try.prog 4 #[.slice ad len cap] w fun e w' => e = .returned (.bool (decide ((1048576 : Int) < len))) ∧ w = w' := by
  go_enter Try.func4, Try.ntmps4
  go_wp2
  go_ret
  exact ⟨rfl, rfl⟩
set_option maxHeartbeats 800000 in
theorem shaped_any (vp : Value) (xs : List (List Int)) (d n : Nat) (dz nz : Int) (w : World) (h : RdII w vp xs) (hd : dz = d) (hn : nz = n) (hl : xs.length = n) (hx : ∀ x ∈ xs, x.length = d) :
    Calls Try.prog 9 #[vp, .int .i64 nz, .int .i64 dz] w fun e w' => e = .returned (.bool true) ∧ w = w' := by
  obtain ⟨ad, len, cap, rfl, hlen, hlc, hcm, h'⟩ := rdS_open h
  have HE := Lib.hid (show (len : Int) = nz from by omega)
  have HD := Lib.hid hd
  have HX := Lib.hid hx
  clear h hd hn hl hx hlen
  go_enter Try.func9, Try.ntmps9
  go_wp2
  go_loopw [7] (fun i wr => ∃ k : Nat, k ≤ len ∧ i = .int .i64 k ∧ wr = w) (fun i _ => len - (intOf i).toNat)
  case atStart => exact ⟨0, Nat.zero_le _, rfl, rfl⟩
  case round =>
    obtain ⟨k, hk, rfl, rfl⟩ := hrel
    by_cases hlt : k < len
    · obtain ⟨b, off, ad', len', cap', x, rfl, hx, hc, hl', _, _, _, _⟩ := rdII_get h' hlt
      have hb : ((len' : Int) != dz) = false := by
        have h1 := HX.out x (List.mem_of_getElem? hx)
        have h2 := HD.out
        simp
        omega
      clear hx hl'
      go_wp2
      go_roundw
      case rel => exact ⟨k + 1, by omega, by go_num, trivial⟩
      case measure => simp [intOf]; omega
    · have hb : ((len : Int) == nz) = true := by simpa using HE.out
      go_wp2
      go_ret
      exact ⟨rfl, rfl⟩
set_option maxHeartbeats 800000 in
theorem ints_same (va vb : Value) (xs : List Int) (w : World) (ha : RdI w va xs) (hb : RdI w vb xs) : Calls Try.prog 10 #[va, vb] w (Qt (.bool true) w) := by
  obtain ⟨ad, len, cap, rfl, hl, hlc, hcm, h'⟩ := rdS_open ha
  obtain ⟨ad2, len2, cap2, rfl, hl2, hlc2, hcm2, h2'⟩ := rdS_open hb
  have hll : len = len2 := by omega
  subst hll
  clear ha hb hl hl2
  go_enter Try.func10, Try.ntmps10
  go_wp2
  go_loopw [5] (fun i wr => ∃ k : Nat, k ≤ len ∧ i = .int .i64 k ∧ ∃ m, wr = w.drewN m) (fun i _ => len - (intOf i).toNat)
  case atStart => exact ⟨0, Nat.zero_le _, rfl, 0, rfl⟩
  case round =>
    obtain ⟨k, hk, rfl, m, hwr⟩ := hrel
    have h'r := rdI_drewN m h'
    have h2'r := rdI_drewN m h2'
    rw [← hwr] at h'r h2'r
    have HW := Lib.hid hwr
    clear hwr
    by_cases hlt : k < len
    · obtain ⟨b, off, x, rfl, hx, hc, hI, _⟩ := rdI_get h'r hlt
      obtain ⟨b2, off2, y, rfl, hy, hc2, hI2, _⟩ := rdI_get h2'r hlt
      rw [hx] at hy
      obtain rfl := Option.some.inj hy
      clear hx hy
      go_wp2
      go_quiet (fail)
      go_wp2
      go_roundw
      case rel => exact ⟨k + 1, by omega, by go_num, _, by rw [HW.out, World.drewN_drewN]⟩
      case measure => simp [intOf]; omega
    · go_wp2
      go_ret
      exact ⟨rfl, m, HW.out⟩
end Go.Proofs.Ytbcjhpgkodeoeaa
