/- The texts TanP, Scal, Rep, SHam, HamF in one: each says at its head what it proves. Conditions: as said there. -/
import Derived.Deep.RegionLaw
import Derived.Test.YtbcjhpgkodeoeaaGreatDoorK25
import Derived.Test.YtbcjhpgkodeoeaaGreatDoorK24
import Derived.Test.YtbcjhpgkodeoeaaGreatDoorK03
set_option linter.unusedSimpArgs false
set_option linter.unusedVariables false
/- The tangents' field, in plain lists. Conditions: none. -/
namespace Go.Proofs.YtbcjhpgkodeoeaaGreatDoor
open Go.RowKit Go.Sort

/-- Powers in n variables more, times the variable v if it is one. -/
def wideP (n : Nat) (v : Int) (ps : List Int) : List Int :=
  if 0 ≤ v then (ps ++ List.replicate n 0).set v.toNat (atZ (ps ++ List.replicate n 0) v.toNat + 1) else ps ++ List.replicate n 0
def wideM (n : Nat) (v : Int) (m : MonZ) : MonZ := ⟨m.coef, wideP n v m.pows⟩
def wideL (n : Nat) (v : Int) (p : List MonZ) : List MonZ := p.map (wideM n v)
theorem wideL_next {n : Nat} {v : Int} {p : List MonZ} {k : Nat} {m : MonZ} (h : p[k]? = some m) : wideL n v (p.take (k + 1)) = wideL n v (p.take k) ++ [wideM n v m] := by
  rw [take_snoc h, wideL, List.map_append]; rfl
theorem wideL_len (n : Nat) (v : Int) (p : List MonZ) : (wideL n v p).length = p.length := List.length_map _
theorem wideP_len (n : Nat) (v : Int) (ps : List Int) : (wideP n v ps).length = ps.length + n := by
  unfold wideP
  split
  · rw [List.length_set, List.length_append, List.length_replicate]
  · rw [List.length_append, List.length_replicate]
theorem wideP_neg {n : Nat} {v : Int} (ps : List Int) (h : v < 0) : wideP n v ps = ps ++ List.replicate n 0 := by rw [wideP, if_neg (by omega)]
theorem wideP_pos {n : Nat} {v : Int} (ps : List Int) (h : 0 ≤ v) {x : Int} (hx : (ps ++ List.replicate n 0)[v.toNat]? = some x) : wideP n v ps = (ps ++ List.replicate n 0).set v.toNat (x + 1) := by
  rw [wideP, if_pos h, atZ_get hx]
/-- A monomial whose powers are not great. -/
def MonLow (n : Nat) (m : MonZ) : Prop := (0 ≤ m.coef ∧ m.coef ≤ 1000000270) ∧ m.pows.length = n ∧ ∀ x ∈ m.pows, 0 ≤ x ∧ x ≤ 6
theorem low_fine {n : Nat} {p : List MonZ} (hp : ∀ m ∈ p, MonFine n m) : ∀ m ∈ p, MonLow n m := fun m hm => by
  obtain ⟨h1, h2, _, h4⟩ := hp m hm
  exact ⟨h1, h2, fun x hx => by have := h4 x hx; omega⟩
theorem low_part {v n : Nat} {p : List MonZ} (hp : ∀ m ∈ p, MonFine n m) : ∀ m ∈ partL v 1 p, MonLow n m := fun m hm => by
  obtain ⟨_, h2, h3⟩ := partL_small hp m hm
  refine ⟨?_, h2, fun x hx => by have := h3 x hx; omega⟩
  obtain ⟨m0, _, he⟩ := List.mem_filterMap.1 hm
  unfold partM at he
  split at he
  · injection he with he
    rw [← he]
    exact timesZ_bd _ _
  · cases he
theorem wide_nums {n N : Nat} {v : Int} {p : List MonZ} (hp : ∀ m ∈ p, MonLow n m) : NumsM (wideL N v p) := fun m hm => by
  obtain ⟨a, ha, rfl⟩ := List.mem_map.1 hm
  exact (hp a ha).1
theorem wide_pows {n N : Nat} {v : Int} {p : List MonZ} (hp : ∀ m ∈ p, MonLow n m) : ∀ m ∈ wideL N v p, m.pows.length = n + N := fun m hm => by
  obtain ⟨a, ha, rfl⟩ := List.mem_map.1 hm
  show (wideP N v a.pows).length = _
  rw [wideP_len, (hp a ha).2.1]

/-- What one part of the field gives to the tangents, before it is put together. -/
def tanQ (n : Nat) (p : List MonZ) (k : Nat) : List MonZ := (List.range k).flatMap fun (i : Nat) => wideL n ((n : Int) + (i : Int)) (partL i 1 p)
theorem tanQ_next (n : Nat) (p : List MonZ) (k : Nat) : tanQ n p (k + 1) = tanQ n p k ++ wideL n ((n : Int) + (k : Int)) (partL k 1 p) := by
  rw [tanQ, List.range_succ, List.flatMap_append, List.flatMap_singleton]; rfl
theorem tanQ_len {n : Nat} {p : List MonZ} (h12 : p.length ≤ 12) : ∀ k, (tanQ n p k).length ≤ k * 12
  | 0 => by simp [tanQ]
  | k + 1 => by
    have ih := tanQ_len (n := n) h12 k
    have h1 := partL_len k 1 p
    rw [tanQ_next, List.length_append, wideL_len]
    omega
theorem tanQ_nums {n : Nat} {p : List MonZ} (hp : ∀ m ∈ p, MonFine n m) (k : Nat) : NumsM (tanQ n p k) := fun m hm => by
  obtain ⟨i, _, hm⟩ := List.mem_flatMap.1 hm
  exact wide_nums (low_part hp) m hm
theorem tanQ_pows {n : Nat} {p : List MonZ} (hp : ∀ m ∈ p, MonFine n m) (k : Nat) : ∀ m ∈ tanQ n p k, m.pows.length = n + n := fun m hm => by
  obtain ⟨i, _, hm⟩ := List.mem_flatMap.1 hm
  exact wide_pows (low_part hp) m hm
/-- The parts of the tangents' field. -/
def tanW (n : Nat) (parts : List (List MonZ)) : List (List MonZ) := parts.map (wideL n (-1))
def tanC (n : Nat) (parts : List (List MonZ)) : List (List MonZ) := parts.map fun p => putAll [] (tanQ n p n)
def tanP (n : Nat) (parts : List (List MonZ)) : List (List MonZ) := tanW n parts ++ tanC n parts
theorem tanW_next {n : Nat} {parts : List (List MonZ)} {k : Nat} {p : List MonZ} (h : parts[k]? = some p) : tanW n (parts.take (k + 1)) = tanW n (parts.take k) ++ [wideL n (-1) p] := by
  rw [take_snoc h, tanW, List.map_append]; rfl
theorem tanC_next {n : Nat} {parts : List (List MonZ)} {k : Nat} {p : List MonZ} (h : parts[k]? = some p) : tanC n (parts.take (k + 1)) = tanC n (parts.take k) ++ [putAll [] (tanQ n p n)] := by
  rw [take_snoc h, tanC, List.map_append]; rfl
theorem tanW_len (n : Nat) (parts : List (List MonZ)) : (tanW n parts).length = parts.length := List.length_map _
theorem tanC_len (n : Nat) (parts : List (List MonZ)) : (tanC n parts).length = parts.length := List.length_map _
def tanR (f : FldZ) : FldZ := ⟨2 * f.dim, tanP f.parts.length f.parts⟩
def tanB (f : FldZ) : Bool := fldOkB f && fldOkB (tanR f)
def tanF (f : FldZ) : FldZ := if tanB f = true then tanR f else ⟨0, []⟩
theorem tanB_no {f : FldZ} (h : fldOkB f = false) : tanB f = false := by rw [tanB, h]; rfl
theorem tanB_yes {f : FldZ} (h : fldOkB f = true) : tanB f = fldOkB (tanR f) := by rw [tanB, h]; rfl
theorem tanB_wide {f : FldZ} (h : 6 < 2 * f.dim) : tanB f = false := by
  rw [tanB, show fldOkB (tanR f) = false from by
    unfold fldOkB dimB tanR
    have : decide (2 * f.dim ≤ 6) = false := by simp; omega
    simp [this]]
  simp
theorem tanF_no {f : FldZ} (h : tanB f = false) : tanF f = ⟨0, []⟩ := by rw [tanF, h]; rfl
theorem tanF_yes {f : FldZ} (h : tanB f = true) : tanF f = tanR f := by rw [tanF, if_pos h]

theorem putA_pows {P : List Int → Prop} (pw : List Int) (hp : P pw) : ∀ (l : List MonZ) (c : Int) (b : Bool), (∀ m ∈ l, P m.pows) → ∀ m ∈ putA pw l c b, P m.pows
  | [], c, b, _, m, hm => by
    rw [putA] at hm
    split at hm
    · cases hm
    · rw [List.mem_singleton] at hm; rw [hm]; exact hp
  | x :: l, c, b, h, m, hm => by
    have hx := h x (by simp)
    have hl := fun m hm => h m (List.mem_cons_of_mem _ hm)
    rw [putA] at hm
    split at hm
    · exact putA_pows pw hp l _ _ hl m hm
    · split at hm
      · simp only [List.mem_cons] at hm
        rcases hm with rfl | rfl | hm
        · exact hp
        · exact hx
        · exact putA_pows pw hp l _ _ hl m hm
      · simp only [List.mem_cons] at hm
        rcases hm with rfl | hm
        · exact hx
        · exact putA_pows pw hp l _ _ hl m hm
theorem putL_pows {P : List Int → Prop} {p : List MonZ} {x : MonZ} (hx : P x.pows) (hp : ∀ m ∈ p, P m.pows) : ∀ m ∈ putL p x, P m.pows := fun m hm => putA_pows x.pows hx p x.coef false hp m (List.mem_filter.1 hm).1
theorem putAll_pows {P : List Int → Prop} : ∀ {q p : List MonZ}, (∀ m ∈ p, P m.pows) → (∀ m ∈ q, P m.pows) → ∀ m ∈ putAll p q, P m.pows
  | [], _, hp, _ => hp
  | x :: q, p, hp, hq => by
    show ∀ m ∈ putAll (putL p x) q, P m.pows
    exact putAll_pows (putL_pows (hq x (by simp)) hp) (fun m hm => hq m (List.mem_cons_of_mem _ hm))
theorem tanP_pows {n : Nat} {parts : List (List MonZ)} (h : ∀ p ∈ parts, ∀ m ∈ p, MonFine n m) : ∀ p ∈ tanP n parts, ∀ m ∈ p, m.pows.length = n + n := by
  intro p hp
  rw [tanP, List.mem_append] at hp
  rcases hp with hp | hp
  · obtain ⟨q, hq, rfl⟩ := List.mem_map.1 hp
    exact wide_pows (low_fine (h q hq))
  · obtain ⟨q, hq, rfl⟩ := List.mem_map.1 hp
    exact putAll_pows (P := fun l => l.length = n + n) (fun m hm => by cases hm) (tanQ_pows (h q hq) n)
end Go.Proofs.YtbcjhpgkodeoeaaGreatDoor

/- Multiples of polynomials. Conditions: valid polynomials. -/
namespace Go.Proofs.YtbcjhpgkodeoeaaGreatDoor
open Go.RowKit Go.Sort

def scL (c : Int) (p : List MonZ) : List MonZ := p.map fun m => ⟨timesZ m.coef c, m.pows⟩

set_option maxRecDepth 100000 in
set_option maxHeartbeats 3200000 in
theorem scaled_any (vp : Value) (p : List MonZ) (c : Int) (n : Nat) (w : World) (hp : RdMs w vp p) (hp12 : p.length ≤ 12) (hpm : ∀ m ∈ p, m.pows.length = n) (hn1 : 1 ≤ n) (hn6 : n ≤ 6) :
    Calls Tryz.prog 46 #[vp, .int .i64 c] w (Gives (fun w' v' fp => OwnMs 56 3 w' v' (scL c p) fp) w) := by
  obtain ⟨ad1, len1, cap1, rfl, hl1, hlc1, hcm1, h1'⟩ := rdS_open hp
  rw [hl1] at hp12
  have HL1 := Lib.hid hl1
  have HPM := Lib.hid hpm
  clear hp hl1 hpm
  obtain ⟨j1, hj1, hw0, hw1, hw2⟩ := info_parts Tryz.info_mon
  go_enter Tryz.func46, Tryz.ntmps46
  go_wp2
  have HO0 := Lib.hid (show OwnMs 56 3 (w.alloc (.cells #[] 56)) (.slice (some ⟨w.heap.size, 0, none⟩) 0 0) [] [w.heap.size] from ⟨[], [], by simpa using World.ownsRow_lit (base := 0) (e := 56) (size := 2) w #[] 0 (Nat.zero_le _) (Nat.zero_le _) rfl, by simp, rfl, rfl, by simp⟩)
  have HB0 := Lib.hid (show Below w.heap.size w (w.alloc (.cells #[] 56)) from (Below.refl _ _).alloc (Nat.le_refl _) _)
  go_loopw [5, 11] (fun u i wr => ∃ (k : Nat) (fs : List Nat), k ≤ len1 ∧ i = .int .i64 k ∧ OwnMs 56 3 wr u ((scL c p).take k) fs ∧ (∀ b ∈ fs, w.heap.size ≤ b) ∧ Below w.heap.size w wr) (fun _ i _ => len1 - (intOf i).toNat)
  case atStart => exact ⟨0, [w.heap.size], Nat.zero_le _, rfl, by simpa using HO0.out, by simp, HB0.out⟩
  case round =>
    obtain ⟨wk, rfl⟩ : ∃ W, W = wr := ⟨_, rfl⟩
    obtain ⟨k, fs0, hk, rfl, ho, hf, hb⟩ := hrel
    clear HO0 HB0
    have hscl : (scL c p).length = len1 := by simp [scL, HL1.out]
    by_cases hlt : k < len1
    case neg =>
      obtain rfl : k = len1 := by omega
      rw [List.take_of_length_le (by omega)] at ho
      go_wp2
      go_ret
      exact ⟨_, fs0, rfl, ho, hf, hb⟩
    have hkl : ((scL c p).take k).length = k := by rw [List.length_take]; omega
    obtain ⟨b5, o5, adm, lenm, capm, m, rfl, hm, hc0, hc1, hIm, h61, h71, h81, h91, _⟩ := rdMs_get (rdMs_mono hb h1') hlt
    have hmn := HPM.out m (List.mem_of_getElem? hm)
    obtain rfl : n = lenm := by omega
    have hsn : (scL c p).take (k + 1) = (scL c p).take k ++ [⟨timesZ m.coef c, m.pows⟩] := take_snoc (by simp [scL, hm])
    obtain ⟨W1, hW1⟩ : ∃ W, W = wk.alloc (.cells #[.int .i64 m.coef, .slice adm n capm] 56) := ⟨_, rfl⟩
    have hbW1 : Below wk.heap.size wk W1 := hW1 ▸ (Below.refl _ _).alloc (Nat.le_refl _) _
    have hm0c : W1.cell? ⟨wk.heap.size, 0, none⟩ = some (.int .i64 m.coef) := by rw [hW1]; simp
    have hm1c : W1.cell? ⟨wk.heap.size, 1, none⟩ = some (.slice adm n capm) := by rw [hW1]; simp
    have HW1 := Lib.hid hW1
    obtain ⟨us, fs, hown, hone, hels, rfl, hnd⟩ := ho
    have HOWN := Lib.hid hown
    rw [hkl] at hown
    obtain ⟨adu, capu, rfl, hluc, hcum, _⟩ := row_open hown
    have HNU := Lib.hid hown
    have HONE := Lib.hid hone
    have HELS := Lib.hid hels
    have HND := Lib.hid hnd
    have HF := Lib.hid hf
    have HB := Lib.hid hb
    have HKL := Lib.hid hkl
    have hdr : Below W1.heap.size W1 W1.drew := (Below.refl _ _).drew
    have CL := Lib.hid (clone_any _ m.pows W1.drew (rdI_mono (hbW1.trans (hdr.mono hbW1.size)) h91) (by rw [h61]; omega) (by rw [h61]; omega) (i64_all h91))
    have HSN := Lib.hid hsn
    have HBW1 := Lib.hid hbW1
    have HMN := Lib.hid hmn
    have HI4 := Lib.hid (show I64 (timesZ m.coef c) from i64_of_bd (timesZ_bd _ _))
    clear hsn hm h61 h91 hmn hown hone hels hnd hf hb hW1 hbW1 hkl hscl
    go_wp2
    rw [← HW1.out]
    go_region_law (first | (refine step_append_lies _ (by rfl) _ _ _ (by rfl) 0 56 j1 _ 2 32 Tryz.underlying24 hj1 hw0 hw1 hw2 rfl (by omega) (.slice adu k capu) k _ (by rfl) (HNQ.out.alloc _) ⟨wa.heap.size, 0, none⟩ 1 1 [.int .i64 (timesZ m.coef c), .slice adq lq capq] (by rfl) (by rfl) (World.news_of_block (cs := #[.int .i64 (timesZ m.coef c), .slice adq lq capq]) (t := 56) (fr := (0, 0)) (heap_alloc_new wa _)) (by simp [Value.oneCell']) (by omega) (by unfold maxLen; omega) (by omega) (by simp) (wa.heap.size + 1) (by simp) ?_; intro gg capn w2 hown1 hgrow hat hlt1; obtain ⟨f', hP1, hP2, hP3⟩ := ownMs_push (W := w) (m := ⟨timesZ m.coef c, m.pows⟩) HONE.out HELS.out HND.out HOWN.out HKL.out hop1 HI4.out hgk HF.out HB.out hka hal hown1 hgrow (fun b hb => by { simp [Value.ownBlock] at hb; subst hb; rcases hat with hat | hat; (left; exact hat); (right; rw [hat]; simp) }); have HPP := Lib.hid hP1) | (go_simp; first | (go_at_call 66; (with_reducible refine (times_any _ _ _).mono ?_); rintro e w' ⟨rfl, rfl⟩) | (go_at_call 48; (with_reducible refine (CL.out).mono ?_); rintro e wa ⟨p1, fp1, rfl, hop1, hfp1, hba⟩; have hra := hdr.trans (hba.mono hdr.size); have hm0a := cell_below hra hm0c; have hm1a := cell_below hra hm1c; obtain ⟨adq, lq, capq, rfl, hlq, _, _, hownq, hgq, hfq⟩ := ownI_open hop1; have hka := HBW1.out.trans (hra.mono HBW1.out.size); have HNQ := Lib.hid (ownsRow_only HNU.out (Only.of_below (fp := []) hka) (by simp)); have hal : Below wa.heap.size wa (wa.alloc (.cells #[.int .i64 (timesZ m.coef c), .slice adq lq capq] 56)) := (Below.refl _ _).alloc (Nat.le_refl _) _; have hgk : ∀ b ∈ fp1, wk.heap.size ≤ b := (fun b hb => by { have h1 := hfp1 b hb; have h2 := hdr.size; have h3 := HBW1.out.size; omega }))))
    all_goals (
      go_wp2
      go_roundw
      case rel => exact ⟨k + 1, f', by omega, by go_num, by rw [HSN.out]; exact HPP.out, hP2, hP3⟩
      case measure => simp [intOf]; omega)
end Go.Proofs.YtbcjhpgkodeoeaaGreatDoor

/- A row of a slice of rows is replaced by one of its own. Conditions: none. -/
namespace Go.Proofs.YtbcjhpgkodeoeaaGreatDoor
open Go.RowKit Go.Sort

/-- A store of a new row into a slice whose elements take one cell each. -/
theorem ownS_replace {α : Type} {e : Nat} {El : World → List Value → α → List Nat → Prop} (hE : ∀ w w' u x f g, El w u x f → Only g w w' → (∀ b ∈ f, b ∉ g) → El w' u x f)
    {w : World} {g n cap : Nat} {xs : List α} {fp : List Nat} (h : OwnS e 1 El w (.slice (some ⟨g, 0, none⟩) n cap) xs fp) {k : Nat} {x y : α} {u : Value} {f : List Nat} (hx : xs[k]? = some x)
    (hy : El w [u] y f) (hd : ∀ b ∈ f, b ∉ fp) (hn : f.Nodup) :
    (∃ c, w.cell? ⟨g, k, none⟩ = some c) ∧ w.frozen? ⟨g, k, none⟩ = false ∧ g ∈ fp ∧ ∃ fp', OwnS e 1 El (w.setCell ⟨g, k, none⟩ u) (.slice (some ⟨g, 0, none⟩) n cap) (xs.set k y) fp' ∧ ∀ b ∈ fp', b ∈ fp ∨ b ∈ f := by
  obtain ⟨us, fs, hown, hone, hels, rfl, hnd⟩ := h
  have hk := (List.getElem?_eq_some_iff.1 hx).1
  obtain ⟨A, u0, C, f1, f0, f3, rfl, hA, rfl, h1, h2, h3⟩ := ownEls_split hels hx
  have hu0 : u0.length = 1 := hone u0 (by simp)
  have hlen := hown.1
  have hgb : (Value.slice (some ⟨g, 0, none⟩) n cap).ownBlock.toList = [g] := by simp [Value.ownBlock]
  rw [hgb] at hnd hd
  have hfl : (A ++ u0 :: C).flatten.length = xs.length := by rw [flat_len hone (ownEls_length hels)]; omega
  have hO : Only [g] w (w.setCell ⟨g, k, none⟩ u) := (Only.refl _ _).setCell (by simp) _
  have hset : (A ++ u0 :: C).flatten.set k u = (A ++ [u] :: C).flatten := by
    have h1 := flat_set (us := A ++ u0 :: C) (n := 1) (k := k) (j := 0) (u := u0) hone (by rw [← hA]; simp) (by omega) u
    rw [Nat.mul_one, Nat.add_zero] at h1
    rw [h1, List.set_append_right _ _ (by omega), hA, Nat.sub_self, List.set_cons_zero]
    congr 2
    cases u0 with
    | nil => simp at hu0
    | cons a u0 => simp at hu0; subst hu0; rfl
  rw [List.cons_append, List.nil_append, List.nodup_cons, List.nodup_append, List.nodup_append] at hnd
  obtain ⟨hgn, hn1, ⟨hn0, hn3, hn03⟩, hn13⟩ := hnd
  simp only [List.mem_append, not_or] at hgn
  have hdf : ∀ b ∈ f, b ≠ g ∧ b ∉ f1 ∧ b ∉ f0 ∧ b ∉ f3 := fun b hb => by
    have := hd b hb
    simpa using this
  obtain ⟨ad', cap', he, _, _, _⟩ := row_open hown
  injection he with e1 e2 e3
  subst e2
  have hs := (hown.stored k u).1
  rw [hset] at hs
  refine ⟨?_, hown.frozenAt k, by rw [hgb]; simp, g :: (f1 ++ (f ++ f3)), ⟨A ++ [u] :: C, f1 ++ (f ++ f3), by rw [List.length_set]; exact hs, ?_, ?_, by rw [hgb]; simp, ?_⟩, ?_⟩
  · rw [hown.cellAt k (by omega), List.getElem?_eq_getElem (by omega)]
    exact ⟨_, rfl⟩
  · intro u' hu'
    simp at hu'
    rcases hu' with hu' | rfl | hu'
    · exact hone u' (by simp [hu'])
    · rfl
    · exact hone u' (by simp [hu'])
  · have hsx : xs.set k y = xs.take k ++ y :: xs.drop (k + 1) := List.set_eq_take_append_cons_drop.trans (if_pos hk)
    rw [hsx]
    have h1' := ownEls_only (w' := w.setCell ⟨g, k, none⟩ u) (g := [g]) (fun u x f h hd => hE _ _ _ _ _ _ h hO hd) h1 (fun b hb hm => hgn.1 (List.mem_singleton.1 hm ▸ hb))
    have h3' := ownEls_only (w' := w.setCell ⟨g, k, none⟩ u) (g := [g]) (fun u x f h hd => hE _ _ _ _ _ _ h hO hd) h3 (fun b hb hm => hgn.2.2 (List.mem_singleton.1 hm ▸ hb))
    exact ownEls_append h1' ⟨f, f3, rfl, hE _ _ _ _ _ _ hy hO (fun b hb hm => (hdf b hb).1 (List.mem_singleton.1 hm)), h3'⟩
  · rw [List.nodup_cons, List.nodup_append, List.nodup_append]
    refine ⟨fun hm => ?_, hn1, ⟨hn, hn3, fun a ha b hb e => (hdf a ha).2.2.2 (e ▸ hb)⟩, fun a ha b hb e => ?_⟩
    · simp only [List.mem_append] at hm
      rcases hm with hm | hm | hm
      · exact hgn.1 hm
      · exact (hdf g hm).1 rfl
      · exact hgn.2.2 hm
    · simp only [List.mem_append] at hb
      rcases hb with hb | hb
      · exact (hdf b hb).2.1 (e ▸ ha)
      · exact hn13 a ha b (by simp [hb]) e
  · intro b hb
    rw [hgb]
    simp at hb ⊢
    rcases hb with rfl | hb | hb | hb
    · left; left; rfl
    · left; right; left; exact hb
    · right; exact hb
    · left; right; right; right; exact hb
end Go.Proofs.YtbcjhpgkodeoeaaGreatDoor

/- The reference's derivative of a polynomial with respect to a variable. Conditions: valid polynomials. -/
namespace Go.Proofs.YtbcjhpgkodeoeaaGreatDoor
open Go.RowKit Go.Sort

theorem xbox_put {e gq n cap B : Nat} {W1 W3 wa : World} {c : Int} {ps : List Int} (hra : Below W1.heap.size W1 wa) (hop : OwnI e wa (.slice (some ⟨gq, 0, none⟩) n cap) ps [gq]) (hl : ps.length = n) (hq : W1.heap.size ≤ gq) (hB : W1.heap.size ≤ B) (hne : gq ≠ B)
    {a b : Value} (h0 : wa.cell? ⟨B, 0, none⟩ = some a) (h1 : wa.cell? ⟨B, 1, none⟩ = some b)
    (hW : W3 = (wa.setCell ⟨B, 0, none⟩ (.int .i64 c)).setCell ⟨B, 1, none⟩ (.slice (some ⟨gq, 0, none⟩) n cap)) : XBox e W1 W3 B gq n cap c ps := by
  have hO : Only [B] wa W3 := by
    rw [hW]
    exact ((Only.refl _ _).setCell (by simp) _).setCell (by simp) _
  refine ⟨hra.trans (hO.below hra.size (by intro g hg; rw [List.mem_singleton.1 hg]; exact hB)), ?_, ?_, ownI_only hop hO (fun b hb hm => by simp at hb hm; omega), hl, hne, hq⟩
  · rw [hW]; exact (World.cell?_setCell_other _ _ _ _ (by simp)).trans (World.cell?_setCell_same _ _ _ h0)
  · rw [hW]; exact World.cell?_setCell_same _ _ _ ((World.cell?_setCell_other _ _ _ _ (by simp)).trans h1)

theorem box_in {w2 : World} {B : Nat} {a b : Value} {row : Option Nat} {w1 : World} (hg : w1.grownBy w2 row) (h : w1.cell? ⟨B, 0, none⟩ = some a ∧ w1.cell? ⟨B, 1, none⟩ = some b ∧ w1.frozen? ⟨B, 0, none⟩ = false ∧ w1.frozen? ⟨B, 1, none⟩ = false) (hn : some B ≠ row) :
    w2.cell? ⟨B, 0, none⟩ = some a ∧ w2.cell? ⟨B, 1, none⟩ = some b ∧ w2.frozen? ⟨B, 0, none⟩ = false ∧ w2.frozen? ⟨B, 1, none⟩ = false :=
  have hl := World.block_lt_of_cell? _ _ h.1
  ⟨(hg.cell_far ⟨B, 0, none⟩ hl hn).trans h.1, (hg.cell_far ⟨B, 1, none⟩ hl hn).trans h.2.1, (hg.frozen_far ⟨B, 0, none⟩ hl hn).trans h.2.2.1, (hg.frozen_far ⟨B, 1, none⟩ hl hn).trans h.2.2.2⟩
theorem box_at {w W : World} {e : Nat} {a b : Value} (hb : Below (w.alloc (.cells #[a, b] e)).heap.size (w.alloc (.cells #[a, b] e)) W) :
    W.cell? ⟨w.heap.size, 0, none⟩ = some a ∧ W.cell? ⟨w.heap.size, 1, none⟩ = some b ∧ W.frozen? ⟨w.heap.size, 0, none⟩ = false ∧ W.frozen? ⟨w.heap.size, 1, none⟩ = false := by
  have hlt : w.heap.size < (w.alloc (.cells #[a, b] e)).heap.size := by simp
  refine ⟨(hb.cell (p := ⟨w.heap.size, 0, none⟩) hlt).trans ?_, (hb.cell (p := ⟨w.heap.size, 1, none⟩) hlt).trans ?_, (hb.frozen (p := ⟨w.heap.size, 0, none⟩) hlt).trans ?_, (hb.frozen (p := ⟨w.heap.size, 1, none⟩) hlt).trans ?_⟩ <;> simp

end Go.Proofs.YtbcjhpgkodeoeaaGreatDoor

/- HamiltonField of the reference and of the program. Conditions: lengths of slices up to 2^20. -/
namespace Go.Proofs.YtbcjhpgkodeoeaaGreatDoor
open Go.RowKit Go.Sort

def hamP (m : Nat) (h : List MonZ) : List (List MonZ) := (List.range (2 * m)).map fun k => if k < m then partL (m + k) 1 h else partL (k - m) (-1) h
theorem hamP_len (m : Nat) (h : List MonZ) : (hamP m h).length = 2 * m := by simp [hamP]
theorem hamP_lo {m k : Nat} {h : List MonZ} (hk : k < m) : (hamP m h)[k]? = some (partL (m + k) 1 h) := by
  rw [hamP, List.getElem?_map, List.getElem?_range (by omega)]
  simp [hk]
theorem hamP_hi {m k : Nat} {h : List MonZ} (hk : m ≤ k) (h2 : k < 2 * m) : (hamP m h)[k]? = some (partL (k - m) (-1) h) := by
  rw [hamP, List.getElem?_map, List.getElem?_range (by omega)]
  simp
  omega
def hamB (h : List MonZ) (dim : Int) : Bool := decide (dim.tmod 2 = 0) && polyOkB h dim
def hamF (h : List MonZ) (dim : Int) : FldZ := if hamB h dim = true then ⟨dim, hamP (dim.toNat / 2) h⟩ else ⟨0, []⟩
theorem partial_at (vp : Value) (p : List MonZ) (v n : Nat) (nz : Int) (w : World) (hz : nz = (v : Int)) (hp : RdMs w vp p) (hp12 : p.length ≤ 12) (hpm : ∀ m ∈ p, MonFine n m) (hn6 : n ≤ 6) (hv : v < n) :
    Calls Tryz.prog 45 #[vp, .int .i64 nz] w (Gives (fun w' v' fp => OwnMs 56 3 w' v' (partL v 1 p) fp) w) := by
  subst hz
  exact partial_any vp p v n w hp hp12 hpm hn6 hv

theorem ham_dim {p : List MonZ} {dim : Int} (hev : dim.tmod 2 = 0) (hok : polyOkB p dim = true) : ∃ N m : Nat, dim = (N : Int) ∧ N = 2 * m ∧ 1 ≤ m ∧ m ≤ 3 ∧ (N : Int) / 2 = (m : Int) ∧ (N : Int).tdiv 2 = (m : Int) := by
  have hd : 1 ≤ dim ∧ dim ≤ 6 := by
    simp only [polyOkB, Bool.and_eq_true, dimB, decide_eq_true_eq] at hok
    exact hok.1.1
  rw [Int.tmod_eq_emod_of_nonneg (by omega)] at hev
  refine ⟨dim.toNat, dim.toNat / 2, by omega, by omega, by omega, by omega, by omega, ?_⟩
  rw [Int.tdiv_eq_ediv_of_nonneg (by omega)]
  omega

end Go.Proofs.YtbcjhpgkodeoeaaGreatDoor
