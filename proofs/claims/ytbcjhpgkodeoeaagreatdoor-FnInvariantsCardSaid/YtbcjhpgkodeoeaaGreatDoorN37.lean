/- The texts MulM, KeepP in one: each says at its head what it proves. Conditions: as said there. -/
import Derived.Maps.AppendAt
import Derived.Test.YtbcjhpgkodeoeaaGreatDoorN36
import Derived.Test.YtbcjhpgkodeoeaaGreatDoorN04
set_option linter.unusedSimpArgs false
set_option linter.unusedVariables false
/- The program's products of polynomials, monomial by monomial. Conditions: valid powers. -/
namespace Go.Proofs.YtbcjhpgkodeoeaaGreatDoor
open Go.RowKit Go.Sort

/-- Powers added. -/
def powsAdd (a b : List Int) : List Int := List.zipWith (· + ·) a b
def mulM (a b : MonZ) : MonZ := ⟨timesZ a.coef b.coef, powsAdd a.pows b.pows⟩
def mulRowM (a : MonZ) (q : List MonZ) : List MonZ := q.map (mulM a)
def mulL (p q : List MonZ) : List MonZ := p.flatMap fun a => mulRowM a q
theorem mulRowM_next {a : MonZ} {q : List MonZ} {k : Nat} {b : MonZ} (h : q[k]? = some b) : mulRowM a (q.take (k + 1)) = mulRowM a (q.take k) ++ [mulM a b] := by
  rw [take_snoc h, mulRowM, List.map_append]; rfl
theorem mulL_next {p q : List MonZ} {k : Nat} {a : MonZ} (h : p[k]? = some a) : mulL (p.take (k + 1)) q = mulL (p.take k) q ++ mulRowM a q := by
  rw [take_snoc h, mulL, List.flatMap_append]; simp [mulL]
theorem mulL_len (p q : List MonZ) : (mulL p q).length = p.length * q.length := by
  induction p with
  | nil => simp [mulL]
  | cons a p ih =>
    have : mulL (a :: p) q = mulRowM a q ++ mulL p q := rfl
    rw [this, List.length_append, ih, mulRowM, List.length_map, List.length_cons, Nat.succ_mul, Nat.add_comm]
/-- .. as far as the loop has come. -/
def addUp (a b : List Int) (k : Nat) : List Int := powsAdd (a.take k) (b.take k) ++ a.drop k
theorem addUp_zero (a b : List Int) : addUp a b 0 = a := by simp [addUp, powsAdd]
theorem addUp_end {a b : List Int} {n : Nat} (ha : a.length = n) (hb : b.length = n) : addUp a b n = powsAdd a b := by
  rw [addUp, List.take_of_length_le (by omega), List.take_of_length_le (by omega), List.drop_of_length_le (by omega), List.append_nil]
theorem addUp_next {a b : List Int} {k : Nat} {x y : Int} (hx : a[k]? = some x) (hy : b[k]? = some y) : (addUp a b k)[k]? = some x ∧ (addUp a b k).set k (x + y) = addUp a b (k + 1) := by
  obtain ⟨h1, h1'⟩ := List.getElem?_eq_some_iff.1 hx
  obtain ⟨h2, h2'⟩ := List.getElem?_eq_some_iff.1 hy
  have hl : (powsAdd (a.take k) (b.take k)).length = k := by simp [powsAdd]; omega
  have hd : a.drop k = x :: a.drop (k + 1) := by rw [List.drop_eq_getElem_cons h1, h1']
  refine ⟨?_, ?_⟩
  · rw [addUp, List.getElem?_append_right (by omega), hl, hd]; simp
  · rw [addUp, hd, List.set_append_right _ _ (by omega), hl, Nat.sub_self, List.set_cons_zero, addUp, take_snoc hx, take_snoc hy]
    rw [show powsAdd (a.take k ++ [x]) (b.take k ++ [y]) = powsAdd (a.take k) (b.take k) ++ [x + y] from by
      unfold powsAdd
      rw [List.zipWith_append (by simp; omega)]
      rfl]
    simp
theorem XBox.set {e B3 gq n cap : Nat} {W1 W3 : World} {c x y : Int} {ps : List Int} (h : XBox e W1 W3 B3 gq n cap c ps) {v : Nat} (hx : ps[v]? = some x) (hy : I64 y) :
    W3.cell? ⟨gq, v, none⟩ = some (.int .i64 x) ∧ W3.frozen? ⟨gq, v, none⟩ = false ∧ XBox e W1 (W3.setCell ⟨gq, v, none⟩ (.int .i64 y)) B3 gq n cap c (ps.set v y) := by
  obtain ⟨_, _, _, he, _, _, _, hown, _, _⟩ := ownI_open h.own
  injection he with e1 e2 e3
  subst e1 e2 e3
  have hv := (List.getElem?_eq_some_iff.1 hx).1
  have hO : Only [gq] W3 (W3.setCell ⟨gq, v, none⟩ (.int .i64 y)) := (Only.refl _ _).setCell (by simp) _
  have hs := (hown.stored v (.int .i64 y)).1
  have hne := h.ne
  refine ⟨?_, hown.frozenAt v, h.below.setCell h.hq _, cell_only hO (by simp; omega) h.c0, cell_only hO (by simp; omega) h.c1, ⟨?_, rfl, fun z hz => ?_⟩, by rw [List.length_set, h.len], h.ne, h.hq⟩
  · rw [hown.cellAt v (by rw [Nat.mul_one, ← h.len]; exact hv)]
    simp [hx]
  · rw [List.length_set, h.len, List.map_set]; exact hs
  · rcases List.mem_or_eq_of_mem_set hz with hz | rfl
    · exact h.own.2.2 z hz
    · exact hy
theorem mul_push {e2 e ba : Nat} {W wr wq w1 w2 : World} {v v' p c0 c1 : Value} {xs : List MonZ} {m : MonZ} {f : List Nat} {us : List (List Value)} {fs : List Nat} {n : Nat}
    (hone : ∀ u ∈ us, u.length = 2) (hels : OwnEls (OElMon e) wr us xs fs) (hnd : (v.ownBlock.toList ++ fs).Nodup) (hown0 : wr.ownsRow 0 e2 2 v xs.length us.flatten) (hn : xs.length = n)
    (hp : OwnI e wq p m.pows f) (hI : I64 m.coef) (hf : ∀ b ∈ f, wr.heap.size ≤ b) (hfp : ∀ b ∈ v.ownBlock.toList ++ fs, W.heap.size ≤ b) (hba : ba ∉ v.ownBlock.toList ++ fs) (hba2 : ba < wr.heap.size) (hW : Below W.heap.size W wr) (hq : Below wr.heap.size wr wq)
    (h1 : Below wq.heap.size wq w1) (hc0 : wq.cell? ⟨ba, 0, none⟩ = some c0) (hc1 : wq.cell? ⟨ba, 1, none⟩ = some c1) (hown : w2.ownsRow 0 e2 2 v' (n + 1) (us.flatten ++ [.int .i64 m.coef, p])) (hg : w1.grownBy w2 v.ownBlock) (hv : ∀ b, v'.ownBlock = some b → v.ownBlock = some b ∨ w1.heap.size ≤ b) :
    ∃ fp', OwnMs e2 e w2 v' (xs ++ [m]) fp' ∧ (∀ b ∈ fp', W.heap.size ≤ b) ∧ ba ∉ fp' ∧ w2.cell? ⟨ba, 0, none⟩ = some c0 ∧ w2.cell? ⟨ba, 1, none⟩ = some c1 ∧ Below W.heap.size W w2 := by
  have hlt : ∀ b ∈ v.ownBlock.toList ++ fs, b < wr.heap.size := fun b hb => by
    simp only [List.mem_append, Option.mem_toList] at hb
    rcases hb with hb | hb
    · exact (hown0.lt b hb).2
    · exact ownEls_lt (fun _ _ _ h => oelMon_lt h) hels b hb
  have hs1 := hW.size
  have hs2 := hq.size
  have hs3 := h1.size
  obtain ⟨fp', k1, k2, k3⟩ := ownS_push2 (El := OElMon e) (w := wq) (w1 := w1) (f := f) (fs := fs) (x := m) (fun w w' u x f g h ho hd => oelMon_only h ho hd) hone (ownEls_only (fun u x f' h hd => oelMon_only h (Only.of_below (fp := []) hq) hd) hels (by simp)) hnd ⟨p, rfl, hI, hp⟩ rfl
    (fun b hb hm => by have := hf b hb; have := hlt b hm; omega) (ownI_nodup hp) (ownI_lt hp) (fun b hb => by have := hlt b (by simp [hb]); omega) hn h1 hown hg hv
  have hnb : ba ∉ v.ownBlock.toList := fun hm => hba (by rw [List.mem_append]; left; exact hm)
  refine ⟨fp', k1, fun b hb => ?_, fun hm => ?_, cell_only k3 hnb hc0, cell_only k3 hnb hc1, (hW.trans (hq.mono hW.size)).trans (k3.below (by omega) (fun b hb => hfp b (by rw [List.mem_append]; left; exact hb)))⟩
  · rcases k2 b hb with h | h | h
    · exact hfp b h
    · have := hf b h; omega
    · omega
  · rcases k2 ba hm with h | h | h
    · exact hba h
    · have := hf ba h; omega
    · omega
/-- A slice that is not nil. -/
def SomeS (v : Value) : Prop := ∃ g l c, v = .slice (some ⟨g, 0, none⟩) l c
theorem someS (g l c : Nat) : SomeS (.slice (some ⟨g, 0, none⟩) l c) := ⟨g, l, c, rfl⟩
/-- A monomial whose number fits and whose powers are small. -/
def MonSmall (n : Nat) (m : MonZ) : Prop := I64 m.coef ∧ m.pows.length = n ∧ ∀ x ∈ m.pows, 0 ≤ x ∧ x ≤ 5

set_option maxRecDepth 100000 in
set_option maxHeartbeats 6400000 in
theorem multiply_any (vp vq : Value) (p q : List MonZ) (n : Nat) (w : World) (hp : RdMs w vp p) (hq : RdMs w vq q) (hp12 : p.length ≤ 12) (hq12 : q.length ≤ 12) (hpm : ∀ m ∈ p, MonSmall n m) (hqm : ∀ m ∈ q, MonSmall n m) (hn1 : 1 ≤ n) (hn6 : n ≤ 6) :
    Calls Tryz.prog 77 #[vp, vq] w (Gives (fun w' v' fp => OwnMs 56 3 w' v' (mulL p q) fp ∧ SomeS v') w) := by
  obtain ⟨ad1, len1, cap1, rfl, hl1, hlc1, hcm1, h1'⟩ := rdS_open hp
  obtain ⟨ad2, len2, cap2, rfl, hl2, hlc2, hcm2, h2'⟩ := rdS_open hq
  rw [hl1] at hp12
  rw [hl2] at hq12
  have HL1 := Lib.hid hl1
  have HL2 := Lib.hid hl2
  have HPM := Lib.hid hpm
  have HQM := Lib.hid hqm
  clear hp hq hl1 hl2 hpm hqm
  obtain ⟨j1, hj1, hw0, hw1, hw2⟩ := info_parts Tryz.info_mon
  go_enter Tryz.func77, Tryz.ntmps77
  go_wp2
  have HO0 := Lib.hid (show OwnMs 56 3 (w.alloc (.cells #[] 56)) (.slice (some ⟨w.heap.size, 0, none⟩) 0 0) [] [w.heap.size] from ⟨[], [], by simpa using World.ownsRow_lit (base := 0) (e := 56) (size := 2) w #[] 0 (Nat.zero_le _) (Nat.zero_le _) rfl, by simp, rfl, rfl, by simp⟩)
  have HB0 := Lib.hid (show Below w.heap.size w (w.alloc (.cells #[] 56)) from (Below.refl _ _).alloc (Nat.le_refl _) _)
  go_loopw [5, 16] (fun u i wr => ∃ (k : Nat) (fs : List Nat), k ≤ len1 ∧ i = .int .i64 k ∧ SomeS u ∧ OwnMs 56 3 wr u (mulL (p.take k) q) fs ∧ (∀ b ∈ fs, w.heap.size ≤ b) ∧ Below w.heap.size w wr) (fun _ i _ => len1 - (intOf i).toNat)
  case atStart => exact ⟨0, [w.heap.size], Nat.zero_le _, rfl, someS _ _ _, by simpa [mulL] using HO0.out, by simp, HB0.out⟩
  case round =>
    obtain ⟨wz, rfl⟩ : ∃ W, W = wr := ⟨_, rfl⟩
    obtain ⟨i, fs0, hi, rfl, hsu, ho, hf, hbz⟩ := hrel
    clear HO0 HB0
    by_cases hlt1 : i < len1
    case neg =>
      obtain rfl : i = len1 := by omega
      rw [List.take_of_length_le (by rw [HL1.out]; exact Nat.le_refl _)] at ho
      obtain ⟨adu, lu, cu, rfl⟩ := hsu
      have HO := Lib.hid ho
      clear ho
      go_wp2
      go_ret
      exact ⟨_, fs0, rfl, ⟨HO.out, someS _ _ _⟩, hf, hbz⟩
    obtain ⟨ba, oa, ada, la, ca, a, rfl, ha, hca0, hca1, hIa, ha1, ha2, ha3, ha4, _⟩ := rdMs_get h1' hlt1
    have hca0 := cell_below hbz hca0
    have hca1 := cell_below hbz hca1
    obtain ⟨hma0, hmal, hmap⟩ := HPM.out a (List.mem_of_getElem? ha)
    obtain rfl : la = n := by omega
    obtain ⟨wa, hwa⟩ : ∃ W, W = wz.alloc (.cells #[.int .i64 a.coef, .slice ada la ca] 56) := ⟨_, rfl⟩
    have hxa : Below wz.heap.size wz wa := hwa ▸ (Below.refl _ _).alloc (Nat.le_refl _) _
    have hA0 : wa.cell? ⟨wz.heap.size, 0, none⟩ = some (.int .i64 a.coef) := by rw [hwa]; simp
    have hA1 : wa.cell? ⟨wz.heap.size, 1, none⟩ = some (.slice ada la ca) := by rw [hwa]; simp
    have HWA := Lib.hid hwa
    have HSU := Lib.hid hsu
    have HXA := Lib.hid hxa
    have HA := Lib.hid ha
    have HMAL := Lib.hid hmal
    have HMAP := Lib.hid hmap
    have HRA := Lib.hid ha4
    have HNF := Lib.hid (show wz.heap.size ∉ fs0 from fun hm => by have := ownMs_lt ho _ hm; omega)
    have HO := Lib.hid (ownMs_only ho (Only.of_below (fp := []) hxa) (by simp))
    have HF := Lib.hid hf
    have HBZ := Lib.hid (hbz.trans (hxa.mono hbz.size))
    have HPL := Lib.hid (show (mulL (p.take i) q).length ≤ i * 12 from by
      rw [mulL_len, List.length_take, HL1.out, HL2.out, Nat.min_eq_left (by omega)]
      exact Nat.mul_le_mul_left _ hq12)
    clear ha ha1 ha4 hmal hmap ho hf hxa hbz hwa hsu
    go_wp2
    rw [← HWA.out]
    go_loopw [5, 22] (fun u si wr => ∃ (k : Nat) (fs : List Nat), k ≤ len2 ∧ si = .int .i64 k ∧ SomeS u ∧ OwnMs 56 3 wr u (mulL (p.take i) q ++ mulRowM a (q.take k)) fs ∧ (∀ b ∈ fs, w.heap.size ≤ b) ∧ wz.heap.size ∉ fs ∧ wr.cell? ⟨wz.heap.size, 0, none⟩ = some (.int .i64 a.coef) ∧ wr.cell? ⟨wz.heap.size, 1, none⟩ = some (.slice ada la ca) ∧ Below w.heap.size w wr) (fun _ si _ => len2 - (intOf si).toNat)
    case atStart => exact ⟨0, fs0, Nat.zero_le _, rfl, HSU.out, by simpa [mulRowM] using HO.out, HF.out, HNF.out, hA0, hA1, HBZ.out⟩
    case round =>
      obtain ⟨wk, rfl⟩ : ∃ W, W = wr := ⟨_, rfl⟩
      obtain ⟨k, fs1, hk, rfl, hsu, ho, hf, hnf, hA0k, hA1k, hbk⟩ := hrel
      clear HO HF HNF HSU hA0 hA1
      by_cases hlt2 : k < len2
      case neg =>
        obtain rfl : k = len2 := by omega
        have hqk : q.take k = q := List.take_of_length_le (by rw [HL2.out]; exact Nat.le_refl _)
        rw [hqk, ← mulL_next HA.out] at ho
        obtain ⟨adu, lu, cu, rfl⟩ := hsu
        have HO := Lib.hid ho
        have HF := Lib.hid hf
        have HBK := Lib.hid hbk
        clear ho hf hbk hqk hA0k hA1k hnf
        go_wp2
        go_roundw
        case rel => exact ⟨i + 1, fs1, by omega, by go_num, someS _ _ _, HO.out, HF.out, HBK.out⟩
        case measure => (simp [intOf]; try omega)
      obtain ⟨bb, ob, adb, lb, cb, b, rfl, hb, hcb0, hcb1, hIb, hb1, hb2, hb3, hb4, _⟩ := rdMs_get h2' hlt2
      have hcb0 := cell_below hbk hcb0
      have hcb1 := cell_below hbk hcb1
      obtain ⟨hmb0, hmbl, hmbp⟩ := HQM.out b (List.mem_of_getElem? hb)
      obtain rfl : lb = la := by omega
      obtain ⟨W1, hW1⟩ : ∃ W, W = wk.alloc (.cells #[.int .i64 b.coef, .slice adb lb cb] 56) := ⟨_, rfl⟩
      have hbW1 : Below wk.heap.size wk W1 := hW1 ▸ (Below.refl _ _).alloc (Nat.le_refl _) _
      have hB0 : W1.cell? ⟨wk.heap.size, 0, none⟩ = some (.int .i64 b.coef) := by rw [hW1]; simp
      have hB1 : W1.cell? ⟨wk.heap.size, 1, none⟩ = some (.slice adb lb cb) := by rw [hW1]; simp
      have hww1 : Below w.heap.size w W1 := hbk.trans (hbW1.mono hbk.size)
      have hA01 := cell_below hbW1 hA0k
      have hA11 := cell_below hbW1 hA1k
      have hnx := mulRowM_next (a := a) hb
      have HW1 := Lib.hid hW1
      have hn0 : wz.heap.size ∉ [W1.heap.size] := by have := World.block_lt_of_cell? _ _ hA01; simp at this ⊢; omega
      have hn1 : wk.heap.size ∉ [W1.heap.size] := by have := World.block_lt_of_cell? _ _ hB0; simp at this ⊢; omega
      have hzk := World.block_lt_of_cell? _ _ hA0k
      obtain ⟨us, fs, hown, hone, hels, rfl, hnd⟩ := ho
      obtain ⟨adu, capu, rfl, hluc, hcum, _⟩ := row_open hown
      clear hsu
      have hLle : (mulL (p.take i) q ++ mulRowM a (q.take k)).length ≤ 144 := by
        have h1 := HPL.out
        rw [List.length_append, mulRowM, List.length_map, List.length_take]
        omega
      obtain ⟨lu, hlu⟩ : ∃ lu, lu = (mulL (p.take i) q ++ mulRowM a (q.take k)).length := ⟨_, rfl⟩
      rw [← hlu] at hown hluc hLle hnd hf hnf ⊢
      have HLU := Lib.hid hlu
      have HOWN := Lib.hid hown
      have HONE := Lib.hid hone
      have HELS := Lib.hid hels
      have HND := Lib.hid hnd
      have HF := Lib.hid hf
      have HBK := Lib.hid hbk
      have HNF := Lib.hid hnf
      have hdr : Below W1.heap.size W1 W1.drew := (Below.refl _ _).drew
      have hzz : Below W1.heap.size W1 (W1.alloc (.cells #[.int .i64 0, .slice none 0 0] 56)) := (Below.refl _ _).alloc (Nat.le_refl _) _
      have hA0z := cell_below hzz hA01
      have hA1z := cell_below hzz hA11
      have hB0z := cell_below hzz hB0
      have hz1 : Below W1.heap.size W1 ((W1.alloc (.cells #[.int .i64 0, .slice none 0 0] 56)).drew) := ((Below.refl _ _).alloc (Nat.le_refl _) _).drew
      have CL := Lib.hid (fun (wz' : World) (hz : Below W1.heap.size W1 wz') => clone_any _ a.pows wz' (rdI_mono (hww1.trans (hz.mono hww1.size)) HRA.out) (by rw [HMAL.out]; omega) (by rw [HMAL.out]; omega) (i64_all HRA.out))
      have HNX := Lib.hid hnx
      have HBW1 := Lib.hid hbW1
      have HMBL := Lib.hid hmbl
      have HMBP := Lib.hid hmbp
      have HRB := Lib.hid (rdI_mono hww1 hb4)
      have HBB := Lib.hid hb
      clear hnx hb hb1 hb4 hmbl hmbp hown hone hels hnd hf hbk hW1 hbW1 hww1 hlu hnf hA0k hA1k
      go_wp2
      rw [← HW1.out]
      go_cut [10] from 23 to 56 (fun s10 wx => ∃ (B3 gq capq : Nat), s10 = .pointer (some ⟨B3, 0, none⟩) ∧ XBox 3 W1 wx B3 gq lb capq (timesZ a.coef b.coef) a.pows)
      case first =>
        go_region_held3 (fun w' => w'.cell? ⟨wz.heap.size, 0, none⟩ = some (.int .i64 a.coef) ∧ w'.cell? ⟨wz.heap.size, 1, none⟩ = some (.slice ada lb ca) ∧ w'.cell? ⟨wk.heap.size, 0, none⟩ = some (.int .i64 b.coef)) (first | exact ⟨hA01, hA11, hB0⟩ | exact ⟨hm0a, hm1a, hcxa⟩ | exact ⟨cell_below ((Below.refl _ _).alloc (Nat.le_refl _) _) hm0a, cell_below ((Below.refl _ _).alloc (Nat.le_refl _) _) hm1a, cell_below ((Below.refl _ _).alloc (Nat.le_refl _) _) hcxa⟩ | exact ⟨cell_only (((Only.refl [W1.heap.size] _).setCell (by simp) _).setCell (by simp) _) hn0 hm0a, cell_only (((Only.refl [W1.heap.size] _).setCell (by simp) _).setCell (by simp) _) hn0 hm1a, cell_only (((Only.refl [W1.heap.size] _).setCell (by simp) _).setCell (by simp) _) hn1 hcxa⟩ | exact ⟨hA0z, hA1z, hB0z⟩) (first | (go_at_call 66; (with_reducible refine (times_any _ _ _).mono ?_); rintro e w' ⟨rfl, rfl⟩) | (go_at_call 48; first | ((with_reducible refine (CL.out _ hdr).mono ?_); rintro e wc' ⟨p1, fp1, rfl, hop1, hfp1, hba⟩; have hra := hdr.trans (hba.mono hdr.size); have hm0a := cell_below hra hA01; have hm1a := cell_below hra hA11; have hcxa := cell_below hra hB0; obtain ⟨adq, lq, capq, rfl, hlq, _, _, hownq, hgq, hfq⟩ := ownI_open hop1; obtain rfl : lb = lq := (by have := HMAL.out; omega); obtain ⟨gq, rfl, rfl⟩ := hgq (by omega)) | ((with_reducible refine (CL.out _ hz1).mono ?_); rintro e wc' ⟨p1, fp1, rfl, hop1, hfp1, hba⟩; have hra := hz1.trans (hba.mono hz1.size); have hm0a := cell_below hra hA01; have hm1a := cell_below hra hA11; have hcxa := cell_below hra hB0; have hbx := box_fresh hba; obtain ⟨adq, lq, capq, rfl, hlq, _, _, hownq, hgq, hfq⟩ := ownI_open hop1; obtain rfl : lb = lq := (by have := HMAL.out; omega); obtain ⟨gq, rfl, rfl⟩ := hgq (by omega); obtain ⟨hx1, hx2, hx3, hx4⟩ := hbx)))
        all_goals (
          go_wp2_with fail
          go_meet
          first
          | exact ⟨wc'.heap.size, gq, capq, rfl, xbox_alloc hra hop1 HMAL.out (hfp1 gq (by simp)) rfl⟩
          | exact ⟨W1.heap.size, gq, capq, rfl, xbox_store hra hop1 HMAL.out (box_lt hfp1) hx1 hx2 rfl⟩
)
      case rest =>
        obtain ⟨B3, gq, capq, rfl, hXB⟩ := hcut
        have hXb0 : wc.cell? ⟨wk.heap.size, 1, none⟩ = some (.slice adb lb cb) := cell_below hXB.below hB1
        have HXBZ := Lib.hid (show XBox 3 W1 wc B3 gq lb capq (timesZ a.coef b.coef) (addUp a.pows b.pows 0) from by rw [addUp_zero]; exact hXB)
        have hXc0 := hXB.c0
        have hXc1 := hXB.c1
        clear hXB
        go_wp2
        go_loopw [38] (fun si wr => ∃ r : Nat, si = .int .i64 r ∧ r ≤ lb ∧ XBox 3 W1 wr B3 gq lb capq (timesZ a.coef b.coef) (addUp a.pows b.pows r)) (fun si _ => lb - (intOf si).toNat)
        case atStart => exact ⟨0, rfl, Nat.zero_le _, HXBZ.out⟩
        case round =>
          obtain ⟨wy, rfl⟩ : ∃ W, W = wr := ⟨_, rfl⟩
          clear HXBZ hXc0 hXc1 hXb0
          obtain ⟨r, rfl, hr, hXB⟩ := hrel
          have hXc0 := hXB.c0
          have hXc1 := hXB.c1
          by_cases hlt3 : r < lb
          case pos =>
            obtain ⟨x, hx⟩ : ∃ x, a.pows[r]? = some x := ⟨_, List.getElem?_eq_getElem (by rw [HMAL.out]; exact hlt3)⟩
            obtain ⟨bp, op, y, hbp, hy, hcy, hIy, _⟩ := rdI_get (rdI_mono hXB.below HRB.out) hlt3
            obtain ⟨hx0, hx5⟩ := HMAP.out x (List.mem_of_getElem? hx)
            obtain ⟨hy0, hy5⟩ := HMBP.out y (List.mem_of_getElem? hy)
            obtain ⟨hadd1, hadd2⟩ := addUp_next hx hy
            obtain ⟨hgx, hgf, hXB4⟩ := hXB.set hadd1 (y := x + y) ⟨by omega, by omega⟩
            rw [hadd2] at hXB4
            have HX4 := Lib.hid hXB4
            subst hbp
            have hrI : (r : Int) < lb := by omega
            clear hXB hXB4 hadd1 hadd2 hx hy
            go_wp2
            go_roundw
            case rel => exact ⟨r + 1, by go_num, by omega, HX4.out⟩
            case measure => (simp [intOf]; try omega)
          case neg =>
            obtain rfl : r = lb := by omega
            rw [addUp_end HMAL.out HMBL.out] at hXB
            have hbk4 := HBW1.out.trans (hXB.below.mono HBW1.out.size)
            have hI4 : I64 (timesZ a.coef b.coef) := i64_of_bd (timesZ_bd _ _)
            have hal : Below wy.heap.size wy (wy.alloc (.cells #[.int .i64 (timesZ a.coef b.coef), .slice (some ⟨gq, 0, none⟩) r capq] 56)) := (Below.refl _ _).alloc (Nat.le_refl _) _
            have hgk : ∀ b ∈ [gq], wk.heap.size ≤ b := fun b hb => by
              have h1 := hXB.hq
              have h2 := HBW1.out.size
              rw [List.mem_singleton.1 hb]
              omega
            have HNQ := Lib.hid (ownsRow_only HOWN.out (Only.of_below (fp := []) hbk4) (by simp))
            have HS := Lib.hid (fun (w2 : World) (gg capn : Nat) (hown1 : w2.ownsRow 0 56 2 (.slice (some ⟨gg, 0, none⟩) (lu + 1) capn) (lu + 1) (us.flatten ++ [.int .i64 (timesZ a.coef b.coef), .slice (some ⟨gq, 0, none⟩) r capq]))
                (hgrow : (wy.alloc (.cells #[.int .i64 (timesZ a.coef b.coef), .slice (some ⟨gq, 0, none⟩) r capq] 56)).grownBy w2 (Value.slice adu lu capu).ownBlock) (hat : (Value.slice adu lu capu).ownBlock = some gg ∨ gg = wy.heap.size + 1) =>
              mul_push (m := mulM a b) HONE.out HELS.out HND.out (by rw [← HLU.out]; exact HOWN.out) HLU.out.symm hXB.own hI4 hgk HF.out HNF.out (by omega) HBK.out hbk4 hal (cell_below hXB.below hA01) (cell_below hXB.below hA11) hown1 hgrow (fun b hb => by
                simp [Value.ownBlock] at hb
                subst hb
                rcases hat with hat | hat
                · left; exact hat
                · right; rw [hat]; simp))
            clear hXB hal hgk hbk4 hI4
            go_wp2_with (first | (at_builtin; refine wpList_append_lies _ rfl _ _ _ rfl 0 56 j1 _ 2 32 Tryz.underlying24 hj1 hw0 hw1 hw2 rfl (by omega) (.slice adu lu capu) lu _ (by rfl) (HNQ.out.alloc _) ⟨wy.heap.size, 0, none⟩ 1 1 [.int .i64 (timesZ a.coef b.coef), .slice (some ⟨gq, 0, none⟩) r capq] (by rfl) (by rfl) (World.news_of_block (cs := #[.int .i64 (timesZ a.coef b.coef), .slice (some ⟨gq, 0, none⟩) r capq]) (t := 56) (fr := (0, 0)) (heap_alloc_new _ _)) (by simp [Value.oneCell']) (by omega) (by unfold maxLen; omega) (by omega) (by simp) (wy.heap.size + 1) (by simp) ?_; intro gg capn w2 hown1 hgrow hat hlt1; obtain ⟨f', hP1, hP2, hP3, hP4, hP5, hP6⟩ := HS.out w2 gg capn hown1 hgrow hat; have HPP := Lib.hid hP1; have HP4 := Lib.hid hP4; have HP5 := Lib.hid hP5; clear hP1 hP4 hP5))
            go_roundw
            case rel => exact ⟨k + 1, f', by omega, by go_num, someS _ _ _, by rw [HNX.out, ← List.append_assoc]; exact HPP.out, hP2, hP3, HP4.out, HP5.out, hP6⟩
            case measure => (simp [intOf]; try omega)
end Go.Proofs.YtbcjhpgkodeoeaaGreatDoor

/- Whether a field keeps a polynomial: the program. Conditions: none. -/
namespace Go.Proofs.YtbcjhpgkodeoeaaGreatDoor
open Go.RowKit Go.Sort

/-- The monomials of the derivative along a field, one behind the other. -/
def allL (parts : List (List MonZ)) (h : List MonZ) (k : Nat) : List MonZ := (List.range k).flatMap fun i => mulL (partL i 1 h) (parts[i]?.getD [])
theorem allL_next {parts : List (List MonZ)} {h : List MonZ} {k : Nat} {p : List MonZ} (hp : parts[k]? = some p) : allL parts h (k + 1) = allL parts h k ++ mulL (partL k 1 h) p := by
  rw [allL, List.range_succ, List.flatMap_append, List.flatMap_singleton, hp]; rfl
def keepsB (f : FldZ) (h : List MonZ) : Bool := fldOkB f && polyOkB h f.dim && decide ((putAll [] (allL f.parts h f.parts.length)).length = 0)
theorem mulL_nums (p q : List MonZ) : NumsM (mulL p q) := by
  intro m hm
  obtain ⟨a, _, hm⟩ := List.mem_flatMap.1 hm
  obtain ⟨b, _, rfl⟩ := List.mem_map.1 hm
  exact timesZ_bd _ _
theorem allL_nums (parts : List (List MonZ)) (h : List MonZ) (k : Nat) : NumsM (allL parts h k) := by
  intro m hm
  obtain ⟨i, _, hm⟩ := List.mem_flatMap.1 hm
  exact mulL_nums _ _ m hm
theorem partL_len (v : Nat) (s : Int) (p : List MonZ) : (partL v s p).length ≤ p.length := List.length_filterMap_le _ _
theorem allL_len {parts : List (List MonZ)} {h : List MonZ} (hh : h.length ≤ 12) (hp : ∀ p ∈ parts, p.length ≤ 12) : ∀ k, (allL parts h k).length ≤ k * 144
  | 0 => by simp [allL]
  | k + 1 => by
    have ih := allL_len hh hp k
    have h1 := partL_len k 1 h
    rw [allL, List.range_succ, List.flatMap_append, List.flatMap_singleton, List.length_append, mulL_len]
    have h2 : (parts[k]?.getD []).length ≤ 12 := by
      cases hk : parts[k]? with
      | none => simp
      | some p => exact hp p (List.mem_of_getElem? hk)
    have h3 : (partL k 1 h).length * (parts[k]?.getD []).length ≤ 12 * 12 := Nat.mul_le_mul (by omega) h2
    have h4 : ((List.range k).flatMap fun i => mulL (partL i 1 h) (parts[i]?.getD [])).length ≤ k * 144 := ih
    omega
theorem partL_small {v n : Nat} {s : Int} {p : List MonZ} (hp : ∀ m ∈ p, MonFine n m) : ∀ m ∈ partL v s p, MonSmall n m := by
  intro m hm
  obtain ⟨m0, hm0, he⟩ := List.mem_filterMap.1 hm
  obtain ⟨h1, h2, h3, h4⟩ := hp m0 hm0
  unfold partM at he
  split at he
  · rename_i hpos
    simp only [Option.some.injEq] at he
    subst he
    refine ⟨i64_of_bd (timesZ_bd _ _), by simp [h2], fun x hx => ?_⟩
    rcases List.mem_or_eq_of_mem_set hx with hx | rfl
    · exact h4 x hx
    · have : v < m0.pows.length := by
        rcases Nat.lt_or_ge v m0.pows.length with h | h
        · exact h
        · simp [atZ, List.getElem?_eq_none h] at hpos
      have hx5 := h4 (atZ m0.pows v) (by simp [atZ, this])
      omega
  · cases he
theorem fine_small {n : Nat} {p : List MonZ} (hp : ∀ m ∈ p, MonFine n m) : ∀ m ∈ p, MonSmall n m := fun m hm =>
  ⟨i64_of_bd (hp m hm).1, (hp m hm).2.1, (hp m hm).2.2.2⟩

theorem ms_news {w : World} {b n cap : Nat} {xs : List MonZ} {e2 e : Nat} {us : List (List Value)} (hown : w.ownsRow 0 e2 2 (.slice (some ⟨b, 0, none⟩) n cap) n us.flatten) (hels : ∃ fs, OwnEls (OElMon e) w us xs fs) :
    (∀ (j : Nat) u, us.flatten[j]? = some u → w.cell? ((⟨b, 0, none⟩ : Addr).add j) = some u) ∧ ∀ u ∈ us.flatten, u.oneCell' = true := by
  obtain ⟨fs, hels⟩ := hels
  obtain ⟨X, _, hr, _, _⟩ := ownEls_S hels
  refine ⟨fun j u hu => hown.cells (by rfl) j u hu, fun u hu => ?_⟩
  rw [← hr] at hu
  simp only [rowS, List.mem_flatten, List.mem_map] at hu
  obtain ⟨l, ⟨x, _, rfl⟩, hu⟩ := hu
  simp [encS] at hu
  rcases hu with rfl | rfl <;> rfl

/-- All elements of one row of the call's own appended to another one. -/
theorem ownMs_all {e2 e : Nat} {W wr wq w2 : World} {v v' : Value} {xs ys : List MonZ} {us us2 : List (List Value)} {fs fs2 : List Nat} {n m : Nat}
    (hone : ∀ u ∈ us, u.length = 2) (hels : OwnEls (OElMon e) wr us xs fs) (hnd : (v.ownBlock.toList ++ fs).Nodup) (hown0 : wr.ownsRow 0 e2 2 v xs.length us.flatten) (hn : xs.length = n)
    (hone2 : ∀ u ∈ us2, u.length = 2) (hels2 : OwnEls (OElMon e) wq us2 ys fs2) (hnd2 : fs2.Nodup) (hm : ys.length = m) (hnew2 : ∀ b ∈ fs2, wr.heap.size ≤ b)
    (hfp : ∀ b ∈ v.ownBlock.toList ++ fs, W.heap.size ≤ b) (hW : Below W.heap.size W wr) (hq : Below wr.heap.size wr wq)
    (hown : w2.ownsRow 0 e2 2 v' (n + m) (us.flatten ++ us2.flatten)) (hg : wq.grownBy w2 v.ownBlock) (hv : v'.ownBlock = v.ownBlock ∨ v'.ownBlock = some wq.heap.size) :
    ∃ fp', OwnMs e2 e w2 v' (xs ++ ys) fp' ∧ (∀ b ∈ fp', W.heap.size ≤ b) ∧ Below W.heap.size W w2 := by
  subst hn hm
  have hs1 := hW.size
  have hs2 := hq.size
  have hvl : ∀ b ∈ v.ownBlock.toList, b < wr.heap.size := fun b hb => (hown0.lt b (by simpa using hb)).2
  have hO : Only v.ownBlock.toList wq w2 := ⟨hg.os, hg.tape, hg.output, hg.size, fun k hk hn => hg.block k hk (fun e => hn (by rw [← e]; simp))⟩
  rw [List.nodup_append] at hnd
  have hl1 : ∀ b ∈ fs, b < wr.heap.size := ownEls_lt (fun _ _ _ h => oelMon_lt h) hels
  have hl2 : ∀ b ∈ fs2, b < wq.heap.size := ownEls_lt (fun _ _ _ h => oelMon_lt h) hels2
  have g1 : OwnEls (OElMon e) w2 us xs fs := ownEls_only (g := v.ownBlock.toList) (fun u x f h hd => oelMon_only h hO hd) (ownEls_only (g := []) (fun u x f h hd => oelMon_only h (Only.of_below (fp := []) hq) hd) hels (by simp)) (fun b hb hm => hnd.2.2 b hm b hb rfl)
  have g2 : OwnEls (OElMon e) w2 us2 ys fs2 := ownEls_only (g := v.ownBlock.toList) (fun u x f h hd => oelMon_only h hO hd) hels2 (fun b hb hm => by have := hvl b hm; have := hnew2 b hb; omega)
  have hv' : ∀ b ∈ v'.ownBlock.toList, b ∈ v.ownBlock.toList ∨ b = wq.heap.size := fun b hb => by
    rcases hv with h | h
    · left; rw [← h]; exact hb
    · right; rw [h] at hb; simpa using hb
  refine ⟨v'.ownBlock.toList ++ (fs ++ fs2), ⟨us ++ us2, fs ++ fs2, by rw [List.length_append, List.flatten_append]; exact hown, fun u hu => ?_, ownEls_append g1 g2, rfl, ?_⟩, fun b hb => ?_, (hW.trans (hq.mono hW.size)).trans (hO.below (by omega) (fun b hb => hfp b (by rw [List.mem_append]; left; exact hb)))⟩
  · rw [List.mem_append] at hu
    exact hu.elim (hone u) (hone2 u)
  · rw [List.nodup_append, List.nodup_append]
    refine ⟨by cases v'.ownBlock <;> simp, ⟨hnd.2.1, hnd2, fun a ha b hb he => by have := hl1 a ha; have := hnew2 b hb; omega⟩, fun a ha b hb he => ?_⟩
    subst he
    rw [List.mem_append] at hb
    rcases hv' a ha with h | h
    · rcases hb with hb | hb
      · exact hnd.2.2 a h a hb rfl
      · have := hvl a h; have := hnew2 a hb; omega
    · rcases hb with hb | hb
      · have := hl1 a hb; omega
      · have := hl2 a hb; omega
  · rw [List.mem_append, List.mem_append] at hb
    rcases hb with hb | hb | hb
    · rcases hv' b hb with h | h
      · exact hfp b (by rw [List.mem_append]; left; exact h)
      · omega
    · exact hfp b (by rw [List.mem_append]; right; exact hb)
    · have := hnew2 b hb; omega
theorem someS_own {w : World} {e n : Nat} {v : Value} {cs : List Value} {b : Nat} (h : w.ownsRow 0 e 2 v n cs) (hv : v.ownBlock = some b) : SomeS v := by
  obtain ⟨_, ⟨rfl, _⟩ | ⟨g, cap, cur, rfl, _⟩⟩ := h
  · simp [Value.ownBlock] at hv
  · exact ⟨g, _, cap, rfl⟩

theorem keepsB_fld {f : FldZ} {h : List MonZ} (hf : fldOkB f = false) : keepsB f h = false := by simp [keepsB, hf]
theorem keepsB_pol {f : FldZ} {h : List MonZ} (hf : polyOkB h f.dim = false) : keepsB f h = false := by simp [keepsB, hf]
theorem keepsB_yes {f : FldZ} {h : List MonZ} (h1 : fldOkB f = true) (h2 : polyOkB h f.dim = true) : keepsB f h = decide ((putAll [] (allL f.parts h f.parts.length)).length = 0) := by simp [keepsB, h1, h2]

set_option maxRecDepth 100000 in
set_option maxHeartbeats 3200000 in
theorem keeps_any (vf vh : Value) (f : FldZ) (h : List MonZ) (w : World) (hf : RdFld w vf f) (hh : RdMs w vh h) (hff : ∀ p ∈ f.parts, ∀ m ∈ p, Fit_Mon m) (hfh : ∀ m ∈ h, Fit_Mon m) :
    Calls Tryz.prog 20 #[vf, vh] w fun e w' => e = .returned (.bool (keepsB f h)) ∧ Below w.heap.size w w' := by
  have hff' := hf
  obtain ⟨vP, rfl, hIf, hP⟩ := hf
  obtain ⟨adp, lp, cp, rfl⟩ := rdMss_slice hP
  obtain ⟨adh, lh, ch, rfl, hlh, _, _, hh'⟩ := rdS_open hh
  have hb0 : Below w.heap.size w (w.alloc (.cells #[.int .i64 f.dim, .slice adp lp cp] 30)) := (Below.refl _ _).alloc (Nat.le_refl _) _
  have FOK := Lib.hid (fun (c : Bool) (hc : fldOkB f = c) => fldOk_eq (.agg #[.int .i64 f.dim, .slice adp lp cp]) f _ (rdFld_mono hb0 hff') hff hc)
  have HB0 := Lib.hid hb0
  cases hfo : fldOkB f with
  | false =>
    have F1 := Lib.hid (FOK.out false hfo)
    have HE := Lib.hid (keepsB_fld (h := h) hfo)
    clear hff' hP hh hh' hlh hb0 hfo hff hfh FOK
    go_enter Tryz.func20, Tryz.ntmps20
    go_wp2_with fail
    refine F1.out.mono ?_
    rintro e w1 ⟨rfl, hb1⟩
    go_wp2
    go_ret
    exact ⟨ret_bool HE.out.symm, HB0.out.trans (hb1.mono HB0.out.size)⟩
  | true =>
  have F1 := Lib.hid (FOK.out true hfo)
  have POK := Lib.hid (fun (c : Bool) (hc : polyOkB h f.dim = c) (W : World) (hW : Below w.heap.size w W) => polyOk_eq (.slice adh lh ch) h f.dim W (rdMs_mono hW hh') hfh hc)
  have HF0 := Lib.hid (show (w.alloc (.cells #[.int .i64 f.dim, .slice adp lp cp] 30)).cell? ⟨w.heap.size, 0, none⟩ = some (.int .i64 f.dim) ∧ (w.alloc (.cells #[.int .i64 f.dim, .slice adp lp cp] 30)).cell? ⟨w.heap.size, 1, none⟩ = some (.slice adp lp cp) from ⟨by simp, by simp⟩)
  cases hpo : polyOkB h f.dim with
  | false =>
    have P1 := Lib.hid (POK.out false hpo)
    have HE := Lib.hid (keepsB_pol (f := f) hpo)
    clear hff' hP hh hh' hlh hb0 hfo hff hfh FOK POK hpo
    go_enter Tryz.func20, Tryz.ntmps20
    go_wp2_with fail
    refine F1.out.mono ?_
    rintro e w1 ⟨rfl, hb1⟩
    have c0 := cell_below hb1 HF0.out.1
    have hb1w := HB0.out.trans (hb1.mono HB0.out.size)
    go_wp2_with fail
    refine (P1.out _ hb1w).mono ?_
    rintro e w2 ⟨rfl, hb2⟩
    go_wp2
    go_ret
    exact ⟨ret_bool HE.out.symm, hb1w.trans (hb2.mono hb1w.size)⟩
  | true =>
  have P1 := Lib.hid (POK.out true hpo)
  have HE := Lib.hid (keepsB_yes hfo hpo)
  obtain ⟨n, hdn, hpn, hn1, hn6, hparts⟩ := fldOk_parts hfo
  rw [hdn] at hpo
  obtain ⟨_, _, hh12, hhm⟩ := polyOk_facts hpo
  have hlp : lp = n := by
    obtain ⟨ad', len', cap', he, hl', _⟩ := rdS_open hP
    injection he with e1 e2 e3
    omega
  subst hlp
  have HPARTS := Lib.hid hparts
  have HPN := Lib.hid hpn
  have HHM := Lib.hid hhm
  have HH12 := Lib.hid hh12
  have HHR := Lib.hid hh'
  have HPR := Lib.hid hP
  have HALL := Lib.hid (allL_len (parts := f.parts) hh12 (fun p hp => (hparts p hp).1))
  obtain ⟨i0, hi, hz0, hz1, hz2⟩ := info_parts Tryz.info_mon
  clear hff' hP hh hh' hlh hb0 hfo hff hfh FOK POK hpo hdn hparts hpn hhm hh12
  go_enter Tryz.func20, Tryz.ntmps20
  go_wp2_with fail
  refine F1.out.mono ?_
  rintro e w1 ⟨rfl, hb1⟩
  have c0 := cell_below hb1 HF0.out.1
  have c1 := cell_below hb1 HF0.out.2
  have hb1w := HB0.out.trans (hb1.mono HB0.out.size)
  go_wp2_with fail
  refine (P1.out _ hb1w).mono ?_
  rintro e w2 ⟨rfl, hb2⟩
  have c0b := cell_below hb2 c0
  have c1b := cell_below hb2 c1
  have hb2w := hb1w.trans (hb2.mono hb1w.size)
  obtain ⟨W3, hW3⟩ : ∃ W, W = w2.alloc (.cells #[] 56) := ⟨_, rfl⟩
  have hb3w := hb2w.trans ((show Below w2.heap.size w2 W3 from hW3 ▸ (Below.refl _ _).alloc (Nat.le_refl _) _).mono hb2w.size)
  have HO0 := Lib.hid (show OwnMs 56 3 W3 (.slice (some ⟨w2.heap.size, 0, none⟩) 0 0) [] [w2.heap.size] from hW3 ▸ ⟨[], [], by simpa using World.ownsRow_lit (base := 0) (e := 56) (size := 2) w2 #[] 0 (Nat.zero_le _) (Nat.zero_le _) rfl, by simp, rfl, rfl, by simp⟩)
  have HW3 := Lib.hid hW3
  have HB3 := Lib.hid hb3w
  have HS2 := Lib.hid hb2w.size
  have c1c : (w2.alloc (.cells #[] 56)).cell? ⟨w.heap.size, 1, none⟩ = some (.slice adp lp cp) := cell_below ((Below.refl _ _).alloc (Nat.le_refl _) _) c1b
  clear hb1 hb2 c0 c1 hb1w hb2w hb3w hW3
  go_wp2
  rw [← HW3.out]
  go_loopw [5, 22] (fun u si wr => ∃ (k : Nat) (fs : List Nat), si = .int .i64 k ∧ k ≤ lp ∧ SomeS u ∧ OwnMs 56 3 wr u (allL f.parts h k) fs ∧ (∀ b ∈ fs, w.heap.size ≤ b) ∧ Below w.heap.size w wr) (fun _ si _ => lp - (intOf si).toNat)
  case atStart => exact ⟨0, [w2.heap.size], rfl, Nat.zero_le _, someS _ _ _, by simpa [allL] using HO0.out, by have := HS2.out; simpa using this, HB3.out⟩
  case round =>
    obtain ⟨wk, rfl⟩ : ∃ W, W = wr := ⟨_, rfl⟩
    clear HO0 c1c c1b c0b
    obtain ⟨k, fs0, rfl, hk, hsu, ho, hf, hb⟩ := hrel
    obtain ⟨gu, lu, cu, rfl⟩ := hsu
    have hlk := HALL.out k
    by_cases hlt : k < lp
    case neg =>
      obtain rfl : k = lp := by omega
      have hul : (allL f.parts h k).length = lu := by
        obtain ⟨ad', len', cap', he, hl', _⟩ := rdS_open (ownMs_rd ho)
        injection he with e1 e2 e3
        omega
      have CO := Lib.hid (collect_any gu lu cu (allL f.parts h k) fs0 wk ho (by omega) (allL_nums _ _ _))
      have HE2 := Lib.hid (show keepsB f h = decide ((putAll [] (allL f.parts h k)).length = 0) from by have := HE.out; rwa [HPN.out] at this)
      have HF := Lib.hid hf
      clear ho hf hlk hul
      go_wp2_with fail
      refine CO.out.mono ?_
      rintro e w3 ⟨v3, fp3, rfl, ho3, hf3, hon3⟩
      have hb3 := hb.trans (hon3.below hb.size HF.out)
      obtain ⟨ad3, l3, c3, rfl, hl3, _, _, _⟩ := rdS_open (ownMs_rd ho3)
      have HL3 := Lib.hid hl3
      clear ho3 hf3 hon3 hl3
      go_wp2
      go_ret
      exact ⟨ret_bool (by rw [HE2.out, HL3.out, Bool.eq_iff_iff]; simp), hb3⟩
    obtain ⟨bp, op, ad5, l5, c5, p, rfl, hp, hc5, h51, h52, h53, h54, _⟩ := rdMss_get (rdMss_mono hb HPR.out) hlt
    obtain ⟨hp12, hpm⟩ := HPARTS.out p (List.mem_of_getElem? hp)
    have PA := Lib.hid (partial_any (.slice adh lh ch) h k lp wk (rdMs_mono hb HHR.out) HH12.out HHM.out hn6 hlt)
    obtain ⟨us, fs, hown, hone, hels, rfl, hnd⟩ := ho
    have hul : (allL f.parts h k).length = lu := by
      obtain ⟨ad', cap', he, _, _, _⟩ := row_open hown
      injection he with e1 e2 e3
      exact e2.symm
    have HMU := Lib.hid (fun (v1 : Value) (fp1 : List Nat) (w1 : World) (ho1 : OwnMs 56 3 w1 v1 (partL k 1 h) fp1) (hb1 : Below wk.heap.size wk w1) => multiply_any v1 (.slice ad5 l5 c5) (partL k 1 h) p lp w1 (ownMs_rd ho1) (rdMs_mono hb1 h54) (Nat.le_trans (partL_len _ _ _) HH12.out) hp12 (partL_small HHM.out) (fine_small hpm) hn1 hn6)
    have HNX := Lib.hid (allL_next (h := h) hp)
    have hnl : (mulL (partL k 1 h) p).length ≤ 144 := by
      rw [mulL_len]
      exact Nat.le_trans (Nat.mul_le_mul (Nat.le_trans (partL_len _ _ _) HH12.out) hp12) (by decide)
    have HOWN := Lib.hid hown
    have HONE := Lib.hid hone
    have HELS := Lib.hid hels
    have HND := Lib.hid hnd
    have HF := Lib.hid hf
    have HB := Lib.hid hb
    have HUL := Lib.hid hul
    have HNL := Lib.hid hnl
    have hlu : lu ≤ 864 := by omega
    clear hown hone hels hnd hf hp h51 h54 hp12 hpm hul hlk hnl hb
    go_wp2_with fail
    refine PA.out.mono ?_
    rintro e w3 ⟨v3, fp3, rfl, ho3, hf3, hb3⟩
    have MU := Lib.hid (HMU.out v3 fp3 w3 ho3 hb3)
    obtain ⟨ad3, l3, c3, rfl⟩ := ownMs_open ho3
    have HB3' := Lib.hid hb3
    clear ho3 hf3 hb3
    go_wp2_with fail
    refine MU.out.mono ?_
    rintro e w4 ⟨v4, fp4, rfl, ⟨ho4, g4, l4, c4, rfl⟩, hf4, hb4⟩
    obtain ⟨us4, fs4, hown4, hone4, hels4, rfl, hnd4⟩ := ho4
    have hul4 : (mulL (partL k 1 h) p).length = l4 := by
      obtain ⟨ad', cap', he, _, _, _⟩ := row_open hown4
      injection he with e1 e2 e3
      exact e2.symm
    rw [hul4] at hown4
    have hbk4 := HB3'.out.trans (hb4.mono HB3'.out.size)
    obtain ⟨hnews, hcell⟩ := ms_news hown4 ⟨_, hels4⟩
    have HNEWS := Lib.hid hnews
    have HCELL := Lib.hid hcell
    have hl4 : l4 ≤ 144 := by have := HNL.out; omega
    have HLF := Lib.hid (show us4.flatten.length = l4 * 2 from hown4.1)
    have HOWNQ := Lib.hid (show w4.ownsRow 0 56 2 (.slice (some ⟨gu, 0, none⟩) lu cu) lu us.flatten from by
      have h1 := ownsRow_only HOWN.out (Only.of_below (fp := []) hbk4) (by simp)
      rwa [HUL.out] at h1)
    have HALLN := Lib.hid (fun (v' : Value) (w' : World) (hown' : w'.ownsRow 0 56 2 v' (lu + l4) (us.flatten ++ us4.flatten)) (hg : w4.grownBy w' (Value.slice (some ⟨gu, 0, none⟩) lu cu).ownBlock) (hv : v'.ownBlock = (Value.slice (some ⟨gu, 0, none⟩) lu cu).ownBlock ∨ v'.ownBlock = some w4.heap.size) =>
      ownMs_all (W := w) HONE.out HELS.out HND.out HOWN.out HUL.out hone4 hels4 (List.nodup_append.1 hnd4).2.1 hul4 (fun b hb => by
        have h1 := hf4 b (by rw [List.mem_append]; right; exact hb)
        have h2 := HB3'.out.size
        omega) HF.out HB.out hbk4 hown' hg hv)
    clear hown4 hone4 hels4 hnd4 hul4 hnews hcell hf4 hb4 hbk4
    go_wp2_with (first | (at_builtin; refine wpList_append_own_at _ rfl _ _ _ rfl 0 56 i0 _ 2 32 Tryz.underlying24 hi hz0 hz1 hz2 rfl (by omega) (.slice (some ⟨gu, 0, none⟩) lu cu) lu us.flatten (by rfl) HOWNQ.out ⟨g4, 0, none⟩ l4 c4 us4.flatten (by rfl) HLF.out HNEWS.out HCELL.out (by unfold maxLen; omega) (by omega) (Nat.zero_le _) ?_; intro v' w' hown' hgrow' _ hat'; obtain ⟨f', hP1, hP2, hP3⟩ := HALLN.out v' w' hown' hgrow' hat'; have HPP := Lib.hid hP1; have hSS : SomeS v' := (hat'.elim (fun h => someS_own hown' (h.trans rfl)) (fun h => someS_own hown' h)); obtain ⟨gn, ln, cn, rfl⟩ := hSS; clear hown' hgrow' hat' hP1))
    go_roundw
    case rel => exact ⟨k + 1, f', by go_num, by omega, someS _ _ _, by rw [HNX.out]; exact HPP.out, hP2, hP3⟩
    case measure => (simp [intOf]; try omega)
end Go.Proofs.YtbcjhpgkodeoeaaGreatDoor
