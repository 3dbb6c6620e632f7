/- The texts Ham, Scal, Rep in one: each says at its head what it proves. Conditions: as said there. -/
import Derived.Deep.AppendLies
import Derived.Deep.Cut
import Derived.Deep.CutRange
import Derived.Deep.RegionLaw
import Derived.Test.YtbcjhpgkodeoeaaGreatDoorN10
import Derived.Test.YtbcjhpgkodeoeaaGreatDoorN04
set_option linter.unusedSimpArgs false
set_option linter.unusedVariables false
/- Derivatives of polynomials with respect to a variable. Conditions: valid polynomials. -/
namespace Go.Proofs.YtbcjhpgkodeoeaaGreatDoor
open Go.RowKit Go.Sort

def partM (v : Nat) (s : Int) (m : MonZ) : Option MonZ := if 0 < atZ m.pows v then some ⟨timesZ m.coef (s * atZ m.pows v), m.pows.set v (atZ m.pows v - 1)⟩ else none
def partL (v : Nat) (s : Int) (p : List MonZ) : List MonZ := p.filterMap (partM v s)
theorem partL_next {v : Nat} {s : Int} {p : List MonZ} {k : Nat} {m : MonZ} (h : p[k]? = some m) : partL v s (p.take (k + 1)) = partL v s (p.take k) ++ (partM v s m).toList := by
  rw [take_snoc h, partL, List.filterMap_append]
  simp [partL, List.filterMap_cons]
  cases partM v s m <;> rfl

set_option maxRecDepth 100000 in
set_option maxHeartbeats 1600000 in
theorem clone_any (v : Value) (xs : List Int) (w : World) (h : RdI w v xs) (h1 : 1 ≤ xs.length) (h2 : xs.length ≤ 1048576) (hI : ∀ x ∈ xs, I64 x) :
    Calls Tryz.prog 48 #[v] w (Gives (fun w' v fp => OwnI 3 w' v xs fp) w) := by
  obtain ⟨ad, len, cap, rfl, hl, hlc, hcm, h'⟩ := rdS_open h
  obtain ⟨b, o, hady⟩ : ∃ b o, ad = some ⟨b, o, none⟩ := by obtain ⟨b, o, _, h, _⟩ := rdI_get h' (k := 0) (by omega); exact ⟨b, o, h⟩
  subst hady
  have HL := Lib.hid hl
  have HII := Lib.hid hI
  have hal0 : Below w.heap.size w (w.alloc (.cells #[] 3)) := (Below.refl _ _).alloc (Nat.le_refl _) _
  have HNEW := Lib.hid (rdI_news (rdI_mono hal0 h'))
  have HROW := Lib.hid (show (w.alloc (.cells #[] 3)).ownsRow 0 3 1 (.slice (some ⟨w.heap.size, 0, none⟩) 0 0) 0 [] from by simpa using World.ownsRow_lit (base := 0) (e := 3) (size := 1) w #[] 0 (Nat.zero_le _) (Nat.zero_le _) rfl)
  rw [hl] at h1 h2
  clear h hl hal0 hI
  obtain ⟨i0, hi, hz0, hz1, hz2⟩ := info_parts Tryz.info_int
  have he : ∀ w : World, (binOp .eql 35 (.slice (some ⟨b, o, none⟩) len cap) (.slice none 0 0)).run Tryz.prog w = .ok (.bool false) w := fun _ => rfl
  go_enter Tryz.func48, Tryz.ntmps48
  go_wp2_with (first
    | (at_builtin; refine wpList_append_lies _ rfl _ _ _ rfl 0 3 i0 _ 1 8 Tryz.underlying35 hi hz0 hz1 hz2 rfl (by omega) (.slice (some ⟨w.heap.size, 0, none⟩) 0 0) 0 [] (by rfl) HROW.out ⟨b, o, none⟩ len cap (xs.map (Value.int .i64)) (by rfl) (by rw [List.length_map, HL.out, Nat.mul_one]) HNEW.out (by intro u hu; simp only [List.mem_map] at hu; obtain ⟨z, _, rfl⟩ := hu; rfl) (by omega) (by unfold maxLen; omega) (by omega) (by simp) (w.heap.size + 1) (by simp) ?_; intro gg capn wB hown1 hgrow hat hlt1))
  obtain ⟨hoy, hgg, hbB⟩ := clone_own (W := w) (y := xs) hown1 (by simpa [Value.ownBlock] using hgrow) (by simpa [Value.ownBlock] using hat) HL.out HII.out
  go_ret
  exact ⟨_, [gg], rfl, hoy, by simpa using hgg, hbB⟩

theorem box_fresh {W wa : World} {e : Nat} {a b : Value} (h : Below ((W.alloc (.cells #[a, b] e)).drew).heap.size ((W.alloc (.cells #[a, b] e)).drew) wa) :
    wa.cell? ⟨W.heap.size, 0, none⟩ = some a ∧ wa.cell? ⟨W.heap.size, 1, none⟩ = some b ∧ wa.frozen? ⟨W.heap.size, 0, none⟩ = false ∧ wa.frozen? ⟨W.heap.size, 1, none⟩ = false := by
  have hlt : W.heap.size < ((W.alloc (.cells #[a, b] e)).drew).heap.size := by simp [World.drew]
  refine ⟨(h.cell (p := ⟨W.heap.size, 0, none⟩) hlt).trans ?_, (h.cell (p := ⟨W.heap.size, 1, none⟩) hlt).trans ?_, (h.frozen (p := ⟨W.heap.size, 0, none⟩) hlt).trans ?_, (h.frozen (p := ⟨W.heap.size, 1, none⟩) hlt).trans ?_⟩ <;> simp

/-- A monomial in a box of its own, its powers in a block of their own. -/
structure XBox (e : Nat) (W1 W3 : World) (B3 gq n cap : Nat) (c : Int) (ps : List Int) : Prop where
  below : Below W1.heap.size W1 W3
  c0 : W3.cell? ⟨B3, 0, none⟩ = some (.int .i64 c)
  c1 : W3.cell? ⟨B3, 1, none⟩ = some (.slice (some ⟨gq, 0, none⟩) n cap)
  own : OwnI e W3 (.slice (some ⟨gq, 0, none⟩) n cap) ps [gq]
  len : ps.length = n
  ne : gq ≠ B3
  hq : W1.heap.size ≤ gq
theorem xbox_alloc {e t gq n cap : Nat} {W1 W3 wa : World} {c : Int} {ps : List Int} (hra : Below W1.heap.size W1 wa) (hop : OwnI e wa (.slice (some ⟨gq, 0, none⟩) n cap) ps [gq]) (hl : ps.length = n) (hq : W1.heap.size ≤ gq)
    (hW : W3 = wa.alloc (.cells #[.int .i64 c, .slice (some ⟨gq, 0, none⟩) n cap] t)) : XBox e W1 W3 wa.heap.size gq n cap c ps := by
  have hb : Below wa.heap.size wa W3 := hW ▸ (Below.refl _ _).alloc (Nat.le_refl _) _
  have hlt := ownI_lt hop gq (by simp)
  refine ⟨hra.trans (hb.mono hra.size), by rw [hW]; simp, by rw [hW]; simp, ownI_only hop (Only.of_below (fp := []) hb) (by simp), hl, by omega, hq⟩
theorem xbox_store {e gq n cap : Nat} {W1 W3 wa : World} {c : Int} {ps : List Int} (hra : Below W1.heap.size W1 wa) (hop : OwnI e wa (.slice (some ⟨gq, 0, none⟩) n cap) ps [gq]) (hl : ps.length = n) (hq : W1.heap.size < gq)
    {a b : Value} (h0 : wa.cell? ⟨W1.heap.size, 0, none⟩ = some a) (h1 : wa.cell? ⟨W1.heap.size, 1, none⟩ = some b)
    (hW : W3 = (wa.setCell ⟨W1.heap.size, 0, none⟩ (.int .i64 c)).setCell ⟨W1.heap.size, 1, none⟩ (.slice (some ⟨gq, 0, none⟩) n cap)) : XBox e W1 W3 W1.heap.size gq n cap c ps := by
  have hO : Only [W1.heap.size] wa W3 := by
    rw [hW]
    exact ((Only.refl _ _).setCell (by simp) _).setCell (by simp) _
  have hl0 := World.block_lt_of_cell? _ _ h0
  refine ⟨hra.trans (hO.below hra.size (by simp)), ?_, ?_, ownI_only hop hO (fun b hb hm => by simp at hb hm; omega), hl, by omega, by omega⟩
  · rw [hW]; exact (World.cell?_setCell_other _ _ _ _ (by simp)).trans (World.cell?_setCell_same _ _ _ h0)
  · rw [hW]; exact World.cell?_setCell_same _ _ _ ((World.cell?_setCell_other _ _ _ _ (by simp)).trans h1)
theorem ownMs_push {e2 e : Nat} {W wr wq w1 w2 : World} {v v' p : Value} {xs : List MonZ} {m : MonZ} {f : List Nat} {us : List (List Value)} {fs : List Nat} {n : Nat}
    (hone : ∀ u ∈ us, u.length = 2) (hels : OwnEls (OElMon e) wr us xs fs) (hnd : (v.ownBlock.toList ++ fs).Nodup) (hown0 : wr.ownsRow 0 e2 2 v xs.length us.flatten) (hn : xs.length = n)
    (hp : OwnI e wq p m.pows f) (hI : I64 m.coef) (hf : ∀ b ∈ f, wr.heap.size ≤ b) (hfp : ∀ b ∈ v.ownBlock.toList ++ fs, W.heap.size ≤ b) (hW : Below W.heap.size W wr) (hq : Below wr.heap.size wr wq)
    (h1 : Below wq.heap.size wq w1) (hown : w2.ownsRow 0 e2 2 v' (n + 1) (us.flatten ++ [.int .i64 m.coef, p])) (hg : w1.grownBy w2 v.ownBlock) (hv : ∀ b, v'.ownBlock = some b → v.ownBlock = some b ∨ w1.heap.size ≤ b) :
    ∃ fp', OwnMs e2 e w2 v' (xs ++ [m]) fp' ∧ (∀ b ∈ fp', W.heap.size ≤ b) ∧ Below W.heap.size W w2 := by
  have hlt : ∀ b ∈ v.ownBlock.toList ++ fs, b < wr.heap.size := fun b hb => by
    simp only [List.mem_append, Option.mem_toList] at hb
    rcases hb with hb | hb
    · exact (hown0.lt b hb).2
    · exact ownEls_lt (fun _ _ _ h => oelMon_lt h) hels b hb
  refine ownS_push (El := OElMon e) (W := W) (w := wq) (w1 := w1) (f := f) (fs := fs) (fun w w' u x f g h ho hd => oelMon_only h ho hd) hone (ownEls_only (fun u x f' h hd => oelMon_only h (Only.of_below (fp := []) hq) hd) hels (by simp)) hnd ⟨p, rfl, hI, hp⟩ rfl
    (fun b hb hm => by have := hf b hb; have := hlt b hm; omega) (ownI_nodup hp) (ownI_lt hp) (fun b hb => by have := hlt b (by simp [hb]); have := hq.size; omega) hn (fun b hb => ?_) (hW.trans (hq.mono hW.size)) h1 hown hg hv
  rw [List.mem_append] at hb
  rcases hb with hb | hb
  · exact hfp b hb
  · have := hf b hb
    have := hW.size
    omega
theorem box_lt {W1 : World} {gq t : Nat} {a b : Value} (h : ∀ g ∈ [gq], ((W1.alloc (.cells #[a, b] t)).drew).heap.size ≤ g) : W1.heap.size < gq := by
  have := h gq (by simp)
  simp [World.drew] at this
  omega
theorem XBox.dec {e B3 gq n cap : Nat} {W1 W3 : World} {c x : Int} {ps : List Int} (h : XBox e W1 W3 B3 gq n cap c ps) {v : Nat} (hx : ps[v]? = some x) (hx0 : 0 < x) (hx5 : x ≤ 5) :
    W3.cell? ⟨gq, v, none⟩ = some (.int .i64 x) ∧ W3.frozen? ⟨gq, v, none⟩ = false ∧ XBox e W1 (W3.setCell ⟨gq, v, none⟩ (.int .i64 (x - 1))) B3 gq n cap c (ps.set v (x - 1)) := by
  obtain ⟨_, _, _, he, _, _, _, hown, _, _⟩ := ownI_open h.own
  injection he with e1 e2 e3
  subst e1 e2 e3
  have hv := (List.getElem?_eq_some_iff.1 hx).1
  have hO : Only [gq] W3 (W3.setCell ⟨gq, v, none⟩ (.int .i64 (x - 1))) := (Only.refl _ _).setCell (by simp) _
  have hs := (hown.stored v (.int .i64 (x - 1))).1
  have hne := h.ne
  refine ⟨?_, hown.frozenAt v, h.below.setCell h.hq _, cell_only hO (by simp; omega) h.c0, cell_only hO (by simp; omega) h.c1, ⟨?_, rfl, fun z hz => ?_⟩, by rw [List.length_set, h.len], h.ne, h.hq⟩
  · rw [hown.cellAt v (by rw [Nat.mul_one, ← h.len]; exact hv)]
    simp [hx]
  · rw [List.length_set, h.len, List.map_set]; exact hs
  · rcases List.mem_or_eq_of_mem_set hz with hz | rfl
    · exact h.own.2.2 z hz
    · exact ⟨by omega, by omega⟩

set_option maxRecDepth 100000 in
set_option maxHeartbeats 3200000 in
theorem partial_any (vp : Value) (p : List MonZ) (v n : Nat) (w : World) (hp : RdMs w vp p) (hp12 : p.length ≤ 12) (hpm : ∀ m ∈ p, MonFine n m) (hn6 : n ≤ 6) (hv : v < n) :
    Calls Tryz.prog 45 #[vp, .int .i64 (v : Int)] w (Gives (fun w' v' fp => OwnMs 56 3 w' v' (partL v 1 p) fp) w) := by
  obtain ⟨ad1, len1, cap1, rfl, hl1, hlc1, hcm1, h1'⟩ := rdS_open hp
  rw [hl1] at hp12
  have HL1 := Lib.hid hl1
  have HPM := Lib.hid hpm
  have hvI : (v : Int) < n := by omega
  clear hp hl1 hpm
  obtain ⟨j1, hj1, hw0, hw1, hw2⟩ := info_parts Tryz.info_mon
  go_enter Tryz.func45, Tryz.ntmps45
  go_wp2
  have HO0 := Lib.hid (show OwnMs 56 3 (w.alloc (.cells #[] 56)) (.slice (some ⟨w.heap.size, 0, none⟩) 0 0) [] [w.heap.size] from ⟨[], [], by simpa using World.ownsRow_lit (base := 0) (e := 56) (size := 2) w #[] 0 (Nat.zero_le _) (Nat.zero_le _) rfl, by simp, rfl, rfl, by simp⟩)
  have HB0 := Lib.hid (show Below w.heap.size w (w.alloc (.cells #[] 56)) from (Below.refl _ _).alloc (Nat.le_refl _) _)
  go_loopw [5, 12] (fun u i wr => ∃ (k : Nat) (fs : List Nat), k ≤ len1 ∧ i = .int .i64 k ∧ OwnMs 56 3 wr u (partL v 1 (p.take k)) fs ∧ (∀ b ∈ fs, w.heap.size ≤ b) ∧ Below w.heap.size w wr) (fun _ i _ => len1 - (intOf i).toNat)
  case atStart => exact ⟨0, [w.heap.size], Nat.zero_le _, rfl, by simpa [partL] using HO0.out, by simp, HB0.out⟩
  case round =>
    obtain ⟨wk, rfl⟩ : ∃ W, W = wr := ⟨_, rfl⟩
    obtain ⟨k, fs0, hk, rfl, ho, hf, hb⟩ := hrel
    clear HO0 HB0
    by_cases hlt : k < len1
    case neg =>
      obtain rfl : k = len1 := by omega
      rw [List.take_of_length_le (by rw [HL1.out]; exact Nat.le_refl _)] at ho
      go_wp2
      go_ret
      exact ⟨_, fs0, rfl, ho, hf, hb⟩
    obtain ⟨b5, o5, adm, lenm, capm, m, rfl, hm, hc0, hc1, hIm, h61, h71, h81, h91, _⟩ := rdMs_get (rdMs_mono hb h1') hlt
    obtain ⟨⟨hm0, hm1⟩, hmn, hmd, hmp⟩ := HPM.out m (List.mem_of_getElem? hm)
    obtain rfl : n = lenm := by omega
    obtain ⟨b6, o6, x, rfl, hx, hcx, hIx, _⟩ := rdI_get h91 hv
    obtain ⟨hx0, hx5⟩ := hmp x (List.mem_of_getElem? hx)
    have hxa : atZ m.pows v = x := atZ_get hx
    obtain ⟨W1, hW1⟩ : ∃ W, W = wk.alloc (.cells #[.int .i64 m.coef, .slice (some ⟨b6, o6, none⟩) n capm] 56) := ⟨_, rfl⟩
    have hbW1 : Below wk.heap.size wk W1 := hW1 ▸ (Below.refl _ _).alloc (Nat.le_refl _) _
    have hm0c : W1.cell? ⟨wk.heap.size, 0, none⟩ = some (.int .i64 m.coef) := by rw [hW1]; simp
    have hm1c : W1.cell? ⟨wk.heap.size, 1, none⟩ = some (.slice (some ⟨b6, o6, none⟩) n capm) := by rw [hW1]; simp
    have hcx1 := cell_below hbW1 hcx
    have hnx := partL_next (v := v) (s := 1) hm
    have HW1 := Lib.hid hW1
    have hn0 : wk.heap.size ∉ [W1.heap.size] := by have := World.block_lt_of_cell? _ _ hm0c; simp at this ⊢; omega
    have hn1 : b6 ∉ [W1.heap.size] := by have := World.block_lt_of_cell? _ _ hcx1; simp at this ⊢; omega
    obtain ⟨us, fs, hown, hone, hels, rfl, hnd⟩ := ho
    obtain ⟨adu, capu, rfl, hluc, hcum, _⟩ := row_open hown
    have HOWN := Lib.hid hown
    have HONE := Lib.hid hone
    have HELS := Lib.hid hels
    have HND := Lib.hid hnd
    have HF := Lib.hid hf
    have HB := Lib.hid hb
    by_cases hxp : 0 < x
    case neg =>
      have hE : partL v 1 (p.take (k + 1)) = partL v 1 (p.take k) := by rw [hnx, partM, if_neg (by rw [hxa]; exact hxp)]; simp
      have HO0 := ownMs_only (⟨us, fs, hown, hone, hels, rfl, hnd⟩ : OwnMs 56 3 wk _ _ _) (Only.of_below (fp := []) hbW1) (by simp)
      have HO : Hid (OwnMs 56 3 W1 (.slice adu (partL v 1 (p.take k)).length capu) (partL v 1 (p.take (k + 1))) ((Value.slice adu (partL v 1 (p.take k)).length capu).ownBlock.toList ++ fs)) := Lib.hid (by rw [hE]; exact HO0)
      clear HO0
      have HBB := Lib.hid (hb.trans (hbW1.mono hb.size))
      clear hE hnx hm h61 h91 hx hxa hmn hmp hmd hown hone hels hnd hf hb hW1 hbW1
      go_wp2
      rw [← HW1.out]
      go_roundw
      case rel => exact ⟨k + 1, _, by omega, by go_num, HO.out, HF.out, HBB.out⟩
      case measure => simp [intOf]; omega
    have hE : partL v 1 (p.take (k + 1)) = partL v 1 (p.take k) ++ [⟨timesZ m.coef x, m.pows.set v (x - 1)⟩] := by rw [hnx, partM, if_pos (by rw [hxa]; exact hxp), hxa, Int.one_mul]; rfl
    have hdr : Below W1.heap.size W1 W1.drew := (Below.refl _ _).drew
    have hzz : Below W1.heap.size W1 (W1.alloc (.cells #[.int .i64 0, .slice none 0 0] 56)) := (Below.refl _ _).alloc (Nat.le_refl _) _
    have hm0z := cell_below hzz hm0c
    have hm1z := cell_below hzz hm1c
    have hcxz := cell_below hzz hcx1
    have hz1 : Below W1.heap.size W1 ((W1.alloc (.cells #[.int .i64 0, .slice none 0 0] 56)).drew) := ((Below.refl _ _).alloc (Nat.le_refl _) _).drew
    have CL := Lib.hid (fun (wz : World) (hz : Below W1.heap.size W1 wz) => clone_any _ m.pows wz (rdI_mono (hbW1.trans (hz.mono hbW1.size)) h91) (by rw [h61]; omega) (by rw [h61]; omega) (i64_all h91))
    have HE := Lib.hid hE
    have HX := Lib.hid hx
    have HBW1 := Lib.hid hbW1
    have HMN := Lib.hid hmn
    have HMP := Lib.hid hmp
    clear hE hnx hm h61 h91 hx hxa hmn hmp hmd hown hone hels hnd hf hb hW1 hbW1
    go_wp2
    rw [← HW1.out]
    go_cut [8] from 13 to 45 (fun s8 wx => ∃ (B3 gq capq : Nat), s8 = .pointer (some ⟨B3, 0, none⟩) ∧ XBox 3 W1 wx B3 gq n capq (timesZ m.coef x) m.pows)
    case first =>
      go_region_held3 (fun w' => w'.cell? ⟨wk.heap.size, 0, none⟩ = some (.int .i64 m.coef) ∧ w'.cell? ⟨wk.heap.size, 1, none⟩ = some (.slice (some ⟨b6, o6, none⟩) n capm) ∧ w'.cell? ⟨b6, o6 + v, none⟩ = some (.int .i64 x)) (first | exact ⟨hm0c, hm1c, hcx1⟩ | exact ⟨hm0a, hm1a, hcxa⟩ | exact ⟨cell_below ((Below.refl _ _).alloc (Nat.le_refl _) _) hm0a, cell_below ((Below.refl _ _).alloc (Nat.le_refl _) _) hm1a, cell_below ((Below.refl _ _).alloc (Nat.le_refl _) _) hcxa⟩ | exact ⟨cell_only (((Only.refl [W1.heap.size] _).setCell (by simp) _).setCell (by simp) _) hn0 hm0a, cell_only (((Only.refl [W1.heap.size] _).setCell (by simp) _).setCell (by simp) _) hn0 hm1a, cell_only (((Only.refl [W1.heap.size] _).setCell (by simp) _).setCell (by simp) _) hn1 hcxa⟩ | exact ⟨hm0z, hm1z, hcxz⟩) (first | (go_at_call 66; (with_reducible refine (times_any _ _ _).mono ?_); rintro e w' ⟨rfl, rfl⟩) | (go_at_call 48; first | ((with_reducible refine (CL.out _ hdr).mono ?_); rintro e wa ⟨p1, fp1, rfl, hop1, hfp1, hba⟩; have hra := hdr.trans (hba.mono hdr.size); have hm0a := cell_below hra hm0c; have hm1a := cell_below hra hm1c; have hcxa := cell_below hra hcx1; obtain ⟨adq, lq, capq, rfl, hlq, _, _, hownq, hgq, hfq⟩ := ownI_open hop1; obtain rfl : n = lq := (by have := HMN.out; omega); obtain ⟨gq, rfl, rfl⟩ := hgq (by omega)) | ((with_reducible refine (CL.out _ hz1).mono ?_); rintro e wa ⟨p1, fp1, rfl, hop1, hfp1, hba⟩; have hra := hz1.trans (hba.mono hz1.size); have hm0a := cell_below hra hm0c; have hm1a := cell_below hra hm1c; have hcxa := cell_below hra hcx1; have hbx := box_fresh hba; obtain ⟨adq, lq, capq, rfl, hlq, _, _, hownq, hgq, hfq⟩ := ownI_open hop1; obtain rfl : n = lq := (by have := HMN.out; omega); obtain ⟨gq, rfl, rfl⟩ := hgq (by omega); obtain ⟨hx1, hx2, hx3, hx4⟩ := hbx)))
      all_goals (
        go_wp2_with fail
        go_meet
        first
        | exact ⟨wa.heap.size, gq, capq, rfl, xbox_alloc hra hop1 HMN.out (hfp1 gq (by simp)) rfl⟩
        | exact ⟨W1.heap.size, gq, capq, rfl, xbox_store hra hop1 HMN.out (box_lt hfp1) hx1 hx2 rfl⟩
)
    case rest =>
      obtain ⟨B3, gq, capq, rfl, hXB⟩ := hcut
      have hXc0 := hXB.c0
      have hXc1 := hXB.c1
      obtain ⟨hgx, hgf, hXB4⟩ := hXB.dec HX.out hxp hx5
      have hY0 := hXB4.c0
      have hY1 := hXB4.c1
      have hbk4 := HBW1.out.trans (hXB4.below.mono HBW1.out.size)
      have hLle : (partL v 1 (p.take k)).length ≤ 12 := by
        have h1 := List.length_filterMap_le (partM v 1) (p.take k)
        rw [List.length_take] at h1
        unfold partL
        omega
      have hI4 : I64 (timesZ m.coef x) := i64_of_bd (timesZ_bd _ _)
      have hal : Below (wc.setCell ⟨gq, v, none⟩ (.int .i64 (x - 1))).heap.size (wc.setCell ⟨gq, v, none⟩ (.int .i64 (x - 1))) ((wc.setCell ⟨gq, v, none⟩ (.int .i64 (x - 1))).alloc (.cells #[.int .i64 (timesZ m.coef x), .slice (some ⟨gq, 0, none⟩) n capq] 56)) := (Below.refl _ _).alloc (Nat.le_refl _) _
      have hsz4 : (wc.setCell ⟨gq, v, none⟩ (.int .i64 (x - 1))).heap.size = wc.heap.size := by simp
      have hgk : ∀ b ∈ [gq], wk.heap.size ≤ b := fun b hb => by
        have h1 := hXB.hq
        have h2 := HBW1.out.size
        rw [List.mem_singleton.1 hb]
        omega
      have HNQ := Lib.hid (ownsRow_only HOWN.out (Only.of_below (fp := []) hbk4) (by simp))
      have HS := Lib.hid (fun (w2 : World) (gg capn : Nat) (hown1 : w2.ownsRow 0 56 2 (.slice (some ⟨gg, 0, none⟩) ((partL v 1 (p.take k)).length + 1) capn) ((partL v 1 (p.take k)).length + 1) (us.flatten ++ [.int .i64 (timesZ m.coef x), .slice (some ⟨gq, 0, none⟩) n capq]))
          (hgrow : ((wc.setCell ⟨gq, v, none⟩ (.int .i64 (x - 1))).alloc (.cells #[.int .i64 (timesZ m.coef x), .slice (some ⟨gq, 0, none⟩) n capq] 56)).grownBy w2 (Value.slice adu (partL v 1 (p.take k)).length capu).ownBlock) (hat : (Value.slice adu (partL v 1 (p.take k)).length capu).ownBlock = some gg ∨ gg = wc.heap.size + 1) =>
        ownMs_push (W := w) (m := ⟨timesZ m.coef x, m.pows.set v (x - 1)⟩) HONE.out HELS.out HND.out HOWN.out rfl hXB4.own hI4 hgk HF.out HB.out hbk4 hal hown1 hgrow (fun b hb => by
          simp [Value.ownBlock] at hb
          subst hb
          rcases hat with hat | hat
          · left; exact hat
          · right; rw [hat]; simp))
      have HL := Lib.hid hLle
      clear hXB hXB4 hal hgk hbk4 hI4 hLle
      go_wp2_with (first | (at_builtin; refine wpList_append_lies _ rfl _ _ _ rfl 0 56 j1 _ 2 32 Tryz.underlying24 hj1 hw0 hw1 hw2 rfl (by omega) (.slice adu (partL v 1 (p.take k)).length capu) (partL v 1 (p.take k)).length _ (by rfl) (HNQ.out.alloc _) ⟨wc.heap.size, 0, none⟩ 1 1 [.int .i64 (timesZ m.coef x), .slice (some ⟨gq, 0, none⟩) n capq] (by rfl) (by rfl) (World.news_of_block (cs := #[.int .i64 (timesZ m.coef x), .slice (some ⟨gq, 0, none⟩) n capq]) (t := 56) (fr := (0, 0)) (by rw [← hsz4]; exact heap_alloc_new _ _)) (by simp [Value.oneCell']) (by omega) (by have := HL.out; unfold maxLen; omega) (by have := HL.out; omega) (by simp) (wc.heap.size + 1) (by simp) ?_; intro gg capn w2 hown1 hgrow hat hlt1; obtain ⟨f', hP1, hP2, hP3⟩ := HS.out w2 gg capn hown1 hgrow hat; have HPP := Lib.hid hP1))
      go_roundw
      case rel => exact ⟨k + 1, f', by omega, by go_num, by rw [HE.out]; exact HPP.out, hP2, hP3⟩
      case measure => simp [intOf]; omega
end Go.Proofs.YtbcjhpgkodeoeaaGreatDoor

/- Multiples of polynomials. Conditions: valid polynomials. -/
namespace Go.Proofs.YtbcjhpgkodeoeaaGreatDoor
open Go.RowKit Go.Sort

end Go.Proofs.YtbcjhpgkodeoeaaGreatDoor

/- A row of a slice of rows is replaced by one of its own. Conditions: none. -/
namespace Go.Proofs.YtbcjhpgkodeoeaaGreatDoor
open Go.RowKit Go.Sort

/-- A store of a new row into a slice whose elements take one cell each. -/
theorem ownS_replace {α : Type} {e : Nat} {El : World → List Value → α → List Nat → Prop} (hE : ∀ w w' u x f g, El w u x f → Only g w w' → (∀ b ∈ f, b ∉ g) → El w' u x f)
    {w : World} {g n cap : Nat} {xs : List α} {fp : List Nat} (h : OwnS e 1 El w (.slice (some ⟨g, 0, none⟩) n cap) xs fp) {k : Nat} {x y : α} {u : Value} {f : List Nat} (hx : xs[k]? = some x)
    (hy : El w [u] y f) (hd : ∀ b ∈ f, b ∉ fp) (hn : f.Nodup) :
    (∃ c, w.cell? ⟨g, k, none⟩ = some c) ∧ w.frozen? ⟨g, k, none⟩ = false ∧ g ∈ fp ∧ ∃ fp', OwnS e 1 El (w.setCell ⟨g, k, none⟩ u) (.slice (some ⟨g, 0, none⟩) n cap) (xs.set k y) fp' ∧ ∀ b ∈ fp', b ∈ fp ∨ b ∈ f := by
  obtain ⟨us, fs, hown, hone, hels, rfl, hnd⟩ := h
  have hk := (List.getElem?_eq_some_iff.1 hx).1
  obtain ⟨A, u0, C, f1, f0, f3, rfl, hA, rfl, h1, h2, h3⟩ := ownEls_split hels hx
  have hu0 : u0.length = 1 := hone u0 (by simp)
  have hlen := hown.1
  have hgb : (Value.slice (some ⟨g, 0, none⟩) n cap).ownBlock.toList = [g] := by simp [Value.ownBlock]
  rw [hgb] at hnd hd
  have hfl : (A ++ u0 :: C).flatten.length = xs.length := by rw [flat_len hone (ownEls_length hels)]; omega
  have hO : Only [g] w (w.setCell ⟨g, k, none⟩ u) := (Only.refl _ _).setCell (by simp) _
  have hset : (A ++ u0 :: C).flatten.set k u = (A ++ [u] :: C).flatten := by
    have h1 := flat_set (us := A ++ u0 :: C) (n := 1) (k := k) (j := 0) (u := u0) hone (by rw [← hA]; simp) (by omega) u
    rw [Nat.mul_one, Nat.add_zero] at h1
    rw [h1, List.set_append_right _ _ (by omega), hA, Nat.sub_self, List.set_cons_zero]
    congr 2
    cases u0 with
    | nil => simp at hu0
    | cons a u0 => simp at hu0; subst hu0; rfl
  rw [List.cons_append, List.nil_append, List.nodup_cons, List.nodup_append, List.nodup_append] at hnd
  obtain ⟨hgn, hn1, ⟨hn0, hn3, hn03⟩, hn13⟩ := hnd
  simp only [List.mem_append, not_or] at hgn
  have hdf : ∀ b ∈ f, b ≠ g ∧ b ∉ f1 ∧ b ∉ f0 ∧ b ∉ f3 := fun b hb => by
    have := hd b hb
    simpa using this
  obtain ⟨ad', cap', he, _, _, _⟩ := row_open hown
  injection he with e1 e2 e3
  subst e2
  have hs := (hown.stored k u).1
  rw [hset] at hs
  refine ⟨?_, hown.frozenAt k, by rw [hgb]; simp, g :: (f1 ++ (f ++ f3)), ⟨A ++ [u] :: C, f1 ++ (f ++ f3), by rw [List.length_set]; exact hs, ?_, ?_, by rw [hgb]; simp, ?_⟩, ?_⟩
  · rw [hown.cellAt k (by omega), List.getElem?_eq_getElem (by omega)]
    exact ⟨_, rfl⟩
  · intro u' hu'
    simp at hu'
    rcases hu' with hu' | rfl | hu'
    · exact hone u' (by simp [hu'])
    · rfl
    · exact hone u' (by simp [hu'])
  · have hsx : xs.set k y = xs.take k ++ y :: xs.drop (k + 1) := List.set_eq_take_append_cons_drop.trans (if_pos hk)
    rw [hsx]
    have h1' := ownEls_only (w' := w.setCell ⟨g, k, none⟩ u) (g := [g]) (fun u x f h hd => hE _ _ _ _ _ _ h hO hd) h1 (fun b hb hm => hgn.1 (List.mem_singleton.1 hm ▸ hb))
    have h3' := ownEls_only (w' := w.setCell ⟨g, k, none⟩ u) (g := [g]) (fun u x f h hd => hE _ _ _ _ _ _ h hO hd) h3 (fun b hb hm => hgn.2.2 (List.mem_singleton.1 hm ▸ hb))
    exact ownEls_append h1' ⟨f, f3, rfl, hE _ _ _ _ _ _ hy hO (fun b hb hm => (hdf b hb).1 (List.mem_singleton.1 hm)), h3'⟩
  · rw [List.nodup_cons, List.nodup_append, List.nodup_append]
    refine ⟨fun hm => ?_, hn1, ⟨hn, hn3, fun a ha b hb e => (hdf a ha).2.2.2 (e ▸ hb)⟩, fun a ha b hb e => ?_⟩
    · simp only [List.mem_append] at hm
      rcases hm with hm | hm | hm
      · exact hgn.1 hm
      · exact (hdf g hm).1 rfl
      · exact hgn.2.2 hm
    · simp only [List.mem_append] at hb
      rcases hb with hb | hb
      · exact (hdf b hb).2.1 (e ▸ ha)
      · exact hn13 a ha b (by simp [hb]) e
  · intro b hb
    rw [hgb]
    simp at hb ⊢
    rcases hb with rfl | hb | hb | hb
    · left; left; rfl
    · left; right; left; exact hb
    · right; exact hb
    · left; right; right; right; exact hb
end Go.Proofs.YtbcjhpgkodeoeaaGreatDoor
