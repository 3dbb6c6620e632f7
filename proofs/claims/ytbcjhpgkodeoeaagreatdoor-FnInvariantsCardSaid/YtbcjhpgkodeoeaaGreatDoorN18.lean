/- The texts SHam, HamF, HamI, LitM in one: each says at its head what it proves. Conditions: as said there. -/
import Derived.Deep.RegionLaw
import Derived.Test.YtbcjhpgkodeoeaaGreatDoorN17
import Derived.Test.YtbcjhpgkodeoeaaGreatDoorN04
import Derived.Test.YtbcjhpgkodeoeaaGreatDoorN13
set_option linter.unusedSimpArgs false
set_option linter.unusedVariables false
/- The reference's derivative of a polynomial with respect to a variable. Conditions: valid polynomials. -/
namespace Go.Proofs.YtbcjhpgkodeoeaaGreatDoor
open Go.RowKit Go.Sort

theorem xbox_put {e gq n cap B : Nat} {W1 W3 wa : World} {c : Int} {ps : List Int} (hra : Below W1.heap.size W1 wa) (hop : OwnI e wa (.slice (some ⟨gq, 0, none⟩) n cap) ps [gq]) (hl : ps.length = n) (hq : W1.heap.size ≤ gq) (hB : W1.heap.size ≤ B) (hne : gq ≠ B)
    {a b : Value} (h0 : wa.cell? ⟨B, 0, none⟩ = some a) (h1 : wa.cell? ⟨B, 1, none⟩ = some b)
    (hW : W3 = (wa.setCell ⟨B, 0, none⟩ (.int .i64 c)).setCell ⟨B, 1, none⟩ (.slice (some ⟨gq, 0, none⟩) n cap)) : XBox e W1 W3 B gq n cap c ps := by
  have hO : Only [B] wa W3 := by
    rw [hW]
    exact ((Only.refl _ _).setCell (by simp) _).setCell (by simp) _
  refine ⟨hra.trans (hO.below hra.size (by intro g hg; rw [List.mem_singleton.1 hg]; exact hB)), ?_, ?_, ownI_only hop hO (fun b hb hm => by simp at hb hm; omega), hl, hne, hq⟩
  · rw [hW]; exact (World.cell?_setCell_other _ _ _ _ (by simp)).trans (World.cell?_setCell_same _ _ _ h0)
  · rw [hW]; exact World.cell?_setCell_same _ _ _ ((World.cell?_setCell_other _ _ _ _ (by simp)).trans h1)

/-- A copy by an append to an empty slice of the call's own. -/
theorem app_own {e E n : Nat} {W w1 w2 : World} {xs : List Int} {gg capn : Nat} (hb : Below W.heap.size W w1) (hown : w2.ownsRow 0 e 1 (.slice (some ⟨gg, 0, none⟩) (0 + n) capn) (0 + n) ([] ++ xs.map (Value.int .i64))) (hg : w1.grownBy w2 (some E)) (hE : W.heap.size ≤ E)
    (hat : E = gg ∨ gg = w1.heap.size) (hn : xs.length = n) (hI : ∀ x ∈ xs, I64 x) : OwnI e w2 (.slice (some ⟨gg, 0, none⟩) n capn) xs [gg] ∧ W.heap.size ≤ gg ∧ Below W.heap.size W w2 := by
  rw [Nat.zero_add, List.nil_append] at hown
  have hs := hb.size
  refine ⟨⟨by rw [hn]; exact hown, rfl, hI⟩, ?_, hb.grown hg hs (fun k hk => by simp at hk; omega)⟩
  rcases hat with h | h <;> omega
theorem below3 {w w' : World} {b i b' i' b'' i'' : Nat} {v v' v'' : Value} (hb : Below w.heap.size w w') (h : w.cell? ⟨b, i, none⟩ = some v ∧ w.cell? ⟨b', i', none⟩ = some v' ∧ w.cell? ⟨b'', i'', none⟩ = some v'') :
    w'.cell? ⟨b, i, none⟩ = some v ∧ w'.cell? ⟨b', i', none⟩ = some v' ∧ w'.cell? ⟨b'', i'', none⟩ = some v'' := ⟨cell_below hb h.1, cell_below hb h.2.1, cell_below hb h.2.2⟩
theorem put3 {w : World} {g : Nat} {c d : Value} {b i b' i' b'' i'' : Nat} {v v' v'' : Value} (h1 : b ≠ g) (h2 : b' ≠ g) (h3 : b'' ≠ g) (h : w.cell? ⟨b, i, none⟩ = some v ∧ w.cell? ⟨b', i', none⟩ = some v' ∧ w.cell? ⟨b'', i'', none⟩ = some v'') :
    ((w.setCell ⟨g, 0, none⟩ c).setCell ⟨g, 1, none⟩ d).cell? ⟨b, i, none⟩ = some v ∧ ((w.setCell ⟨g, 0, none⟩ c).setCell ⟨g, 1, none⟩ d).cell? ⟨b', i', none⟩ = some v' ∧ ((w.setCell ⟨g, 0, none⟩ c).setCell ⟨g, 1, none⟩ d).cell? ⟨b'', i'', none⟩ = some v'' := by
  have hO : Only [g] w ((w.setCell ⟨g, 0, none⟩ c).setCell ⟨g, 1, none⟩ d) := ((Only.refl _ _).setCell (by simp) _).setCell (by simp) _
  exact ⟨cell_only hO (by simpa using h1) h.1, cell_only hO (by simpa using h2) h.2.1, cell_only hO (by simpa using h3) h.2.2⟩
theorem alloc_lit {w : World} {e : Nat} : (w.alloc (.cells #[] e)).ownsRow 0 e 1 (.slice (some ⟨w.heap.size, 0, none⟩) 0 0) 0 [] := by
  simpa using World.ownsRow_lit (base := 0) (e := e) (size := 1) w #[] 0 (Nat.zero_le _) (Nat.zero_le _) rfl
theorem box_in {w2 : World} {B : Nat} {a b : Value} {row : Option Nat} {w1 : World} (hg : w1.grownBy w2 row) (h : w1.cell? ⟨B, 0, none⟩ = some a ∧ w1.cell? ⟨B, 1, none⟩ = some b ∧ w1.frozen? ⟨B, 0, none⟩ = false ∧ w1.frozen? ⟨B, 1, none⟩ = false) (hn : some B ≠ row) :
    w2.cell? ⟨B, 0, none⟩ = some a ∧ w2.cell? ⟨B, 1, none⟩ = some b ∧ w2.frozen? ⟨B, 0, none⟩ = false ∧ w2.frozen? ⟨B, 1, none⟩ = false :=
  have hl := World.block_lt_of_cell? _ _ h.1
  ⟨(hg.cell_far ⟨B, 0, none⟩ hl hn).trans h.1, (hg.cell_far ⟨B, 1, none⟩ hl hn).trans h.2.1, (hg.frozen_far ⟨B, 0, none⟩ hl hn).trans h.2.2.1, (hg.frozen_far ⟨B, 1, none⟩ hl hn).trans h.2.2.2⟩
theorem box_at {w W : World} {e : Nat} {a b : Value} (hb : Below (w.alloc (.cells #[a, b] e)).heap.size (w.alloc (.cells #[a, b] e)) W) :
    W.cell? ⟨w.heap.size, 0, none⟩ = some a ∧ W.cell? ⟨w.heap.size, 1, none⟩ = some b ∧ W.frozen? ⟨w.heap.size, 0, none⟩ = false ∧ W.frozen? ⟨w.heap.size, 1, none⟩ = false := by
  have hlt : w.heap.size < (w.alloc (.cells #[a, b] e)).heap.size := by simp
  refine ⟨(hb.cell (p := ⟨w.heap.size, 0, none⟩) hlt).trans ?_, (hb.cell (p := ⟨w.heap.size, 1, none⟩) hlt).trans ?_, (hb.frozen (p := ⟨w.heap.size, 0, none⟩) hlt).trans ?_, (hb.frozen (p := ⟨w.heap.size, 1, none⟩) hlt).trans ?_⟩ <;> simp

set_option maxRecDepth 100000 in
set_option maxHeartbeats 6400000 in
theorem sPart_any (vp : Value) (p : List MonZ) (v n : Nat) (s : Int) (w : World) (hp : RdMs w vp p) (hp12 : p.length ≤ 12) (hpm : ∀ m ∈ p, MonFine n m) (hn6 : n ≤ 6) (hv : v < n) (hs : -1 ≤ s ∧ s ≤ 1) :
    Calls Tryz.prog 81 #[vp, .int .i64 (v : Int), .int .i64 s] w (Gives (fun w' v' fp => OwnMs 56 3 w' v' (partL v s p) fp) w) := by
  obtain ⟨ad1, len1, cap1, rfl, hl1, hlc1, hcm1, h1'⟩ := rdS_open hp
  rw [hl1] at hp12
  have HL1 := Lib.hid hl1
  have HPM := Lib.hid hpm
  have hvI : (v : Int) < n := by omega
  clear hp hl1 hpm
  obtain ⟨j1, hj1, hw0, hw1, hw2⟩ := info_parts Tryz.info_mon
  obtain ⟨i0, hi, hz0, hz1, hz2⟩ := info_parts Tryz.info_int
  obtain ⟨hsl, hsh⟩ := hs
  go_enter Tryz.func81, Tryz.ntmps81
  go_wp2
  have HO0 := Lib.hid (show OwnMs 56 3 (w.alloc (.cells #[] 56)) (.slice (some ⟨w.heap.size, 0, none⟩) 0 0) [] [w.heap.size] from ⟨[], [], by simpa using World.ownsRow_lit (base := 0) (e := 56) (size := 2) w #[] 0 (Nat.zero_le _) (Nat.zero_le _) rfl, by simp, rfl, rfl, by simp⟩)
  have HB0 := Lib.hid (show Below w.heap.size w (w.alloc (.cells #[] 56)) from (Below.refl _ _).alloc (Nat.le_refl _) _)
  go_loopw [7, 8] (fun u i wr => ∃ (k : Nat) (fs : List Nat), k ≤ len1 ∧ i = .int .i64 k ∧ OwnMs 56 3 wr u (partL v s (p.take k)) fs ∧ (∀ b ∈ fs, w.heap.size ≤ b) ∧ Below w.heap.size w wr) (fun _ i _ => len1 - (intOf i).toNat)
  case atStart => exact ⟨0, [w.heap.size], Nat.zero_le _, rfl, by simpa [partL] using HO0.out, by simp, HB0.out⟩
  case round =>
    obtain ⟨wk, rfl⟩ : ∃ W, W = wr := ⟨_, rfl⟩
    obtain ⟨k, fs0, hk, rfl, ho, hf, hb⟩ := hrel
    clear HO0 HB0
    by_cases hlt : k < len1
    case neg =>
      obtain rfl : k = len1 := by omega
      rw [List.take_of_length_le (by rw [HL1.out]; exact Nat.le_refl _)] at ho
      go_wp2
      go_ret
      exact ⟨_, fs0, rfl, ho, hf, hb⟩
    obtain ⟨b5, o5, adm, lenm, capm, m, rfl, hm, hc0, hc1, hIm, h61, h71, h81, h91, _⟩ := rdMs_get (rdMs_mono hb h1') hlt
    obtain ⟨⟨hm0, hm1⟩, hmn, hmd, hmp⟩ := HPM.out m (List.mem_of_getElem? hm)
    obtain rfl : n = lenm := by omega
    obtain ⟨b6, o6, x, rfl, hx, hcx, hIx, _⟩ := rdI_get h91 hv
    obtain ⟨hx0, hx5⟩ := hmp x (List.mem_of_getElem? hx)
    have hxa : atZ m.pows v = x := atZ_get hx
    have hnx := partL_next (v := v) (s := s) hm
    obtain ⟨us, fs, hown, hone, hels, rfl, hnd⟩ := ho
    obtain ⟨adu, capu, rfl, hluc, hcum, _⟩ := row_open hown
    have HOWN := Lib.hid hown
    have HONE := Lib.hid hone
    have HELS := Lib.hid hels
    have HND := Lib.hid hnd
    have HF := Lib.hid hf
    have HB := Lib.hid hb
    by_cases hxp : 0 < x
    case neg =>
      have hE : partL v s (p.take (k + 1)) = partL v s (p.take k) := by rw [hnx, partM, if_neg (by rw [hxa]; exact hxp)]; simp
      have HO : Hid (OwnMs 56 3 wk (.slice adu (partL v s (p.take k)).length capu) (partL v s (p.take (k + 1))) ((Value.slice adu (partL v s (p.take k)).length capu).ownBlock.toList ++ fs)) := Lib.hid (by rw [hE]; exact ⟨us, fs, hown, hone, hels, rfl, hnd⟩)
      clear hE hnx hm h61 h91 hx hxa hmn hmp hmd hown hone hels hnd hf hb
      go_wp2
      go_roundw
      case rel => exact ⟨k + 1, _, by omega, by go_num, HO.out, HF.out, HB.out⟩
      case measure => simp [intOf]; omega
    have hE : partL v s (p.take (k + 1)) = partL v s (p.take k) ++ [⟨timesZ m.coef (s * x), m.pows.set v (x - 1)⟩] := by rw [hnx, partM, if_pos (by rw [hxa]; exact hxp), hxa]; rfl
    have hsx : -5 ≤ s * x ∧ s * x ≤ 5 := by
      rcases (show s = -1 ∨ s = 0 ∨ s = 1 by omega) with rfl | rfl | rfl <;> omega
    obtain ⟨hsx1, hsx2⟩ := hsx
    have usx : IntKind.i64.wrap (s * x) = s * x := IntWalk.i64_in _ (by omega)
    have hS0 : wk.cell? ⟨b5, o5 + k * 2, none⟩ = some (.int .i64 m.coef) ∧ wk.cell? ⟨b5, o5 + k * 2 + 1, none⟩ = some (.slice (some ⟨b6, o6, none⟩) n capm) ∧ wk.cell? ⟨b6, o6 + v, none⟩ = some (.int .i64 x) := ⟨hc0, hc1, hcx⟩
    have HS0 := Lib.hid hS0
    have hl5 := World.block_lt_of_cell? _ _ hc0
    have hl6 := World.block_lt_of_cell? _ _ hcx
    simp only at hl5 hl6
    have hdr : Below wk.heap.size wk wk.drew := (Below.refl _ _).drew
    have HNW := Lib.hid (fun (wz : World) (hz : Below wk.heap.size wk wz) => rdI_news (rdI_mono hz h91))
    have hbC : Below wk.heap.size wk (wk.alloc (.cells #[] 3)) := (Below.refl _ _).alloc (Nat.le_refl _) _
    have hbB : Below wk.heap.size wk ((wk.alloc (.cells #[] 3)).alloc (.cells #[.int .i64 0, .slice none 0 0] 56)) := hbC.alloc hbC.size _
    have hbX : Below wk.heap.size wk (wk.alloc (.cells #[.int .i64 0, .slice none 0 0] 56)) := (Below.refl _ _).alloc (Nat.le_refl _) _
    have hbA : Below wk.heap.size wk ((wk.alloc (.cells #[.int .i64 0, .slice none 0 0] 56)).alloc (.cells #[] 3)) := hbX.alloc hbX.size _
    have RC := Lib.hid (show ((wk.alloc (.cells #[] 3)).drew).ownsRow 0 3 1 (.slice (some ⟨wk.heap.size, 0, none⟩) 0 0) 0 [] from alloc_lit (w := wk))
    have RB := Lib.hid (show (((wk.alloc (.cells #[] 3)).alloc (.cells #[.int .i64 0, .slice none 0 0] 56)).drew).ownsRow 0 3 1 (.slice (some ⟨wk.heap.size, 0, none⟩) 0 0) 0 [] from (alloc_lit (w := wk)).alloc _)
    have RA := Lib.hid (show (((wk.alloc (.cells #[.int .i64 0, .slice none 0 0] 56)).alloc (.cells #[] 3)).drew).ownsRow 0 3 1 (.slice (some ⟨wk.heap.size + 1, 0, none⟩) 0 0) 0 [] from by
      have := alloc_lit (w := wk.alloc (.cells #[.int .i64 0, .slice none 0 0] 56)) (e := 3)
      rw [show (wk.alloc (.cells #[.int .i64 0, .slice none 0 0] 56)).heap.size = wk.heap.size + 1 by simp] at this
      exact this)
    have HB2 := Lib.hid (box_at (w := wk.alloc (.cells #[] 3)) (e := 56) (a := .int .i64 0) (b := .slice none 0 0) ((Below.refl _ _).drew))
    have HA2 := Lib.hid (box_at (w := wk) (e := 56) (a := .int .i64 0) (b := .slice none 0 0) (((Below.refl _ _).alloc (Nat.le_refl _) (.cells #[] 3)).drew))
    have hszc : (wk.alloc (.cells #[] 3)).heap.size = wk.heap.size + 1 := by simp
    rw [hszc] at HB2
    have HBC := Lib.hid hbC
    have HBB := Lib.hid hbB
    have HBA := Lib.hid hbA
    have HBX := Lib.hid hbX
    have HE := Lib.hid hE
    have HX := Lib.hid hx
    have HMN := Lib.hid hmn
    have HMI := Lib.hid (i64_all h91)
    have HXX := Lib.hid hxa
    clear hE hnx hm h61 h91 hx hxa hmn hmp hmd hown hone hels hnd hf hb hszc hbC hbB hbA hbX hS0
    go_wp2
    go_cut [9] from 11 to 63 (fun s9 wx => ∃ (B3 gq capq : Nat), s9 = .pointer (some ⟨B3, 0, none⟩) ∧ XBox 3 wk wx B3 gq n capq (timesZ m.coef (s * x)) m.pows)
    case first =>
      go_region_held3 (fun w' => w'.cell? ⟨b5, o5 + k * 2, none⟩ = some (.int .i64 m.coef) ∧ w'.cell? ⟨b5, o5 + k * 2 + 1, none⟩ = some (.slice (some ⟨b6, o6, none⟩) n capm) ∧ w'.cell? ⟨b6, o6 + v, none⟩ = some (.int .i64 x)) (first | exact HS0.out | exact below3 ((Below.refl _ _).drew) HS0.out | exact hSa | exact below3 HBC.out.drew HS0.out | exact below3 HBX.out.drew HS0.out | exact below3 HBB.out.drew HS0.out | exact below3 HBA.out.drew HS0.out | exact below3 ((Below.refl _ _).alloc (Nat.le_refl _) _) hSa | exact put3 (by omega) (by omega) (by omega) hSa) (first | (go_at_call 23; (with_reducible refine (sTimes_any _ _ _).mono ?_); rintro e w' ⟨rfl, rfl⟩) | (refine step_append_lies _ (by rfl) _ _ _ (by rfl) 0 3 i0 _ 1 8 Tryz.underlying35 hi hz0 hz1 hz2 rfl (by omega) (.slice (some ⟨wk.heap.size, 0, none⟩) 0 0) 0 [] (by rfl) RC.out ⟨b6, o6, none⟩ n capm (m.pows.map (Value.int .i64)) (by rfl) (by rw [List.length_map, HMN.out, Nat.mul_one]) (HNW.out _ HBC.out.drew) (by intro u hu; simp only [List.mem_map] at hu; obtain ⟨z, _, rfl⟩ := hu; rfl) (by omega) (by unfold maxLen; omega) (by omega) (by simp) (wk.heap.size + 1) (by simp) ?_; intro gg capn wa hown1 hgrow hat hlt1; have hP := app_own HBC.out.drew hown1 (by simpa [Value.ownBlock] using hgrow) (Nat.le_refl _) (by simpa [Value.ownBlock] using hat) HMN.out HMI.out; have hSa := below3 hP.2.2 HS0.out; have HP := Lib.hid hP; clear hP hown1 hgrow) | (refine step_append_lies _ (by rfl) _ _ _ (by rfl) 0 3 i0 _ 1 8 Tryz.underlying35 hi hz0 hz1 hz2 rfl (by omega) (.slice (some ⟨wk.heap.size, 0, none⟩) 0 0) 0 [] (by rfl) RB.out ⟨b6, o6, none⟩ n capm (m.pows.map (Value.int .i64)) (by rfl) (by rw [List.length_map, HMN.out, Nat.mul_one]) (HNW.out _ HBB.out.drew) (by intro u hu; simp only [List.mem_map] at hu; obtain ⟨z, _, rfl⟩ := hu; rfl) (by omega) (by unfold maxLen; omega) (by omega) (by simp) (wk.heap.size + 2) (by simp) ?_; intro gg capn wa hown1 hgrow hat hlt1; have hP := app_own HBB.out.drew hown1 (by simpa [Value.ownBlock] using hgrow) (Nat.le_refl _) (by simpa [Value.ownBlock] using hat) HMN.out HMI.out; have hSa := below3 hP.2.2 HS0.out; have HP := Lib.hid hP; have HX2 := Lib.hid (box_in hgrow HB2.out (by simp [Value.ownBlock])); have hx0 := HX2.out.1; have hx1 := HX2.out.2.1; have hx2 := HX2.out.2.2.1; have hx3 := HX2.out.2.2.2; have hne : gg ≠ wk.heap.size + 1 := (by simp [Value.ownBlock] at hat; omega); clear hP hown1 hgrow) | (refine step_append_lies _ (by rfl) _ _ _ (by rfl) 0 3 i0 _ 1 8 Tryz.underlying35 hi hz0 hz1 hz2 rfl (by omega) (.slice (some ⟨wk.heap.size + 1, 0, none⟩) 0 0) 0 [] (by rfl) RA.out ⟨b6, o6, none⟩ n capm (m.pows.map (Value.int .i64)) (by rfl) (by rw [List.length_map, HMN.out, Nat.mul_one]) (HNW.out _ HBA.out.drew) (by intro u hu; simp only [List.mem_map] at hu; obtain ⟨z, _, rfl⟩ := hu; rfl) (by omega) (by unfold maxLen; omega) (by omega) (by simp) (wk.heap.size + 2) (by simp) ?_; intro gg capn wa hown1 hgrow hat hlt1; have hP := app_own HBA.out.drew hown1 (by simpa [Value.ownBlock] using hgrow) (by omega) (by simpa [Value.ownBlock] using hat) HMN.out HMI.out; have hSa := below3 hP.2.2 HS0.out; have HP := Lib.hid hP; have HX2 := Lib.hid (box_in hgrow HA2.out (by simp [Value.ownBlock])); have hx0 := HX2.out.1; have hx1 := HX2.out.2.1; have hx2 := HX2.out.2.2.1; have hx3 := HX2.out.2.2.2; have hne : gg ≠ wk.heap.size := (by simp [Value.ownBlock] at hat; omega); clear hP hown1 hgrow))
      all_goals (
        go_wp2_with fail
        go_meet
        first
        | exact ⟨wa.heap.size, gg, capn, rfl, xbox_alloc HP.out.2.2 HP.out.1 HMN.out HP.out.2.1 rfl⟩
        | exact ⟨_, gg, capn, rfl, xbox_put HP.out.2.2 HP.out.1 HMN.out HP.out.2.1 (by omega) hne hx0 hx1 rfl⟩)
    case rest =>
      obtain ⟨B3, gq, capq, rfl, hXB⟩ := hcut
      have hXc0 := hXB.c0
      have hXc1 := hXB.c1
      obtain ⟨hgx, hgf, hXB4⟩ := hXB.dec HX.out hxp hx5
      have hY0 := hXB4.c0
      have hY1 := hXB4.c1
      have hbk4 := hXB4.below
      have hLle : (partL v s (p.take k)).length ≤ 12 := by
        have h1 := List.length_filterMap_le (partM v s) (p.take k)
        rw [List.length_take] at h1
        unfold partL
        omega
      have hI4 : I64 (timesZ m.coef (s * x)) := i64_of_bd (timesZ_bd _ _)
      have hal : Below (wc.setCell ⟨gq, v, none⟩ (.int .i64 (x - 1))).heap.size (wc.setCell ⟨gq, v, none⟩ (.int .i64 (x - 1))) (((wc.setCell ⟨gq, v, none⟩ (.int .i64 (x - 1))).alloc (.cells #[.int .i64 (timesZ m.coef (s * x)), .slice (some ⟨gq, 0, none⟩) n capq] 56)).drew) := ((Below.refl _ _).alloc (Nat.le_refl _) _).drew
      have hsz4 : (wc.setCell ⟨gq, v, none⟩ (.int .i64 (x - 1))).heap.size = wc.heap.size := by simp
      have hgk : ∀ b ∈ [gq], wk.heap.size ≤ b := fun b hb => by
        have h1 := hXB.hq
        rw [List.mem_singleton.1 hb]
        exact h1
      have HNQ := Lib.hid (show (((wc.setCell ⟨gq, v, none⟩ (.int .i64 (x - 1))).alloc (.cells #[.int .i64 (timesZ m.coef (s * x)), .slice (some ⟨gq, 0, none⟩) n capq] 56)).drew).ownsRow 0 56 2 (.slice adu (partL v s (p.take k)).length capu) (partL v s (p.take k)).length us.flatten from (ownsRow_only HOWN.out (Only.of_below (fp := []) hbk4) (by simp)).alloc _)
      have HS := Lib.hid (fun (w2 : World) (gg capn : Nat) (hown1 : w2.ownsRow 0 56 2 (.slice (some ⟨gg, 0, none⟩) ((partL v s (p.take k)).length + 1) capn) ((partL v s (p.take k)).length + 1) (us.flatten ++ [.int .i64 (timesZ m.coef (s * x)), .slice (some ⟨gq, 0, none⟩) n capq]))
          (hgrow : (((wc.setCell ⟨gq, v, none⟩ (.int .i64 (x - 1))).alloc (.cells #[.int .i64 (timesZ m.coef (s * x)), .slice (some ⟨gq, 0, none⟩) n capq] 56)).drew).grownBy w2 (Value.slice adu (partL v s (p.take k)).length capu).ownBlock) (hat : (Value.slice adu (partL v s (p.take k)).length capu).ownBlock = some gg ∨ gg = wc.heap.size + 1) =>
        ownMs_push (W := w) (m := ⟨timesZ m.coef (s * x), m.pows.set v (x - 1)⟩) HONE.out HELS.out HND.out HOWN.out rfl hXB4.own hI4 hgk HF.out HB.out hbk4 hal hown1 hgrow (fun b hb => by
          simp [Value.ownBlock] at hb
          subst hb
          rcases hat with hat | hat
          · left; exact hat
          · right; rw [hat]; simp [World.drew]))
      have HL := Lib.hid hLle
      clear hXB hXB4 hal hgk hbk4 hI4 hLle usx
      go_wp2
      (refine wp_region_still_tail 10 (by kernel_rfl) (by kernel_rfl) ?_; simp only [List.take_succ_cons, List.take_zero, List.drop_succ_cons, List.drop_zero]; (repeat (first | still_step )); refine wpStill_nil ?_; change wpList _ _ _ _ _ (World.drew _))
      go_wp2_with (first | (at_builtin; refine wpList_append_lies _ rfl _ _ _ rfl 0 56 j1 _ 2 32 Tryz.underlying24 hj1 hw0 hw1 hw2 rfl (by omega) (.slice adu (partL v s (p.take k)).length capu) (partL v s (p.take k)).length _ (by rfl) HNQ.out ⟨wc.heap.size, 0, none⟩ 1 1 [.int .i64 (timesZ m.coef (s * x)), .slice (some ⟨gq, 0, none⟩) n capq] (by rfl) (by rfl) (World.news_of_block (cs := #[.int .i64 (timesZ m.coef (s * x)), .slice (some ⟨gq, 0, none⟩) n capq]) (t := 56) (fr := (0, 0)) (by rw [← hsz4]; exact heap_alloc_new _ _)) (by simp [Value.oneCell']) (by omega) (by have := HL.out; unfold maxLen; omega) (by have := HL.out; omega) (by simp) (wc.heap.size + 1) (by simp) ?_; intro gg capn w2 hown1 hgrow hat hlt1; obtain ⟨f', hP1, hP2, hP3⟩ := HS.out w2 gg capn hown1 hgrow hat; have HPP := Lib.hid hP1))
      go_roundw
      case rel => exact ⟨k + 1, f', by omega, by go_num, by rw [HE.out]; exact HPP.out, hP2, hP3⟩
      case measure => simp [intOf]; omega
end Go.Proofs.YtbcjhpgkodeoeaaGreatDoor

/- HamiltonField of the reference and of the program. Conditions: lengths of slices up to 2^20. -/
namespace Go.Proofs.YtbcjhpgkodeoeaaGreatDoor
open Go.RowKit Go.Sort

def hamP (m : Nat) (h : List MonZ) : List (List MonZ) := (List.range (2 * m)).map fun k => if k < m then partL (m + k) 1 h else partL (k - m) (-1) h
theorem hamP_len (m : Nat) (h : List MonZ) : (hamP m h).length = 2 * m := by simp [hamP]
theorem hamP_lo {m k : Nat} {h : List MonZ} (hk : k < m) : (hamP m h)[k]? = some (partL (m + k) 1 h) := by
  rw [hamP, List.getElem?_map, List.getElem?_range (by omega)]
  simp [hk]
theorem hamP_hi {m k : Nat} {h : List MonZ} (hk : m ≤ k) (h2 : k < 2 * m) : (hamP m h)[k]? = some (partL (k - m) (-1) h) := by
  rw [hamP, List.getElem?_map, List.getElem?_range (by omega)]
  simp
  omega
def hamB (h : List MonZ) (dim : Int) : Bool := decide (dim.tmod 2 = 0) && polyOkB h dim
def hamF (h : List MonZ) (dim : Int) : FldZ := if hamB h dim = true then ⟨dim, hamP (dim.toNat / 2) h⟩ else ⟨0, []⟩
theorem sPart_at (vp : Value) (p : List MonZ) (v n : Nat) (nz s : Int) (w : World) (hz : nz = (v : Int)) (hp : RdMs w vp p) (hp12 : p.length ≤ 12) (hpm : ∀ m ∈ p, MonFine n m) (hn6 : n ≤ 6) (hv : v < n) (hs : -1 ≤ s ∧ s ≤ 1) :
    Calls Tryz.prog 81 #[vp, .int .i64 nz, .int .i64 s] w (Gives (fun w' v' fp => OwnMs 56 3 w' v' (partL v s p) fp) w) := by
  subst hz
  exact sPart_any vp p v n s w hp hp12 hpm hn6 hv hs
theorem ham_dim {p : List MonZ} {dim : Int} (hev : dim.tmod 2 = 0) (hok : polyOkB p dim = true) : ∃ N m : Nat, dim = (N : Int) ∧ N = 2 * m ∧ 1 ≤ m ∧ m ≤ 3 ∧ (N : Int) / 2 = (m : Int) ∧ (N : Int).tdiv 2 = (m : Int) := by
  have hd : 1 ≤ dim ∧ dim ≤ 6 := by
    simp only [polyOkB, Bool.and_eq_true, dimB, decide_eq_true_eq] at hok
    exact hok.1.1
  rw [Int.tmod_eq_emod_of_nonneg (by omega)] at hev
  refine ⟨dim.toNat, dim.toNat / 2, by omega, by omega, by omega, by omega, by omega, ?_⟩
  rw [Int.tdiv_eq_ediv_of_nonneg (by omega)]
  omega

set_option maxRecDepth 100000 in
set_option maxHeartbeats 6400000 in
theorem sHam_any (vp : Value) (p : List MonZ) (dim : Int) (w : World) (hp : RdMs w vp p) (hI : I64 dim) :
    Calls Tryz.prog 72 #[vp, .int .i64 dim] w (Gives2 (fun w' v fp => OwnFld 24 56 3 w' v (hamF p dim) fp) (hamB p dim) w) := by
  obtain ⟨hlo, hhi⟩ := hI
  have hb0 : Below w.heap.size w (w.alloc (.cells #[.int .i64 0, .slice none 0 0] 30)) := (Below.refl _ _).alloc (Nat.le_refl _) _
  have hnone : ∀ W, Below w.heap.size w W → hamB p dim = false → Gives2 (fun w' v fp => OwnFld 24 56 3 w' v (hamF p dim) fp) (hamB p dim) w (.returned (.tuple #[.agg #[.int .i64 0, .slice none 0 0], .bool false])) W := by
    intro W hW hd
    rw [hd]
    refine ⟨_, [], rfl, ?_, by simp, hW⟩
    rw [hamF, hd]
    exact ⟨_, rfl, ⟨(by decide : (-9223372036854775808 : Int) ≤ 0), (by decide : (0 : Int) ≤ 9223372036854775807)⟩, [], [], World.ownsRow_nil _ _ _ _, by simp, rfl, rfl, by simp⟩
  by_cases hev : dim.tmod 2 = 0
  case neg =>
    have HN := Lib.hid (fun W hW => hnone W hW (by simp [hamB, hev]))
    have hbb : (dim.tmod 2 != 0) = true := by simpa using hev
    clear hnone hev
    go_enter Tryz.func72, Tryz.ntmps72
    go_wp2
    exact bodyPost_ret (v := .tuple #[.agg #[.int .i64 0, .slice none 0 0], .bool false]) (by simp [results, Tryz.results72, go_sem]) rfl (HN.out _ hb0)
  case pos =>
  have hbb : (dim.tmod 2 != 0) = false := by simpa using hev
  obtain ⟨W0, hW0⟩ : ∃ W, W = w.alloc (.cells #[.int .i64 0, .slice none 0 0] 30) := ⟨_, rfl⟩
  rw [← hW0] at hb0
  have hr := box_at (w := w) (e := 30) (a := .int .i64 0) (b := .slice none 0 0) (W := W0) (hW0 ▸ Below.refl _ _)
  have hsz : w.heap.size < W0.heap.size := by rw [hW0]; simp
  have HW0 := Lib.hid hW0
  clear hW0
  obtain ⟨ad, len, cap, rfl, hl, hlc, hcm, h'⟩ := rdS_open hp
  cases hok : polyOkB p dim with
  | false =>
    have HN := Lib.hid (fun W hW => hnone W hW (by simp [hamB, hev, hok]))
    clear hnone hev hl
    go_enter Tryz.func72, Tryz.ntmps72
    go_wp2_with fail
    rw [← HW0.out]
    refine (qt_below (sPolyOk_eq _ p dim _ (rdMs_mono hb0 h') hok)).mono ?_
    rintro e w1 ⟨rfl, hb1⟩
    obtain ⟨q0, q1, q2, q3⟩ := hr
    have hc0 := cell_below hb1 q0
    have hc1 := cell_below hb1 q1
    have hf0 := (hb1.frozen (p := ⟨w.heap.size, 0, none⟩) hsz).trans q2
    have hf1 := (hb1.frozen (p := ⟨w.heap.size, 1, none⟩) hsz).trans q3
    have HB := Lib.hid (hb0.trans (hb1.mono hb0.size))
    clear q0 q1 q2 q3 hb0 hb1 hp h'
    go_wp2
    exact bodyPost_ret (v := .tuple #[.agg #[.int .i64 0, .slice none 0 0], .bool false]) (by simp [results, Tryz.results72, go_sem, hc0, hc1]) rfl (HN.out _ ((HB.out.setCell (Nat.le_refl _) _).setCell (Nat.le_refl _) _))
  | true =>
    obtain ⟨N, m, rfl, hN, hm1, hm3, hq, hqt⟩ := ham_dim hev hok
    obtain ⟨_, _, p12, pfine⟩ := polyOk_facts hok
    have hE : hamF p (N : Int) = ⟨(N : Int), hamP m p⟩ := by
      rw [hamF, if_pos (by simp [hamB, hev, hok])]
      congr 2
      omega
    have HE := Lib.hid hE
    have HEB := Lib.hid (show hamB p (N : Int) = true by simp [hamB, hev, hok])
    have HP12 := Lib.hid p12
    have HPF := Lib.hid pfine
    have HN := Lib.hid hN
    have HQ := Lib.hid hq
    have hN6 : N ≤ 6 := by omega
    have hN1 : 1 ≤ N := by omega
    have hbb2 : ((N : Int) % 2 != 0) = false := by
      have : (N : Int) % 2 = 0 := by omega
      simpa using this
    clear hbb
    clear hnone hev hl hE p12 pfine hN hqt hq
    obtain ⟨j1, hj1, hw0, hw1, hw2⟩ := info_parts Tryz.info_mons
    go_enter Tryz.func72, Tryz.ntmps72
    go_wp2_with fail
    rw [← HW0.out]
    refine (qt_below (sPolyOk_eq _ p (N : Int) _ (rdMs_mono hb0 h') hok)).mono ?_
    rintro e w1 ⟨rfl, hb1⟩
    obtain ⟨q0, q1, q2, q3⟩ := hr
    have hc0 := cell_below hb1 q0
    have hc1 := cell_below hb1 q1
    have hf0 := (hb1.frozen (p := ⟨w.heap.size, 0, none⟩) hsz).trans q2
    have hf1 := (hb1.frozen (p := ⟨w.heap.size, 1, none⟩) hsz).trans q3
    have hbw1 := hb0.trans (hb1.mono hb0.size)
    have hsz1 : w.heap.size < w1.heap.size := by have := hb1.size; omega
    obtain ⟨W3, hW3⟩ : ∃ W, W = w1.alloc (.cells #[.int .i64 (N : Int), .slice none 0 0] 30) := ⟨_, rfl⟩
    have I0 := Lib.hid (fldInv_start (e1 := 24) (e2 := 56) (e := 3) hW3)
    have hb3 : Below w1.heap.size w1 W3 := hW3 ▸ (Below.refl _ _).alloc (Nat.le_refl _) _
    have HB3 := Lib.hid (hbw1.trans (hb3.mono hbw1.size))
    have HW3 := Lib.hid hW3
    have HR := Lib.hid (show _ ∧ _ ∧ _ ∧ _ from ⟨hc0, hc1, hf0, hf1⟩)
    have HB13 := Lib.hid hb3
    clear q0 q1 q2 q3 hb0 hb1 hp hc0 hc1 hf0 hf1 hbw1 hb3 hW3 hok
    go_wp2
    rw [← HW3.out]
    go_loopw [7] (fun i wr => ∃ (k : Nat) (u : Value) (fs : List Nat), k ≤ N ∧ i = .int .i64 k ∧ FldInv 24 56 3 W3 wr w1.heap.size (N : Int) u ((hamP m p).take k) fs) (fun i _ => N - (intOf i).toNat)
    case atStart => exact ⟨0, _, _, Nat.zero_le _, rfl, by simpa using I0.out⟩
    case round =>
      obtain ⟨wk, rfl⟩ : ∃ W, W = wr := ⟨_, rfl⟩
      obtain ⟨k, u, fs0, hk, rfl, hI⟩ := hrel
      clear I0
      have hbk := hI.below HB3.out (by omega)
      have htl := hamP_len m p
      by_cases hlt : k < N
      case neg =>
        obtain rfl : k = N := by omega
        rw [List.take_of_length_le (by rw [htl, HN.out]; exact Nat.le_refl _)] at hI
        have hi0 := hI.c0
        have hi1 := hI.c1
        have hbk3 : Only [w1.heap.size] w1 wk := (Only.of_below HB13.out).trans hI.only
        have hc0 := cell_only hbk3 (by simp; omega) HR.out.1
        have hc1 := cell_only hbk3 (by simp; omega) HR.out.2.1
        have hf0 : wk.frozen? ⟨w.heap.size, 0, none⟩ = false := (World.frozen?_of_block (hbk3.block _ hsz1 (by simp; omega))).trans HR.out.2.2.1
        have hf1 : wk.frozen? ⟨w.heap.size, 1, none⟩ = false := (World.frozen?_of_block (hbk3.block _ hsz1 (by simp; omega))).trans HR.out.2.2.2
        have HI := Lib.hid hI
        have HBK := Lib.hid hbk
        obtain ⟨adu, lu, cu, rfl⟩ := ownMss_slice hI.own
        have hszk : w1.heap.size < wk.heap.size := World.block_lt_of_cell? _ _ hi0
        clear hI hbk htl hbk3
        go_wp2
        refine bodyPost_ret (v := .tuple #[.agg #[.int .i64 (k : Int), .slice adu lu cu], .bool true]) (by simp [results, Tryz.results72, go_sem, hc0, hc1]) rfl ?_
        rw [HEB.out]
        have hO2 : Only [w.heap.size] wk ((wk.setCell ⟨w.heap.size, 0, none⟩ (.int .i64 (k : Int))).setCell ⟨w.heap.size, 1, none⟩ (.slice adu lu cu)) := ((Only.refl _ _).setCell (by simp) _).setCell (by simp) _
        exact ⟨_, fs0, rfl, by rw [HE.out]; exact ⟨_, rfl, ⟨by show (-9223372036854775808 : Int) ≤ (k : Int); omega, by show (k : Int) ≤ 9223372036854775807; omega⟩, ownMss_only HI.out.own hO2 (fun b hb hm => by have := HI.out.new b hb; have := HB3.out.size; have := HI.out.lt; simp at hm; omega)⟩, fun b hb => by { have := HI.out.new b hb; have := HB3.out.size; omega }, (HBK.out.setCell (Nat.le_refl _) _).setCell (Nat.le_refl _) _⟩
      have hkl : ((hamP m p).take k).length = k := by rw [List.length_take, htl]; have := HN.out; omega
      have hi1 := hI.c1
      have hfi1 := hI.f1
      have HI := Lib.hid hI
      obtain ⟨us, fs, hown, hone, hels, rfl, hnd⟩ := hI.own
      have HOWN := Lib.hid hown
      rw [hkl] at hown
      obtain ⟨adu, capu, rfl, hluc, hcum, _⟩ := row_open hown
      have HNU := Lib.hid hown
      have HONE := Lib.hid hone
      have HELS := Lib.hid hels
      have HND := Lib.hid hnd
      have HKL := Lib.hid hkl
      have HBK := Lib.hid hbk
      have hdr : Below wk.heap.size wk wk.drew := (Below.refl _ _).drew
      have hlw := World.block_lt_of_cell? _ _ hi1
      simp only at hlw
      have HPS := Lib.hid (fun (wa w2 : World) (q : Value) (x : List MonZ) (f : List Nat) (gg capn : Nat) (hp : OwnMs 56 3 wa q x f) (hf : ∀ b ∈ f, wk.heap.size ≤ b) (hq : Below wk.heap.size wk wa)
          (hown1 : w2.ownsRow 0 24 1 (.slice (some ⟨gg, 0, none⟩) (k + 1) capn) (k + 1) (us.flatten ++ [q])) (hgrow : (wa.alloc (.cells #[q] 24)).grownBy w2 (Value.slice adu k capu).ownBlock) (hat : (Value.slice adu k capu).ownBlock = some gg ∨ gg = wa.heap.size + 1) =>
        FldInv.push HI.out HONE.out HELS.out HND.out HOWN.out HKL.out hp hf hq ((Below.refl _ _).alloc (Nat.le_refl _) _) hown1 hgrow (fun b hb => by
          simp [Value.ownBlock] at hb
          subst hb
          rcases hat with hat | hat
          · left; exact hat
          · right; rw [hat]; simp))
      clear hown hone hels hnd hkl hbk htl hI
      by_cases hkm : k < m
      case pos =>
        have hsn : (hamP m p).take (k + 1) = (hamP m p).take k ++ [partL (m + k) 1 p] := take_snoc (hamP_lo hkm)
        have HSN := Lib.hid hsn
        have CL := Lib.hid (fun (nz : Int) (hz : nz = (m : Int) + k) => sPart_at (.slice ad len cap) p (m + k) N nz 1 wk.drew (by rw [hz]; simp) (rdMs_mono (HBK.out.trans (hdr.mono HBK.out.size)) h') HP12.out HPF.out hN6 (by have := HN.out; omega) (by omega))
        have hqq : (N : Int) / 2 = (m : Int) := HQ.out
        have um1 : IntKind.i64.wrap (m : Int) = m := IntWalk.i64_in _ (by omega)
        have um2 : IntKind.i64.wrap ((m : Int) + k) = (m : Int) + k := IntWalk.i64_in _ (by omega)
        clear hsn
        go_wp2
        go_region_law (first | (refine step_append_lies _ (by rfl) _ _ _ (by rfl) 0 24 j1 _ 1 24 Tryz.underlying28 hj1 hw0 hw1 hw2 rfl (by omega) (.slice adu k capu) k _ (by rfl) (HNQ.out.alloc _) ⟨wa.heap.size, 0, none⟩ 1 1 [.slice adq lq capq] (by rfl) (by rfl) (World.news_of_block (cs := #[.slice adq lq capq]) (t := 24) (fr := (0, 0)) (heap_alloc_new wa _)) (by simp [Value.oneCell']) (by omega) (by unfold maxLen; omega) (by omega) (by simp) (wa.heap.size + 1) (by simp) ?_; intro gg capn w2 hown1 hgrow hat hlt1; obtain ⟨hcB, hfB, fp', hP⟩ := HPS.out wa w2 _ _ fp1 gg capn HOP.out HFP.out HRA.out hown1 hgrow hat; have HPP := Lib.hid hP; clear hP hown1 hgrow) | (go_simp; first | (go_at_call 81; (with_reducible refine (CL.out _ rfl).mono ?_); rintro e wa ⟨p1, fp1, rfl, hop1, hfp1, hba⟩; have hra := hdr.trans (hba.mono hdr.size); have hi1a := cell_below hra hi1; have hfi1a := (hra.frozen (p := ⟨w1.heap.size, 1, none⟩) hlw).trans hfi1; obtain ⟨adq, lq, capq, rfl⟩ := ownMs_open hop1; have hi1b := cell_below (w := wa) ((Below.refl _ _).alloc (Nat.le_refl _) (.cells #[.slice adq lq capq] 24)) hi1a; have HOP := Lib.hid hop1; have HFP := Lib.hid (show ∀ b ∈ fp1, wk.heap.size ≤ b from fun b hb => (by have h1 := hfp1 b hb; have h2 := hdr.size; omega)); have HRA := Lib.hid hra; have HNQ := Lib.hid (ownsRow_only HNU.out (Only.of_below (fp := []) hra) (by simp)); clear hop1 hfp1 hba hra)))
        all_goals (
          go_wp2
          go_roundw
          case rel => exact ⟨k + 1, _, fp', by omega, by go_num, by rw [HSN.out]; exact HPP.out⟩
          case measure => simp [intOf]; omega)
      case neg =>
        have hsn : (hamP m p).take (k + 1) = (hamP m p).take k ++ [partL (k - m) (-1) p] := take_snoc (hamP_hi (by omega) (by have := HN.out; omega))
        have HSN := Lib.hid hsn
        have CL := Lib.hid (fun (nz : Int) (hz : nz = (k : Int) - m) => sPart_at (.slice ad len cap) p (k - m) N nz (-1) wk.drew (by omega) (rdMs_mono (HBK.out.trans (hdr.mono HBK.out.size)) h') HP12.out HPF.out hN6 (by have := HN.out; omega) (by omega))
        have hqq : (N : Int) / 2 = (m : Int) := HQ.out
        have um1 : IntKind.i64.wrap (m : Int) = m := IntWalk.i64_in _ (by omega)
        have um2 : IntKind.i64.wrap ((k : Int) - m) = (k : Int) - m := IntWalk.i64_in _ (by omega)
        clear hsn
        go_wp2
        go_region_law (first | (refine step_append_lies _ (by rfl) _ _ _ (by rfl) 0 24 j1 _ 1 24 Tryz.underlying28 hj1 hw0 hw1 hw2 rfl (by omega) (.slice adu k capu) k _ (by rfl) (HNQ.out.alloc _) ⟨wa.heap.size, 0, none⟩ 1 1 [.slice adq lq capq] (by rfl) (by rfl) (World.news_of_block (cs := #[.slice adq lq capq]) (t := 24) (fr := (0, 0)) (heap_alloc_new wa _)) (by simp [Value.oneCell']) (by omega) (by unfold maxLen; omega) (by omega) (by simp) (wa.heap.size + 1) (by simp) ?_; intro gg capn w2 hown1 hgrow hat hlt1; obtain ⟨hcB, hfB, fp', hP⟩ := HPS.out wa w2 _ _ fp1 gg capn HOP.out HFP.out HRA.out hown1 hgrow hat; have HPP := Lib.hid hP; clear hP hown1 hgrow) | (go_simp; first | (go_at_call 81; (with_reducible refine (CL.out _ rfl).mono ?_); rintro e wa ⟨p1, fp1, rfl, hop1, hfp1, hba⟩; have hra := hdr.trans (hba.mono hdr.size); have hi1a := cell_below hra hi1; have hfi1a := (hra.frozen (p := ⟨w1.heap.size, 1, none⟩) hlw).trans hfi1; obtain ⟨adq, lq, capq, rfl⟩ := ownMs_open hop1; have hi1b := cell_below (w := wa) ((Below.refl _ _).alloc (Nat.le_refl _) (.cells #[.slice adq lq capq] 24)) hi1a; have HOP := Lib.hid hop1; have HFP := Lib.hid (show ∀ b ∈ fp1, wk.heap.size ≤ b from fun b hb => (by have h1 := hfp1 b hb; have h2 := hdr.size; omega)); have HRA := Lib.hid hra; have HNQ := Lib.hid (ownsRow_only HNU.out (Only.of_below (fp := []) hra) (by simp)); clear hop1 hfp1 hba hra)))
        all_goals (
          go_wp2
          go_roundw
          case rel => exact ⟨k + 1, _, fp', by omega, by go_num, by rw [HSN.out]; exact HPP.out⟩
          case measure => simp [intOf]; omega)
end Go.Proofs.YtbcjhpgkodeoeaaGreatDoor

/- HamiltonField of the program. Conditions: lengths of slices up to 2^20. -/
namespace Go.Proofs.YtbcjhpgkodeoeaaGreatDoor
open Go.RowKit Go.Sort

theorem partL_pows {n v : Nat} {s : Int} {p : List MonZ} (h : ∀ m ∈ p, m.pows.length = n) : ∀ m ∈ partL v s p, m.pows.length = n := by
  intro m hm
  simp only [partL, List.mem_filterMap, partM] at hm
  obtain ⟨m', hm', hx⟩ := hm
  split at hx
  · simp at hx
    rw [← hx, List.length_set, h m' hm']
  · cases hx
/-- A field whose parts are replaced one by one. -/
structure FldPut (e1 e2 e : Nat) (W w : World) (Bf : Nat) (dim : Int) (g n cap : Nat) (xs : List (List MonZ)) (fs : List Nat) : Prop where
  own : OwnMss e1 e2 e w (.slice (some ⟨g, 0, none⟩) n cap) xs fs
  new : ∀ b ∈ fs, W.heap.size ≤ b ∧ b ≠ Bf
  below : Below W.heap.size W w
  c0 : w.cell? ⟨Bf, 0, none⟩ = some (.int .i64 dim)
  c1 : w.cell? ⟨Bf, 1, none⟩ = some (.slice (some ⟨g, 0, none⟩) n cap)
  hB : W.heap.size ≤ Bf
theorem FldPut.put {e1 e2 e : Nat} {W w wa : World} {Bf : Nat} {dim : Int} {g n cap : Nat} {xs : List (List MonZ)} {fs f : List Nat} {k : Nat} {x y : List MonZ} {u : Value} (h : FldPut e1 e2 e W w Bf dim g n cap xs fs) (hx : xs[k]? = some x)
    (hp : OwnMs e2 e wa u y f) (hf : ∀ b ∈ f, w.heap.size ≤ b) (hq : Below w.heap.size w wa) :
    (∃ c, wa.cell? ⟨g, k, none⟩ = some c) ∧ wa.frozen? ⟨g, k, none⟩ = false ∧ ∃ fp', FldPut e1 e2 e W (wa.setCell ⟨g, k, none⟩ u) Bf dim g n cap (xs.set k y) fp' := by
  have hwa := ownMss_only h.own (Only.of_below (fp := []) hq) (by simp)
  have hlt := ownMss_lt h.own
  have hBl := World.block_lt_of_cell? _ _ h.c0
  simp only at hBl
  obtain ⟨q1, q2, q3, fp', q4, q5⟩ := ownS_replace (El := OElMss e2 e) (fun w w' u x f g h ho hd => oelMss_only h ho hd) hwa hx ⟨u, rfl, hp⟩ (fun b hb hm => by have := hf b hb; have := hlt b hm; omega) (ownMs_nodup hp)
  have hgB : Bf ≠ g := fun e => (h.new g q3).2 e.symm
  have hSt : Only [g] wa (wa.setCell ⟨g, k, none⟩ u) := (Only.refl _ _).setCell (by simp) _
  refine ⟨q1, q2, fp', ⟨q4, fun b hb => ?_, ?_, cell_only hSt (by simpa using hgB) (cell_below hq h.c0), cell_only hSt (by simpa using hgB) (cell_below hq h.c1), h.hB⟩⟩
  · rcases q5 b hb with hb | hb
    · exact h.new b hb
    · have := hf b hb
      have := h.below.size
      exact ⟨by omega, by omega⟩
  · exact (h.below.trans (hq.mono h.below.size)).setCell (h.new g q3).1 _

end Go.Proofs.YtbcjhpgkodeoeaaGreatDoor

/- A literal of some monomials. Conditions: their powers lie in rows of the call's own. -/
namespace Go.Proofs.YtbcjhpgkodeoeaaGreatDoor
open Go.RowKit Go.Sort

theorem lit_mons {e2 e : Nat} {w : World} {X : List ElS} (cs : Array Value) (hcs : cs = (rowS X).toArray) (n : Nat) (hn : n = X.length) (h10 : n ≤ 10) (hX : ∀ z ∈ X, I64 z.c ∧ OwnI e w z.v z.ps z.f) (hnd : (X.flatMap ElS.f).Nodup) :
    OwnMs e2 e (w.alloc (.cells cs e2)) (.slice (some ⟨w.heap.size, 0, none⟩) n n) (X.map monS) (w.heap.size :: X.flatMap ElS.f) := by
  subst hn
  have hal : Below w.heap.size w (w.alloc (.cells cs e2)) := (Below.refl _ _).alloc (Nat.le_refl _) _
  have h := s_ownMs (e2 := e2) (e := e) (w := w.alloc (.cells cs e2)) (v := .slice (some ⟨w.heap.size, 0, none⟩) X.length X.length) (X := X)
    (by
      have hl : (rowS X).length = X.length * 2 := rowS_length X
      have := World.ownsRow_lit (base := 0) (e := e2) (size := 2) w cs X.length (Nat.zero_le _) (by unfold maxLen; omega) (by rw [hcs]; simpa using hl)
      rw [hcs] at this ⊢
      simpa using this)
    (fun z hz => ⟨(hX z hz).1, ownI_only (hX z hz).2 (Only.of_below (fp := []) hal) (by simp)⟩)
    (by
      refine List.nodup_append.2 ⟨by simp [Value.ownBlock], hnd, fun a ha b hb => ?_⟩
      simp [Value.ownBlock] at ha
      subst ha
      obtain ⟨z, hz, hb⟩ := List.mem_flatMap.1 hb
      have := ownI_lt (hX z hz).2 b hb
      omega)
  simpa [Value.ownBlock] using h
end Go.Proofs.YtbcjhpgkodeoeaaGreatDoor
