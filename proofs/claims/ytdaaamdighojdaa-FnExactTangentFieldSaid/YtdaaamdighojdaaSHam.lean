/- The reference's derivative of a polynomial with respect to a variable. Conditions: valid polynomials. -/
import Derived.Test.YtdaaamdighojdaaRep
import Derived.Deep.RegionLaw
set_option linter.unusedSimpArgs false
set_option linter.unusedVariables false
namespace Go.Proofs.Ytdaaamdighojdaa
open Go.RowKit Go.Sort

theorem xbox_put {e gq n cap B : Nat} {W1 W3 wa : World} {c : Int} {ps : List Int} (hra : Below W1.heap.size W1 wa) (hop : OwnI e wa (.slice (some ⟨gq, 0, none⟩) n cap) ps [gq]) (hl : ps.length = n) (hq : W1.heap.size ≤ gq) (hB : W1.heap.size ≤ B) (hne : gq ≠ B)
    {a b : Value} (h0 : wa.cell? ⟨B, 0, none⟩ = some a) (h1 : wa.cell? ⟨B, 1, none⟩ = some b)
    (hW : W3 = (wa.setCell ⟨B, 0, none⟩ (.int .i64 c)).setCell ⟨B, 1, none⟩ (.slice (some ⟨gq, 0, none⟩) n cap)) : XBox e W1 W3 B gq n cap c ps := by
  have hO : Only [B] wa W3 := by
    rw [hW]
    exact ((Only.refl _ _).setCell (by simp) _).setCell (by simp) _
  refine ⟨hra.trans (hO.below hra.size (by intro g hg; rw [List.mem_singleton.1 hg]; exact hB)), ?_, ?_, ownI_only hop hO (fun b hb hm => by simp at hb hm; omega), hl, hne, hq⟩
  · rw [hW]; exact (World.cell?_setCell_other _ _ _ _ (by simp)).trans (World.cell?_setCell_same _ _ _ h0)
  · rw [hW]; exact World.cell?_setCell_same _ _ _ ((World.cell?_setCell_other _ _ _ _ (by simp)).trans h1)

/-- A copy by an append to an empty slice of the call's own. -/
theorem app_own {e E n : Nat} {W w1 w2 : World} {xs : List Int} {gg capn : Nat} (hb : Below W.heap.size W w1) (hown : w2.ownsRow 0 e 1 (.slice (some ⟨gg, 0, none⟩) (0 + n) capn) (0 + n) ([] ++ xs.map (Value.int .i64))) (hg : w1.grownBy w2 (some E)) (hE : W.heap.size ≤ E)
    (hat : E = gg ∨ gg = w1.heap.size) (hn : xs.length = n) (hI : ∀ x ∈ xs, I64 x) : OwnI e w2 (.slice (some ⟨gg, 0, none⟩) n capn) xs [gg] ∧ W.heap.size ≤ gg ∧ Below W.heap.size W w2 := by
  rw [Nat.zero_add, List.nil_append] at hown
  have hs := hb.size
  refine ⟨⟨by rw [hn]; exact hown, rfl, hI⟩, ?_, hb.grown hg hs (fun k hk => by simp at hk; omega)⟩
  rcases hat with h | h <;> omega
theorem below3 {w w' : World} {b i b' i' b'' i'' : Nat} {v v' v'' : Value} (hb : Below w.heap.size w w') (h : w.cell? ⟨b, i, none⟩ = some v ∧ w.cell? ⟨b', i', none⟩ = some v' ∧ w.cell? ⟨b'', i'', none⟩ = some v'') :
    w'.cell? ⟨b, i, none⟩ = some v ∧ w'.cell? ⟨b', i', none⟩ = some v' ∧ w'.cell? ⟨b'', i'', none⟩ = some v'' := ⟨cell_below hb h.1, cell_below hb h.2.1, cell_below hb h.2.2⟩
theorem put3 {w : World} {g : Nat} {c d : Value} {b i b' i' b'' i'' : Nat} {v v' v'' : Value} (h1 : b ≠ g) (h2 : b' ≠ g) (h3 : b'' ≠ g) (h : w.cell? ⟨b, i, none⟩ = some v ∧ w.cell? ⟨b', i', none⟩ = some v' ∧ w.cell? ⟨b'', i'', none⟩ = some v'') :
    ((w.setCell ⟨g, 0, none⟩ c).setCell ⟨g, 1, none⟩ d).cell? ⟨b, i, none⟩ = some v ∧ ((w.setCell ⟨g, 0, none⟩ c).setCell ⟨g, 1, none⟩ d).cell? ⟨b', i', none⟩ = some v' ∧ ((w.setCell ⟨g, 0, none⟩ c).setCell ⟨g, 1, none⟩ d).cell? ⟨b'', i'', none⟩ = some v'' := by
  have hO : Only [g] w ((w.setCell ⟨g, 0, none⟩ c).setCell ⟨g, 1, none⟩ d) := ((Only.refl _ _).setCell (by simp) _).setCell (by simp) _
  exact ⟨cell_only hO (by simpa using h1) h.1, cell_only hO (by simpa using h2) h.2.1, cell_only hO (by simpa using h3) h.2.2⟩
theorem alloc_lit {w : World} {e : Nat} : (w.alloc (.cells #[] e)).ownsRow 0 e 1 (.slice (some ⟨w.heap.size, 0, none⟩) 0 0) 0 [] := by
  simpa using World.ownsRow_lit (base := 0) (e := e) (size := 1) w #[] 0 (Nat.zero_le _) (Nat.zero_le _) rfl
theorem box_in {w2 : World} {B : Nat} {a b : Value} {row : Option Nat} {w1 : World} (hg : w1.grownBy w2 row) (h : w1.cell? ⟨B, 0, none⟩ = some a ∧ w1.cell? ⟨B, 1, none⟩ = some b ∧ w1.frozen? ⟨B, 0, none⟩ = false ∧ w1.frozen? ⟨B, 1, none⟩ = false) (hn : some B ≠ row) :
    w2.cell? ⟨B, 0, none⟩ = some a ∧ w2.cell? ⟨B, 1, none⟩ = some b ∧ w2.frozen? ⟨B, 0, none⟩ = false ∧ w2.frozen? ⟨B, 1, none⟩ = false :=
  have hl := World.block_lt_of_cell? _ _ h.1
  ⟨(hg.cell_far ⟨B, 0, none⟩ hl hn).trans h.1, (hg.cell_far ⟨B, 1, none⟩ hl hn).trans h.2.1, (hg.frozen_far ⟨B, 0, none⟩ hl hn).trans h.2.2.1, (hg.frozen_far ⟨B, 1, none⟩ hl hn).trans h.2.2.2⟩
theorem box_at {w W : World} {e : Nat} {a b : Value} (hb : Below (w.alloc (.cells #[a, b] e)).heap.size (w.alloc (.cells #[a, b] e)) W) :
    W.cell? ⟨w.heap.size, 0, none⟩ = some a ∧ W.cell? ⟨w.heap.size, 1, none⟩ = some b ∧ W.frozen? ⟨w.heap.size, 0, none⟩ = false ∧ W.frozen? ⟨w.heap.size, 1, none⟩ = false := by
  have hlt : w.heap.size < (w.alloc (.cells #[a, b] e)).heap.size := by simp
  refine ⟨(hb.cell (p := ⟨w.heap.size, 0, none⟩) hlt).trans ?_, (hb.cell (p := ⟨w.heap.size, 1, none⟩) hlt).trans ?_, (hb.frozen (p := ⟨w.heap.size, 0, none⟩) hlt).trans ?_, (hb.frozen (p := ⟨w.heap.size, 1, none⟩) hlt).trans ?_⟩ <;> simp

theorem xbox_drew {e B3 gq n cap : Nat} {W1 W3 : World} {c : Int} {ps : List Int} (h : XBox e W1 W3 B3 gq n cap c ps) : XBox e W1 W3.drew B3 gq n cap c ps := by
  have hd : Below W3.heap.size W3 W3.drew := (Below.refl _ _).drew
  exact ⟨h.below.trans (hd.mono h.below.size), h.c0, h.c1, ownI_only h.own (Only.of_below (fp := []) hd) (by simp), h.len, h.ne, h.hq⟩

set_option maxRecDepth 100000 in
set_option maxHeartbeats 6400000 in
theorem sPart_any (vp : Value) (p : List MonZ) (v n : Nat) (s : Int) (w : World) (hp : RdMs w vp p) (hp12 : p.length ≤ 12) (hpm : ∀ m ∈ p, MonFine n m) (hn6 : n ≤ 6) (hv : v < n) (hs : -1 ≤ s ∧ s ≤ 1) :
    Calls Try.prog 75 #[vp, .int .i64 (v : Int), .int .i64 s] w (Gives (fun w' v' fp => OwnMs 91 3 w' v' (partL v s p) fp) w) := by
  obtain ⟨ad1, len1, cap1, rfl, hl1, hlc1, hcm1, h1'⟩ := rdS_open hp
  rw [hl1] at hp12
  have HL1 := Lib.hid hl1
  have HPM := Lib.hid hpm
  have hvI : (v : Int) < n := by omega
  clear hp hl1 hpm
  obtain ⟨j1, hj1, hw0, hw1, hw2⟩ := info_parts Try.info_mon
  obtain ⟨i0, hi, hz0, hz1, hz2⟩ := info_parts Try.info_int
  obtain ⟨hsl, hsh⟩ := hs
  go_enter Try.func75, Try.ntmps75
  go_wp2
  have HO0 := Lib.hid (show OwnMs 91 3 (w.alloc (.cells #[] 91)) (.slice (some ⟨w.heap.size, 0, none⟩) 0 0) [] [w.heap.size] from ⟨[], [], by simpa using World.ownsRow_lit (base := 0) (e := 91) (size := 2) w #[] 0 (Nat.zero_le _) (Nat.zero_le _) rfl, by simp, rfl, rfl, by simp⟩)
  have HB0 := Lib.hid (show Below w.heap.size w (w.alloc (.cells #[] 91)) from (Below.refl _ _).alloc (Nat.le_refl _) _)
  go_loopw [7, 8] (fun u i wr => ∃ (k : Nat) (fs : List Nat), k ≤ len1 ∧ i = .int .i64 k ∧ OwnMs 91 3 wr u (partL v s (p.take k)) fs ∧ (∀ b ∈ fs, w.heap.size ≤ b) ∧ Below w.heap.size w wr) (fun _ i _ => len1 - (intOf i).toNat)
  case atStart => exact ⟨0, [w.heap.size], Nat.zero_le _, rfl, by simpa [partL] using HO0.out, by simp, HB0.out⟩
  case round =>
    obtain ⟨wk, rfl⟩ : ∃ W, W = wr := ⟨_, rfl⟩
    obtain ⟨k, fs0, hk, rfl, ho, hf, hb⟩ := hrel
    clear HO0 HB0
    by_cases hlt : k < len1
    case neg =>
      obtain rfl : k = len1 := by omega
      rw [List.take_of_length_le (by rw [HL1.out]; exact Nat.le_refl _)] at ho
      go_wp2
      go_ret
      exact ⟨_, fs0, rfl, ho, hf, hb⟩
    obtain ⟨b5, o5, adm, lenm, capm, m, rfl, hm, hc0, hc1, hIm, h61, h71, h81, h91, _⟩ := rdMs_get (rdMs_mono hb h1') hlt
    obtain ⟨⟨hm0, hm1⟩, hmn, hmd, hmp⟩ := HPM.out m (List.mem_of_getElem? hm)
    obtain rfl : n = lenm := by omega
    obtain ⟨b6, o6, x, rfl, hx, hcx, hIx, _⟩ := rdI_get h91 hv
    obtain ⟨hx0, hx5⟩ := hmp x (List.mem_of_getElem? hx)
    have hxa : atZ m.pows v = x := atZ_get hx
    have hnx := partL_next (v := v) (s := s) hm
    obtain ⟨us, fs, hown, hone, hels, rfl, hnd⟩ := ho
    obtain ⟨adu, capu, rfl, hluc, hcum, _⟩ := row_open hown
    have HOWN := Lib.hid hown
    have HONE := Lib.hid hone
    have HELS := Lib.hid hels
    have HND := Lib.hid hnd
    have HF := Lib.hid hf
    have HB := Lib.hid hb
    by_cases hxp : 0 < x
    case neg =>
      have hE : partL v s (p.take (k + 1)) = partL v s (p.take k) := by rw [hnx, partM, if_neg (by rw [hxa]; exact hxp)]; simp
      have HO : Hid (OwnMs 91 3 wk (.slice adu (partL v s (p.take k)).length capu) (partL v s (p.take (k + 1))) ((Value.slice adu (partL v s (p.take k)).length capu).ownBlock.toList ++ fs)) := Lib.hid (by rw [hE]; exact ⟨us, fs, hown, hone, hels, rfl, hnd⟩)
      clear hE hnx hm h61 h91 hx hxa hmn hmp hmd hown hone hels hnd hf hb
      go_wp2
      go_roundw
      case rel => exact ⟨k + 1, _, by omega, by go_num, HO.out, HF.out, HB.out⟩
      case measure => simp [intOf]; omega
    have hE : partL v s (p.take (k + 1)) = partL v s (p.take k) ++ [⟨timesZ m.coef (s * x), m.pows.set v (x - 1)⟩] := by rw [hnx, partM, if_pos (by rw [hxa]; exact hxp), hxa]; rfl
    have hsx : -5 ≤ s * x ∧ s * x ≤ 5 := by
      rcases (show s = -1 ∨ s = 0 ∨ s = 1 by omega) with rfl | rfl | rfl <;> omega
    obtain ⟨hsx1, hsx2⟩ := hsx
    have usx : IntKind.i64.wrap (s * x) = s * x := IntWalk.i64_in _ (by omega)
    have hS0 : wk.cell? ⟨b5, o5 + k * 2, none⟩ = some (.int .i64 m.coef) ∧ wk.cell? ⟨b5, o5 + k * 2 + 1, none⟩ = some (.slice (some ⟨b6, o6, none⟩) n capm) ∧ wk.cell? ⟨b6, o6 + v, none⟩ = some (.int .i64 x) := ⟨hc0, hc1, hcx⟩
    have HS0 := Lib.hid hS0
    have hl5 := World.block_lt_of_cell? _ _ hc0
    have hl6 := World.block_lt_of_cell? _ _ hcx
    simp only at hl5 hl6
    have hdr : Below wk.heap.size wk wk.drew := (Below.refl _ _).drew
    have HNW := Lib.hid (fun (wz : World) (hz : Below wk.heap.size wk wz) => rdI_news (rdI_mono hz h91))
    have hbC : Below wk.heap.size wk (wk.alloc (.cells #[] 3)) := (Below.refl _ _).alloc (Nat.le_refl _) _
    have hbB : Below wk.heap.size wk ((wk.alloc (.cells #[] 3)).alloc (.cells #[.int .i64 0, .slice none 0 0] 91)) := hbC.alloc hbC.size _
    have hbX : Below wk.heap.size wk (wk.alloc (.cells #[.int .i64 0, .slice none 0 0] 91)) := (Below.refl _ _).alloc (Nat.le_refl _) _
    have hbA : Below wk.heap.size wk ((wk.alloc (.cells #[.int .i64 0, .slice none 0 0] 91)).alloc (.cells #[] 3)) := hbX.alloc hbX.size _
    have RC := Lib.hid (show ((wk.alloc (.cells #[] 3)).drew).ownsRow 0 3 1 (.slice (some ⟨wk.heap.size, 0, none⟩) 0 0) 0 [] from alloc_lit (w := wk))
    have RB := Lib.hid (show (((wk.alloc (.cells #[] 3)).alloc (.cells #[.int .i64 0, .slice none 0 0] 91)).drew).ownsRow 0 3 1 (.slice (some ⟨wk.heap.size, 0, none⟩) 0 0) 0 [] from (alloc_lit (w := wk)).alloc _)
    have RA := Lib.hid (show (((wk.alloc (.cells #[.int .i64 0, .slice none 0 0] 91)).alloc (.cells #[] 3)).drew).ownsRow 0 3 1 (.slice (some ⟨wk.heap.size + 1, 0, none⟩) 0 0) 0 [] from by
      have := alloc_lit (w := wk.alloc (.cells #[.int .i64 0, .slice none 0 0] 91)) (e := 3)
      rw [show (wk.alloc (.cells #[.int .i64 0, .slice none 0 0] 91)).heap.size = wk.heap.size + 1 by simp] at this
      exact this)
    have HB2 := Lib.hid (box_at (w := wk.alloc (.cells #[] 3)) (e := 91) (a := .int .i64 0) (b := .slice none 0 0) ((Below.refl _ _).drew))
    have HA2 := Lib.hid (box_at (w := wk) (e := 91) (a := .int .i64 0) (b := .slice none 0 0) (((Below.refl _ _).alloc (Nat.le_refl _) (.cells #[] 3)).drew))
    have hszc : (wk.alloc (.cells #[] 3)).heap.size = wk.heap.size + 1 := by simp
    rw [hszc] at HB2
    have HBC := Lib.hid hbC
    have HBB := Lib.hid hbB
    have HBA := Lib.hid hbA
    have HBX := Lib.hid hbX
    have HE := Lib.hid hE
    have HX := Lib.hid hx
    have HMN := Lib.hid hmn
    have HMI := Lib.hid (i64_all h91)
    have HXX := Lib.hid hxa
    clear hE hnx hm h61 h91 hx hxa hmn hmp hmd hown hone hels hnd hf hb hszc hbC hbB hbA hbX hS0
    go_wp2
    go_cut [9] from 11 to 63 (fun s9 wx => ∃ (B3 gq capq : Nat), s9 = .pointer (some ⟨B3, 0, none⟩) ∧ XBox 3 wk wx B3 gq n capq (timesZ m.coef (s * x)) m.pows)
    case first =>
      go_region_held3 (fun w' => w'.cell? ⟨b5, o5 + k * 2, none⟩ = some (.int .i64 m.coef) ∧ w'.cell? ⟨b5, o5 + k * 2 + 1, none⟩ = some (.slice (some ⟨b6, o6, none⟩) n capm) ∧ w'.cell? ⟨b6, o6 + v, none⟩ = some (.int .i64 x)) (first | exact HS0.out | exact below3 ((Below.refl _ _).drew) HS0.out | exact hSa | exact below3 HBC.out.drew HS0.out | exact below3 HBX.out.drew HS0.out | exact below3 HBB.out.drew HS0.out | exact below3 HBA.out.drew HS0.out | exact below3 ((Below.refl _ _).alloc (Nat.le_refl _) _) hSa | exact put3 (by omega) (by omega) (by omega) hSa) (first | (go_at_call 97; (with_reducible refine (sTimes_any _ _ _).mono ?_); rintro e w' ⟨rfl, rfl⟩) | (refine step_append_lies _ (by rfl) _ _ _ (by rfl) 0 3 i0 _ 1 8 Try.underlying24 hi hz0 hz1 hz2 rfl (by omega) (.slice (some ⟨wk.heap.size, 0, none⟩) 0 0) 0 [] (by rfl) RC.out ⟨b6, o6, none⟩ n capm (m.pows.map (Value.int .i64)) (by rfl) (by rw [List.length_map, HMN.out, Nat.mul_one]) (HNW.out _ HBC.out.drew) (by intro u hu; simp only [List.mem_map] at hu; obtain ⟨z, _, rfl⟩ := hu; rfl) (by omega) (by unfold maxLen; omega) (by omega) (by simp) (wk.heap.size + 1) (by simp) ?_; intro gg capn wa hown1 hgrow hat hlt1; have hP := app_own HBC.out.drew hown1 (by simpa [Value.ownBlock] using hgrow) (Nat.le_refl _) (by simpa [Value.ownBlock] using hat) HMN.out HMI.out; have hSa := below3 hP.2.2 HS0.out; have HP := Lib.hid hP; clear hP hown1 hgrow) | (refine step_append_lies _ (by rfl) _ _ _ (by rfl) 0 3 i0 _ 1 8 Try.underlying24 hi hz0 hz1 hz2 rfl (by omega) (.slice (some ⟨wk.heap.size, 0, none⟩) 0 0) 0 [] (by rfl) RB.out ⟨b6, o6, none⟩ n capm (m.pows.map (Value.int .i64)) (by rfl) (by rw [List.length_map, HMN.out, Nat.mul_one]) (HNW.out _ HBB.out.drew) (by intro u hu; simp only [List.mem_map] at hu; obtain ⟨z, _, rfl⟩ := hu; rfl) (by omega) (by unfold maxLen; omega) (by omega) (by simp) (wk.heap.size + 2) (by simp) ?_; intro gg capn wa hown1 hgrow hat hlt1; have hP := app_own HBB.out.drew hown1 (by simpa [Value.ownBlock] using hgrow) (Nat.le_refl _) (by simpa [Value.ownBlock] using hat) HMN.out HMI.out; have hSa := below3 hP.2.2 HS0.out; have HP := Lib.hid hP; have HX2 := Lib.hid (box_in hgrow HB2.out (by simp [Value.ownBlock])); have hx0 := HX2.out.1; have hx1 := HX2.out.2.1; have hx2 := HX2.out.2.2.1; have hx3 := HX2.out.2.2.2; have hne : gg ≠ wk.heap.size + 1 := (by simp [Value.ownBlock] at hat; omega); clear hP hown1 hgrow) | (refine step_append_lies _ (by rfl) _ _ _ (by rfl) 0 3 i0 _ 1 8 Try.underlying24 hi hz0 hz1 hz2 rfl (by omega) (.slice (some ⟨wk.heap.size + 1, 0, none⟩) 0 0) 0 [] (by rfl) RA.out ⟨b6, o6, none⟩ n capm (m.pows.map (Value.int .i64)) (by rfl) (by rw [List.length_map, HMN.out, Nat.mul_one]) (HNW.out _ HBA.out.drew) (by intro u hu; simp only [List.mem_map] at hu; obtain ⟨z, _, rfl⟩ := hu; rfl) (by omega) (by unfold maxLen; omega) (by omega) (by simp) (wk.heap.size + 2) (by simp) ?_; intro gg capn wa hown1 hgrow hat hlt1; have hP := app_own HBA.out.drew hown1 (by simpa [Value.ownBlock] using hgrow) (by omega) (by simpa [Value.ownBlock] using hat) HMN.out HMI.out; have hSa := below3 hP.2.2 HS0.out; have HP := Lib.hid hP; have HX2 := Lib.hid (box_in hgrow HA2.out (by simp [Value.ownBlock])); have hx0 := HX2.out.1; have hx1 := HX2.out.2.1; have hx2 := HX2.out.2.2.1; have hx3 := HX2.out.2.2.2; have hne : gg ≠ wk.heap.size := (by simp [Value.ownBlock] at hat; omega); clear hP hown1 hgrow))
      all_goals (
        go_wp2_with fail
        go_meet
        first
        | exact ⟨wa.heap.size, gg, capn, rfl, xbox_alloc HP.out.2.2 HP.out.1 HMN.out HP.out.2.1 rfl⟩
        | exact ⟨_, gg, capn, rfl, xbox_put HP.out.2.2 HP.out.1 HMN.out HP.out.2.1 (by omega) hne hx0 hx1 rfl⟩)
    case rest =>
      obtain ⟨B3, gq, capq, rfl, hXB⟩ := hcut
      have hXc0 := hXB.c0
      have hXc1 := hXB.c1
      obtain ⟨hgx, hgf, hXB4⟩ := hXB.dec HX.out hxp hx5
      have hY0 := hXB4.c0
      have hY1 := hXB4.c1
      have hbk4 := hXB4.below
      have hLle : (partL v s (p.take k)).length ≤ 12 := by
        have h1 := List.length_filterMap_le (partM v s) (p.take k)
        rw [List.length_take] at h1
        unfold partL
        omega
      have hI4 : I64 (timesZ m.coef (s * x)) := i64_of_bd (timesZ_bd _ _)
      have hal : Below (wc.setCell ⟨gq, v, none⟩ (.int .i64 (x - 1))).heap.size (wc.setCell ⟨gq, v, none⟩ (.int .i64 (x - 1))) (((wc.setCell ⟨gq, v, none⟩ (.int .i64 (x - 1))).alloc (.cells #[.int .i64 (timesZ m.coef (s * x)), .slice (some ⟨gq, 0, none⟩) n capq] 91)).drew) := ((Below.refl _ _).alloc (Nat.le_refl _) _).drew
      have hsz4 : (wc.setCell ⟨gq, v, none⟩ (.int .i64 (x - 1))).heap.size = wc.heap.size := by simp
      have hgk : ∀ b ∈ [gq], wk.heap.size ≤ b := fun b hb => by
        have h1 := hXB.hq
        rw [List.mem_singleton.1 hb]
        exact h1
      have HNQ := Lib.hid (show (((wc.setCell ⟨gq, v, none⟩ (.int .i64 (x - 1))).alloc (.cells #[.int .i64 (timesZ m.coef (s * x)), .slice (some ⟨gq, 0, none⟩) n capq] 91)).drew).ownsRow 0 91 2 (.slice adu (partL v s (p.take k)).length capu) (partL v s (p.take k)).length us.flatten from (ownsRow_only HOWN.out (Only.of_below (fp := []) hbk4) (by simp)).alloc _)
      have HS := Lib.hid (fun (w2 : World) (gg capn : Nat) (hown1 : w2.ownsRow 0 91 2 (.slice (some ⟨gg, 0, none⟩) ((partL v s (p.take k)).length + 1) capn) ((partL v s (p.take k)).length + 1) (us.flatten ++ [.int .i64 (timesZ m.coef (s * x)), .slice (some ⟨gq, 0, none⟩) n capq]))
          (hgrow : (((wc.setCell ⟨gq, v, none⟩ (.int .i64 (x - 1))).alloc (.cells #[.int .i64 (timesZ m.coef (s * x)), .slice (some ⟨gq, 0, none⟩) n capq] 91)).drew).grownBy w2 (Value.slice adu (partL v s (p.take k)).length capu).ownBlock) (hat : (Value.slice adu (partL v s (p.take k)).length capu).ownBlock = some gg ∨ gg = wc.heap.size + 1) =>
        ownMs_push (W := w) (m := ⟨timesZ m.coef (s * x), m.pows.set v (x - 1)⟩) HONE.out HELS.out HND.out HOWN.out rfl hXB4.own hI4 hgk HF.out HB.out hbk4 hal hown1 hgrow (fun b hb => by
          simp [Value.ownBlock] at hb
          subst hb
          rcases hat with hat | hat
          · left; exact hat
          · right; rw [hat]; simp [World.drew]))
      have HL := Lib.hid hLle
      clear hXB hXB4 hal hgk hbk4 hI4 hLle usx
      go_wp2
      (refine wp_region_still_tail 10 (by kernel_rfl) (by kernel_rfl) ?_; simp only [List.take_succ_cons, List.take_zero, List.drop_succ_cons, List.drop_zero]; (repeat (first | still_step )); refine wpStill_nil ?_; change wpList _ _ _ _ _ (World.drew _))
      go_wp2_with (first | (at_builtin; refine wpList_append_lies _ rfl _ _ _ rfl 0 91 j1 _ 2 32 Try.underlying45 hj1 hw0 hw1 hw2 rfl (by omega) (.slice adu (partL v s (p.take k)).length capu) (partL v s (p.take k)).length _ (by rfl) HNQ.out ⟨wc.heap.size, 0, none⟩ 1 1 [.int .i64 (timesZ m.coef (s * x)), .slice (some ⟨gq, 0, none⟩) n capq] (by rfl) (by rfl) (World.news_of_block (cs := #[.int .i64 (timesZ m.coef (s * x)), .slice (some ⟨gq, 0, none⟩) n capq]) (t := 91) (fr := (0, 0)) (by rw [← hsz4]; exact heap_alloc_new _ _)) (by simp [Value.oneCell']) (by omega) (by have := HL.out; unfold maxLen; omega) (by have := HL.out; omega) (by simp) (wc.heap.size + 1) (by simp) ?_; intro gg capn w2 hown1 hgrow hat hlt1; obtain ⟨f', hP1, hP2, hP3⟩ := HS.out w2 gg capn hown1 hgrow hat; have HPP := Lib.hid hP1))
      go_roundw
      case rel => exact ⟨k + 1, f', by omega, by go_num, by rw [HE.out]; exact HPP.out, hP2, hP3⟩
      case measure => simp [intOf]; omega
end Go.Proofs.Ytdaaamdighojdaa
