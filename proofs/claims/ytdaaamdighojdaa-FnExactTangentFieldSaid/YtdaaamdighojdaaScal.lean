/- Multiples of polynomials. Conditions: valid polynomials. -/
import Derived.Test.YtdaaamdighojdaaHam
import Derived.Deep.RegionLaw
set_option linter.unusedSimpArgs false
set_option linter.unusedVariables false
namespace Go.Proofs.Ytdaaamdighojdaa
open Go.RowKit Go.Sort

def scL (c : Int) (p : List MonZ) : List MonZ := p.map fun m => ⟨timesZ m.coef c, m.pows⟩

set_option maxRecDepth 100000 in
set_option maxHeartbeats 3200000 in
theorem scaled_any (vp : Value) (p : List MonZ) (c : Int) (n : Nat) (w : World) (hp : RdMs w vp p) (hp12 : p.length ≤ 12) (hpm : ∀ m ∈ p, m.pows.length = n) (hn1 : 1 ≤ n) (hn6 : n ≤ 6) :
    Calls Try.prog 78 #[vp, .int .i64 c] w (Gives (fun w' v' fp => OwnMs 91 3 w' v' (scL c p) fp) w) := by
  obtain ⟨ad1, len1, cap1, rfl, hl1, hlc1, hcm1, h1'⟩ := rdS_open hp
  rw [hl1] at hp12
  have HL1 := Lib.hid hl1
  have HPM := Lib.hid hpm
  clear hp hl1 hpm
  obtain ⟨j1, hj1, hw0, hw1, hw2⟩ := info_parts Try.info_mon
  go_enter Try.func78, Try.ntmps78
  go_wp2
  have HO0 := Lib.hid (show OwnMs 91 3 (w.alloc (.cells #[] 91)) (.slice (some ⟨w.heap.size, 0, none⟩) 0 0) [] [w.heap.size] from ⟨[], [], by simpa using World.ownsRow_lit (base := 0) (e := 91) (size := 2) w #[] 0 (Nat.zero_le _) (Nat.zero_le _) rfl, by simp, rfl, rfl, by simp⟩)
  have HB0 := Lib.hid (show Below w.heap.size w (w.alloc (.cells #[] 91)) from (Below.refl _ _).alloc (Nat.le_refl _) _)
  go_loopw [5, 11] (fun u i wr => ∃ (k : Nat) (fs : List Nat), k ≤ len1 ∧ i = .int .i64 k ∧ OwnMs 91 3 wr u ((scL c p).take k) fs ∧ (∀ b ∈ fs, w.heap.size ≤ b) ∧ Below w.heap.size w wr) (fun _ i _ => len1 - (intOf i).toNat)
  case atStart => exact ⟨0, [w.heap.size], Nat.zero_le _, rfl, by simpa using HO0.out, by simp, HB0.out⟩
  case round =>
    obtain ⟨wk, rfl⟩ : ∃ W, W = wr := ⟨_, rfl⟩
    obtain ⟨k, fs0, hk, rfl, ho, hf, hb⟩ := hrel
    clear HO0 HB0
    have hscl : (scL c p).length = len1 := by simp [scL, HL1.out]
    by_cases hlt : k < len1
    case neg =>
      obtain rfl : k = len1 := by omega
      rw [List.take_of_length_le (by omega)] at ho
      go_wp2
      go_ret
      exact ⟨_, fs0, rfl, ho, hf, hb⟩
    have hkl : ((scL c p).take k).length = k := by rw [List.length_take]; omega
    obtain ⟨b5, o5, adm, lenm, capm, m, rfl, hm, hc0, hc1, hIm, h61, h71, h81, h91, _⟩ := rdMs_get (rdMs_mono hb h1') hlt
    have hmn := HPM.out m (List.mem_of_getElem? hm)
    obtain rfl : n = lenm := by omega
    have hsn : (scL c p).take (k + 1) = (scL c p).take k ++ [⟨timesZ m.coef c, m.pows⟩] := take_snoc (by simp [scL, hm])
    obtain ⟨W1, hW1⟩ : ∃ W, W = wk.alloc (.cells #[.int .i64 m.coef, .slice adm n capm] 91) := ⟨_, rfl⟩
    have hbW1 : Below wk.heap.size wk W1 := hW1 ▸ (Below.refl _ _).alloc (Nat.le_refl _) _
    have hm0c : W1.cell? ⟨wk.heap.size, 0, none⟩ = some (.int .i64 m.coef) := by rw [hW1]; simp
    have hm1c : W1.cell? ⟨wk.heap.size, 1, none⟩ = some (.slice adm n capm) := by rw [hW1]; simp
    have HW1 := Lib.hid hW1
    obtain ⟨us, fs, hown, hone, hels, rfl, hnd⟩ := ho
    have HOWN := Lib.hid hown
    rw [hkl] at hown
    obtain ⟨adu, capu, rfl, hluc, hcum, _⟩ := row_open hown
    have HNU := Lib.hid hown
    have HONE := Lib.hid hone
    have HELS := Lib.hid hels
    have HND := Lib.hid hnd
    have HF := Lib.hid hf
    have HB := Lib.hid hb
    have HKL := Lib.hid hkl
    have hdr : Below W1.heap.size W1 W1.drew := (Below.refl _ _).drew
    have CL := Lib.hid (clone_any _ m.pows W1.drew (rdI_mono (hbW1.trans (hdr.mono hbW1.size)) h91) (by rw [h61]; omega) (by rw [h61]; omega) (i64_all h91))
    have HSN := Lib.hid hsn
    have HBW1 := Lib.hid hbW1
    have HMN := Lib.hid hmn
    have HI4 := Lib.hid (show I64 (timesZ m.coef c) from i64_of_bd (timesZ_bd _ _))
    clear hsn hm h61 h91 hmn hown hone hels hnd hf hb hW1 hbW1 hkl hscl
    go_wp2
    rw [← HW1.out]
    go_region_law (first | (refine step_append_lies _ (by rfl) _ _ _ (by rfl) 0 91 j1 _ 2 32 Try.underlying45 hj1 hw0 hw1 hw2 rfl (by omega) (.slice adu k capu) k _ (by rfl) (HNQ.out.alloc _) ⟨wa.heap.size, 0, none⟩ 1 1 [.int .i64 (timesZ m.coef c), .slice adq lq capq] (by rfl) (by rfl) (World.news_of_block (cs := #[.int .i64 (timesZ m.coef c), .slice adq lq capq]) (t := 91) (fr := (0, 0)) (heap_alloc_new wa _)) (by simp [Value.oneCell']) (by omega) (by unfold maxLen; omega) (by omega) (by simp) (wa.heap.size + 1) (by simp) ?_; intro gg capn w2 hown1 hgrow hat hlt1; obtain ⟨f', hP1, hP2, hP3⟩ := ownMs_push (W := w) (m := ⟨timesZ m.coef c, m.pows⟩) HONE.out HELS.out HND.out HOWN.out HKL.out hop1 HI4.out hgk HF.out HB.out hka hal hown1 hgrow (fun b hb => by { simp [Value.ownBlock] at hb; subst hb; rcases hat with hat | hat; (left; exact hat); (right; rw [hat]; simp) }); have HPP := Lib.hid hP1) | (go_simp; first | (go_at_call 102; (with_reducible refine (times_any _ _ _).mono ?_); rintro e w' ⟨rfl, rfl⟩) | (go_at_call 106; (with_reducible refine (CL.out).mono ?_); rintro e wa ⟨p1, fp1, rfl, hop1, hfp1, hba⟩; have hra := hdr.trans (hba.mono hdr.size); have hm0a := cell_below hra hm0c; have hm1a := cell_below hra hm1c; obtain ⟨adq, lq, capq, rfl, hlq, _, _, hownq, hgq, hfq⟩ := ownI_open hop1; have hka := HBW1.out.trans (hra.mono HBW1.out.size); have HNQ := Lib.hid (ownsRow_only HNU.out (Only.of_below (fp := []) hka) (by simp)); have hal : Below wa.heap.size wa (wa.alloc (.cells #[.int .i64 (timesZ m.coef c), .slice adq lq capq] 91)) := (Below.refl _ _).alloc (Nat.le_refl _) _; have hgk : ∀ b ∈ fp1, wk.heap.size ≤ b := (fun b hb => by { have h1 := hfp1 b hb; have h2 := hdr.size; have h3 := HBW1.out.size; omega }))))
    all_goals (
      go_wp2
      go_roundw
      case rel => exact ⟨k + 1, f', by omega, by go_num, by rw [HSN.out]; exact HPP.out, hP2, hP3⟩
      case measure => simp [intOf]; omega)
end Go.Proofs.Ytdaaamdighojdaa
