/- The texts StM, StC in one: each says at its head what it proves. Conditions: as said there. -/
import Derived.Deep.RegionHeld3
import Derived.Test.YtbcjhpgkodeoeaaGreatDoorN30
import Derived.Test.YtbcjhpgkodeoeaaGreatDoorN38
set_option linter.unusedSimpArgs false
set_option linter.unusedVariables false
/- The reference's move of a point by the stages' values. Conditions: numbers. -/
namespace Go.Proofs.YtbcjhpgkodeoeaaGreatDoor
open Go.RowKit Go.Sort

/-- all stages' values are jets of this size -/
def VOk (st n size : Nat) (v : List (List (List Int))) : Prop := v.length = st ∧ ∀ a ∈ v, a.length = n ∧ AllJ size a
theorem VOk.at {st n size : Nat} {v : List (List (List Int))} (h : VOk st n size v) {s i : Nat} (hs : s < st) (hi : i < n) : (atL (atLL v s) i).length = size ∧ Nums (atL (atLL v s) i) := by
  have hx : v[s]? = some (v[s]'(by rw [h.1]; exact hs)) := List.getElem?_eq_getElem _
  have h2 := h.2 _ (List.mem_of_getElem? hx)
  have e : atLL v s = v[s]'(by rw [h.1]; exact hs) := by simp [atLL, hx]
  rw [e]
  exact allJ_atL h2.2 (by rw [h2.1]; exact hi)
theorem addJ_bd (xs ys : List Int) (k : Int) : Nums (addJ xs ys k) := by
  intro x hx
  simp only [addJ, List.mem_map] at hx
  obtain ⟨i, _, rfl⟩ := hx
  exact plusZ_bd _ _
theorem atRow_nums {ys : List (List Int)} (hy : ∀ x ∈ ys, Nums x) {i : Nat} (hi : i < ys.length) (vals : List (List (List Int))) (row : List Int) : ∀ s, Nums (atRow ys vals row i s)
  | 0 => by
    rw [atRow, atL, List.getElem?_eq_getElem hi]
    exact hy _ (List.getElem_mem _)
  | s + 1 => by rw [atRow]; exact addJ_bd _ _ _
theorem atAll_ok {ys : List (List Int)} {size : Nat} (h : AllJ size ys) (vals : List (List (List Int))) (row : List Int) (st : Nat) : AllJ size (atAll ys vals row st) := by
  intro x hx
  simp only [atAll, List.mem_map, List.mem_range] at hx
  obtain ⟨i, hi, rfl⟩ := hx
  exact ⟨by rw [atRow_len]; exact (allJ_atL h hi).1, atRow_nums (fun x hx => (h x hx).2) hi _ _ _⟩
end Go.Proofs.YtbcjhpgkodeoeaaGreatDoor

/- The closure of the program's step: a coordinate moved by the stages' values. Conditions: numbers. -/
namespace Go.Proofs.YtbcjhpgkodeoeaaGreatDoor
open Go.RowKit Go.Sort

set_option maxRecDepth 100000 in
set_option maxHeartbeats 6400000 in
theorem add_any (vr vy vv : Value) (ys : List (List Int)) (row : List Int) (vals : List (List (List Int))) (i n st size B bY bV : Nat) (wy w : World) (hcy : w.cell? ⟨bY, 0, none⟩ = some vy) (hcv : w.cell? ⟨bV, 0, none⟩ = some vv)
    (hy : RdII wy vy ys) (hwy : Below wy.heap.size wy w) (hB : wy.heap.size ≤ B) (hBw : B ≤ w.heap.size) (hr : RdI w vr row) (hv : RdIII w vv vals) (hyl : ys.length = n) (hyj : AllJ size ys)
    (hrl : row.length = st) (hvo : VOk st n size vals) (hi : i < n) (hs1 : 1 ≤ size) (hs7 : size ≤ 7) (hst : st ≤ 8) :
    Calls Tryz.prog 124 #[.int .i64 i, vr, .pointer (some ⟨bY, 0, none⟩), .pointer (some ⟨bV, 0, none⟩)] w (GivesR RdI B w (atRow ys vals row i st)) := by
  obtain ⟨ad1, len1, cap1, rfl, hl1, hlc1, hcm1, h1'⟩ := rdS_open hy
  obtain ⟨ad2, len2, cap2, rfl, hl2, hlc2, hcm2, h2'⟩ := rdS_open hr
  obtain ⟨ad3, len3, cap3, rfl, hl3, hlc3, hcm3, h3'⟩ := rdS_open hv
  obtain rfl : len1 = n := by omega
  obtain rfl : len2 = st := by omega
  obtain rfl : len3 = len2 := by have := hvo.1; omega
  obtain ⟨b5, o5, ad5, l5, c5, y, rfl, hy5, hcy5, h61, h62, h63, h64, _⟩ := rdII_get h1' hi
  obtain ⟨hyl5, hyn5⟩ := allJ_at hyj hy5
  obtain rfl : l5 = size := by omega
  have hcy5w := cell_below hwy hcy5
  have hsz := hwy.size
  have HL0 := Lib.hid (show atRow ys vals row i 0 = y by rw [atRow, atL_get hy5])
  have HLEN := Lib.hid (fun s : Nat => show (atRow ys vals row i s).length = l5 by rw [atRow_len, atL_get hy5, hyl5])
  have HU0 := Lib.hid (show RdI w (.slice ad5 l5 c5) (atRow ys vals row i 0) ∧ ∀ g, B ≤ g → g < w.heap.size → Apart RdI g w (.slice ad5 l5 c5) (atRow ys vals row i 0) from by
    rw [HL0.out]
    exact ⟨rdI_mono hwy h64, fun g hg _ => apart_old rdI_mono' h64 hwy (by omega)⟩)
  have HVO := Lib.hid hvo
  have HBL := Lib.hid (Below.refl w.heap.size w)
  clear hy hr hv hl1 hl2 hl3 hyl hyj hrl hvo hy5 h61 h64 hyl5 hyn5 hwy hcy5
  go_enter Tryz.func124, Tryz.ntmps124
  go_wp2
  go_loopw [7, 15] (fun u s wr => ∃ r : Nat, r ≤ len3 ∧ s = .int .i64 r ∧ (RdI wr u (atRow ys vals row i r) ∧ ∀ g, B ≤ g → g < w.heap.size → Apart RdI g wr u (atRow ys vals row i r)) ∧ Below w.heap.size w wr) (fun _ s _ => len3 - (intOf s).toNat)
  case atStart => exact ⟨0, Nat.zero_le _, rfl, HU0.out, HBL.out⟩
  case round =>
    obtain ⟨wk, rfl⟩ : ∃ W, W = wr := ⟨_, rfl⟩
    obtain ⟨r, hr, rfl, ⟨hu, hua⟩, hb⟩ := hrel
    clear HU0
    have hcvk := cell_below hb hcv
    by_cases hrl : r < len3
    case neg =>
      obtain rfl : r = len3 := by omega
      have HU := Lib.hid hu
      have HUA := Lib.hid hua
      obtain ⟨adu, lu, cu, rfl, _⟩ := rdS_open hu
      clear hu hua
      go_wp2
      go_ret
      exact ⟨_, rfl, HU.out, HUA.out, hb⟩
    obtain ⟨b6, o6, c, rfl, hc, hcc, hIc, _⟩ := rdI_get h2' hrl
    obtain ⟨b7, o7, ad7, l7, c7, V, rfl, hV, hcV, h71, h72, h73, h74, _⟩ := rdIII_get h3' hrl
    obtain ⟨hVl, hVj⟩ := HVO.out.2 V (List.mem_of_getElem? hV)
    obtain rfl : l7 = len1 := by omega
    obtain ⟨b8, o8, ad8, l8, c8, x, rfl, hx, hcx, h81, h82, h83, h84, _⟩ := rdII_get h74 hi
    obtain ⟨hxl, hxn⟩ := allJ_at hVj hx
    obtain rfl : l8 = l5 := by omega
    have hnext : atRow ys vals row i (r + 1) = addJ (atRow ys vals row i r) (laterJ x) c := by
      rw [atRow, show atLL vals r = V by simp [atLL, hV], atL_get hx, atZ_get hc]
    have hS0 : wk.cell? ⟨bV, 0, none⟩ = some (.slice (some ⟨b7, o7, none⟩) len3 cap3) ∧ wk.cell? ⟨b7, o7 + r, none⟩ = some (.slice (some ⟨b8, o8, none⟩) l7 c7) ∧ wk.cell? ⟨b8, o8 + i, none⟩ = some (.slice ad8 l8 c8) ∧ wk.cell? ⟨b6, o6 + r, none⟩ = some (.int .i64 c) :=
      ⟨hcvk, cell_below hb hcV, cell_below hb hcx, cell_below hb hcc⟩
    have HS0 := Lib.hid hS0
    have hdr : Below wk.heap.size wk wk.drew := (Below.refl _ _).drew
    have L1 := Lib.hid (later1_any _ x wk.drew (rdI_mono (hb.trans (hdr.mono hb.size)) h84) (by omega) (by omega))
    have HU := Lib.hid hu
    have HNX := Lib.hid hnext
    have HXL := Lib.hid hxl
    have HB := Lib.hid hb
    obtain ⟨adu, lu, cu, rfl, _⟩ := rdS_open hu
    clear hu hua hb hc hV h71 h74 hVl hVj hx h81 hxl hxn hnext h84 hS0 hcvk
    go_wp2
    go_region_held3 (fun w' => w'.cell? ⟨bV, 0, none⟩ = some (.slice (some ⟨b7, o7, none⟩) len3 cap3) ∧ w'.cell? ⟨b7, o7 + r, none⟩ = some (.slice (some ⟨b8, o8, none⟩) l7 c7) ∧ w'.cell? ⟨b8, o8 + i, none⟩ = some (.slice ad8 l8 c8) ∧ w'.cell? ⟨b6, o6 + r, none⟩ = some (.int .i64 c)) (first | exact HS0.out | exact hSa | exact hSb) (first | (go_at_call 125; (with_reducible refine (L1.out).mono ?_); rintro e wa ⟨p1, fp1, rfl, hop1, hfp1, hba⟩; have hra := hdr.trans (hba.mono hdr.size); have hSa := (show _ ∧ _ ∧ _ ∧ _ from ⟨cell_below hra HS0.out.1, cell_below hra HS0.out.2.1, cell_below hra HS0.out.2.2.1, cell_below hra HS0.out.2.2.2⟩); obtain ⟨adp, lp, cp, rfl, _, _, _, _, _, _⟩ := ownI_open hop1) | (go_at_call 68; (with_reducible refine (plusJ_any _ _ (atRow ys vals row i r) (laterJ x) c _ (rdI_mono (hdr.trans (hba.mono hdr.size)) HU.out) (ownI_rd hop1) (by rw [HLEN.out, laterJ_len, HXL.out]; exact Nat.le_refl _) (by rw [HLEN.out]; omega)).mono ?_); rintro e wb ⟨p2, fp2, rfl, hop2, hfp2, hbb⟩; have hrb := (hdr.trans (hba.mono hdr.size)).trans (hbb.mono (hdr.trans (hba.mono hdr.size)).size); have hSb := (show _ ∧ _ ∧ _ ∧ _ from ⟨cell_below hrb HS0.out.1, cell_below hrb HS0.out.2.1, cell_below hrb HS0.out.2.2.1, cell_below hrb HS0.out.2.2.2⟩)))
    all_goals (
      have hbB := HB.out.trans (hrb.mono HB.out.size)
      have hap : ∀ g, B ≤ g → g < w.heap.size → Apart RdI g wb p2 (atRow ys vals row i (r + 1)) := fun g hg hgw => by
        rw [HNX.out]
        exact apart_I hop2 (fun hm => by have h1 := hfp2 g hm; have h2 := hba.size; have h3 := HB.out.size; have h4 := hdr.size; omega)
      have hrd2 := ownI_rd hop2
      rw [← HNX.out] at hrd2
      have HR2 := Lib.hid hrd2
      have HAP := Lib.hid hap
      obtain ⟨adp2, lp2, cp2, rfl, _, _, _, _, _, _⟩ := ownI_open hop2
      clear hop1 hop2 hfp1 hfp2 hba hbb hra hrb hrd2 hap hSa hSb
      go_wp2
      go_roundw
      case rel => exact ⟨r + 1, by omega, by go_num, ⟨HR2.out, HAP.out⟩, hbB⟩
      case measure => simp [intOf]; omega)
end Go.Proofs.YtbcjhpgkodeoeaaGreatDoor
