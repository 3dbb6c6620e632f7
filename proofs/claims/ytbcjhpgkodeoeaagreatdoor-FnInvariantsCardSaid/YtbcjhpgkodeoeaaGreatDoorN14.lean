/- Any field is drawn. Conditions: a cursor. -/
import Derived.Deep.RegionLaw
import Derived.Deep.AppendLies
import Derived.Test.YtbcjhpgkodeoeaaGreatDoorN13
set_option linter.unusedSimpArgs false
set_option linter.unusedVariables false

namespace Go.Proofs.YtbcjhpgkodeoeaaGreatDoor
open Go.RowKit Go.Sort

theorem ownMss_row {e1 e2 e : Nat} {w : World} {v : Value} {xs : List (List MonZ)} {fp : List Nat} (h : OwnMss e1 e2 e w v xs fp) {i : Nat} {x : List MonZ} (hx : xs[i]? = some x) :
    ∃ g n cap p f, v = .slice (some ⟨g, 0, none⟩) n cap ∧ n = xs.length ∧ w.cell? ⟨g, i, none⟩ = some p ∧ w.frozen? ⟨g, i, none⟩ = false ∧ g ∈ fp ∧ OwnMs e2 e w p x f ∧ (∀ b ∈ f, b ∈ fp) ∧ g ∉ f ∧
      ∀ (w2 : World) (p' : Value) (y : List MonZ) (f' : List Nat), Only f w w2 → OwnMs e2 e w2 p' y f' → (∀ b ∈ f', b ∈ f ∨ w.heap.size ≤ b) →
        (w2.cell? ⟨g, i, none⟩ = some p ∧ w2.frozen? ⟨g, i, none⟩ = false) ∧ ∃ fp', OwnMss e1 e2 e (w2.setCell ⟨g, i, none⟩ p') (.slice (some ⟨g, 0, none⟩) n cap) (xs.set i y) fp' ∧ ∀ b ∈ fp', b ∈ fp ∨ w.heap.size ≤ b := by
  have hlt := ownMss_lt h
  obtain ⟨us, fs, hown, hone, hels, rfl, hnd⟩ := h
  have hk := (List.getElem?_eq_some_iff.1 hx).1
  obtain ⟨A, u0, C, f1, f0, f3, rfl, hA, rfl, h1, ⟨p, rfl, hp⟩, h3⟩ := ownEls_split hels hx
  have hlen := hown.1
  obtain ⟨ad, cap, rfl, _⟩ := row_open hown
  have hg0 : ∃ g, ad = some ⟨g, 0, none⟩ := by
    rcases hown.2 with ⟨h4, _⟩ | ⟨g, cap', cur, h4, _⟩
    · injection h4 with e4 e5
      omega
    · injection h4 with e4
      exact ⟨g, e4⟩
  obtain ⟨g, rfl⟩ := hg0
  have hgb : (Value.slice (some ⟨g, 0, none⟩) xs.length cap).ownBlock.toList = [g] := by simp [Value.ownBlock]
  rw [hgb] at hnd hlt ⊢
  have hui : (A ++ [p] :: C)[i]? = some [p] := by rw [← hA]; simp
  have hfl := flat_get hone hui (j := 0) rfl
  simp only [Nat.mul_one, Nat.add_zero] at hfl
  have hfll : (A ++ [p] :: C).flatten.length = xs.length := by rw [flat_len hone (ownEls_length hels)]; omega
  rw [List.cons_append, List.nil_append, List.nodup_cons, List.nodup_append, List.nodup_append] at hnd
  obtain ⟨hgn, hn1, ⟨hn0, hn3, hn03⟩, hn13⟩ := hnd
  simp only [List.mem_append, not_or] at hgn
  have hc0 : w.cell? ⟨g, i, none⟩ = some p := by rw [hown.cellAt i (by omega), hfl]
  refine ⟨g, xs.length, cap, p, f0, rfl, rfl, hc0, hown.frozenAt i, by simp, hp, fun b hb => by simp [hb], hgn.2.1, fun w2 p' y f' ho hp' hf' => ?_⟩
  have hg2 : ∀ b, (Value.slice (some ⟨g, 0, none⟩) xs.length cap).ownBlock = some b → b ∉ f0 := fun b hb => by
    simp [Value.ownBlock] at hb
    subst hb
    exact hgn.2.1
  have hown2 := ownsRow_only hown ho hg2
  have hs := (hown2.stored i p').1
  have hset : (A ++ [p] :: C).flatten.set i p' = (A ++ [p'] :: C).flatten := by
    have a1 := flat_set (us := A ++ [p] :: C) (n := 1) (k := i) (j := 0) (u := [p]) hone hui (by omega) p'
    rw [Nat.mul_one, Nat.add_zero] at a1
    rw [a1, List.set_append_right _ _ (by omega), hA, Nat.sub_self, List.set_cons_zero]
    rfl
  rw [hset] at hs
  have hdf : ∀ b ∈ f', b ≠ g ∧ b ∉ f1 ∧ b ∉ f3 := fun b hb => by
    rcases hf' b hb with h | h
    · exact ⟨fun e => hgn.2.1 (e ▸ h), fun hm => hn13 b hm b (by simp [h]) rfl, fun hm => hn03 b h b hm rfl⟩
    · refine ⟨fun e => ?_, fun hm => ?_, fun hm => ?_⟩
      · have := hlt b (by simp [e]); omega
      · have := hlt b (by simp [hm]); omega
      · have := hlt b (by simp [hm]); omega
  have hO : Only [g] w2 (w2.setCell ⟨g, i, none⟩ p') := (Only.refl _ _).setCell (by simp) _
  have hgl : g < w.heap.size := hlt g (by simp)
  refine ⟨⟨cell_only ho hgn.2.1 hc0, (World.frozen?_of_block (ho.block g hgl hgn.2.1)).trans (hown.frozenAt i)⟩, g :: (f1 ++ (f' ++ f3)), ⟨A ++ [p'] :: C, f1 ++ (f' ++ f3), by rw [List.length_set]; exact hs, ?_, ?_, by rw [hgb]; simp, ?_⟩, ?_⟩
  · intro u' hu'
    simp at hu'
    rcases hu' with hu' | rfl | hu'
    · exact hone u' (by simp [hu'])
    · rfl
    · exact hone u' (by simp [hu'])
  · have hsx : xs.set i y = xs.take i ++ y :: xs.drop (i + 1) := List.set_eq_take_append_cons_drop.trans (if_pos hk)
    rw [hsx]
    have step : ∀ {us : List (List Value)} {zs : List (List MonZ)} {f : List Nat}, OwnEls (OElMss e2 e) w us zs f → (∀ b ∈ f, b ∉ f0) → (∀ b ∈ f, b ≠ g) → OwnEls (OElMss e2 e) (w2.setCell ⟨g, i, none⟩ p') us zs f := fun h a1 a2 =>
      ownEls_only (fun u x f h hd => oelMss_only h hO hd) (ownEls_only (fun u x f h hd => oelMss_only h ho hd) h a1) (fun b hb hm => a2 b hb (List.mem_singleton.1 hm))
    have h1' := step h1 (fun b hb hm => hn13 b hb b (by simp [hm]) rfl) (fun b hb e => hgn.1 (e ▸ hb))
    have h3' := step h3 (fun b hb hm => hn03 b hm b hb rfl) (fun b hb e => hgn.2.2 (e ▸ hb))
    exact ownEls_append h1' ⟨f', f3, rfl, ⟨p', rfl, ownMs_only hp' hO (fun b hb hm => (hdf b hb).1 (List.mem_singleton.1 hm))⟩, h3'⟩
  · rw [List.nodup_cons, List.nodup_append, List.nodup_append]
    refine ⟨fun hm => ?_, hn1, ⟨ownMs_nodup hp', hn3, fun a ha b hb e => (hdf a ha).2.2 (e ▸ hb)⟩, fun a ha b hb e => ?_⟩
    · simp only [List.mem_append] at hm
      rcases hm with hm | hm | hm
      · exact hgn.1 hm
      · exact (hdf g hm).1 rfl
      · exact hgn.2.2 hm
    · simp only [List.mem_append] at hb
      rcases hb with hb | hb
      · exact (hdf b hb).2.1 (e ▸ ha)
      · exact hn13 a ha b (by simp [hb]) e
  · intro b hb
    simp at hb
    rcases hb with rfl | hb | hb | hb
    · left; simp
    · left; simp [hb]
    · rcases hf' b hb with h | h
      · left; simp [h]
      · right; exact h
    · left; simp [hb]

/-- The first part grows by one monomial. -/
theorem part_grow {e1 e2 e gP nP cP : Nat} {w : World} {xs : List (List MonZ)} {fp : List Nat} (h : OwnMss e1 e2 e w (.slice (some ⟨gP, 0, none⟩) nP cP) xs fp) {x0 : List MonZ} (hx : xs[0]? = some x0) :
    ∃ (ad : Option Addr) (l c : Nat) (us : List Value) (f0 : List Nat), w.cell? ⟨gP, 0, none⟩ = some (.slice ad l c) ∧ l = x0.length ∧ l ≤ c ∧ c ≤ 9223372036854775807 ∧ (∀ b ∈ f0, b ∈ fp) ∧ gP ∈ fp ∧ w.ownsRow 0 e2 2 (.slice ad l c) l us ∧
      ∀ (wa w5 : World) (o : Obj) (m : MonZ) (gq n cq gg capn : Nat), Below w.heap.size w wa → I64 m.coef → OwnI e wa (.slice (some ⟨gq, 0, none⟩) n cq) m.pows [gq] → w.heap.size ≤ gq →
        w5.ownsRow 0 e2 2 (.slice (some ⟨gg, 0, none⟩) (l + 1) capn) (l + 1) (us ++ [.int .i64 m.coef, .slice (some ⟨gq, 0, none⟩) n cq]) → (wa.alloc o).grownBy w5 (Value.slice ad l c).ownBlock → ((Value.slice ad l c).ownBlock = some gg ∨ gg = wa.heap.size + 1) →
        w5.cell? ⟨gP, 0, none⟩ = some (.slice ad l c) ∧ w5.frozen? ⟨gP, 0, none⟩ = false ∧ Only f0 w w5 ∧ ∃ fp', OwnMss e1 e2 e (w5.setCell ⟨gP, 0, none⟩ (.slice (some ⟨gg, 0, none⟩) (l + 1) capn)) (.slice (some ⟨gP, 0, none⟩) nP cP) (xs.set 0 (x0 ++ [m])) fp' ∧ ∀ b ∈ fp', b ∈ fp ∨ w.heap.size ≤ b := by
  obtain ⟨g, n0, cap0, p, f, hv, _, hcp, hfz, hgm, hop, hfs, hgf, hrow⟩ := ownMss_row h hx
  simp only [Value.slice.injEq, Option.some.injEq, Addr.mk.injEq, and_true] at hv
  obtain ⟨rfl, rfl, rfl⟩ := hv
  obtain ⟨us, fs, hown, hone, hels, rfl, hnd⟩ := hop
  have hown' := hown
  obtain ⟨ad, c, rfl, hlc, hcm, _⟩ := row_open hown
  refine ⟨ad, x0.length, c, us.flatten, _, hcp, rfl, hlc, hcm, hfs, hgm, hown', fun wa w5 o m gq n cq gg capn hwa hm ho hgq hown5 hgrow hat => ?_⟩
  have hwas := hwa.size
  have hlt : ∀ b ∈ (Value.slice ad x0.length c).ownBlock.toList ++ fs, b < w.heap.size := fun b hb => by
    simp only [List.mem_append, Option.mem_toList] at hb
    rcases hb with hb | hb
    · exact (hown.lt b hb).2
    · exact ownEls_lt (fun _ _ _ h => oelMon_lt h) hels b hb
  obtain ⟨fp', hP, hfp, hO⟩ := ownS_push2 (El := OElMon e) (size := 2) (w := wa) (w1 := wa.alloc o) (w2 := w5) (v' := .slice (some ⟨gg, 0, none⟩) (x0.length + 1) capn) (f := [gq]) (fs := fs) (x := m) (u := [.int .i64 m.coef, .slice (some ⟨gq, 0, none⟩) n cq]) (n := x0.length) (fun w w' u x f g h ho hd => oelMon_only h ho hd) hone (ownEls_only (fun u x f' h hd => oelMon_only h (Only.of_below (fp := []) hwa) hd) hels (by simp)) hnd ⟨_, rfl, hm, ho⟩ rfl
    (fun b hb hm => by simp at hb; subst hb; have := hlt b hm; omega) (by simp) (ownI_lt ho) (fun b hb => by have := hlt b (by simp [hb]); omega) rfl ((Below.refl _ _).alloc (Nat.le_refl _) _) hown5 hgrow (fun b hb => by
      simp [Value.ownBlock] at hb
      subst hb
      rcases hat with hat | hat
      · left; exact hat
      · right; rw [hat]; simp)
  have hO5 : Only ((Value.slice ad x0.length c).ownBlock.toList ++ fs) w w5 := ((Only.of_below hwa).trans (hO.mono (by intro b hb; simp [hb])))
  obtain ⟨⟨k1, k2⟩, fp2, k3, k4⟩ := hrow w5 _ _ fp' hO5 hP (fun b hb => by
    rcases hfp b hb with h1 | h1 | h1
    · left; exact h1
    · right; simp at h1; omega
    · right; simp at h1; omega)
  exact ⟨k1, k2, hO5, fp2, k3, k4⟩
/-- Any field is drawn. -/
def AnyFld (g : Nat) (w : World) : Ending → World → Prop := fun e w' => ∃ v f, e = .returned v ∧ (∃ fp, OwnFld 24 56 3 w' v f fp ∧ ∀ b ∈ fp, w.heap.size ≤ b) ∧ SmallF f ∧ Drawn g w w'
theorem ownMss_at0 {e1 e2 e : Nat} {w : World} {v : Value} {xs : List (List MonZ)} {fp : List Nat} (h : OwnMss e1 e2 e w v xs fp) (hx : 1 ≤ xs.length) : ∃ g n cap, v = .slice (some ⟨g, 0, none⟩) n cap ∧ n = xs.length ∧ 1 ≤ n := by
  obtain ⟨g, n, cap, _, _, rfl, hn, _⟩ := ownMss_row h (i := 0) (x := xs[0]'(by omega)) (List.getElem?_eq_getElem (by omega))
  exact ⟨g, n, cap, rfl, hn, by omega⟩
set_option maxRecDepth 100000 in
set_option maxHeartbeats 12800000 in
theorem anyField_any (g : Nat) (w : World) (hc : Cur w g) : Calls Tryz.prog 71 #[.pointer (some ⟨g, 0, none⟩)] w (AnyFld g w) := by
  have hgl := hc.lt
  obtain ⟨W0, hW0⟩ : ∃ W, W = w.alloc (.cells #[.int .i64 0, .slice none 0 0] 30) := ⟨_, rfl⟩
  have hb0 : Below w.heap.size w W0 := hW0 ▸ (Below.refl _ _).alloc (Nat.le_refl _) _
  have HY := Lib.hid (show B2 W0 w.heap.size from hW0 ▸ B2.new w (.int .i64 0) (.slice none 0 0) 30)
  have HD0 := Lib.hid ((Drawn.refl hc).below hb0)
  have HBE := Lib.hid (below_any g 3 3 rfl (by omega) (by omega) W0 ((Drawn.refl hc).below hb0).cur)
  have hs0 : W0.heap.size = w.heap.size + 1 := by rw [hW0]; simp
  have HW0 := Lib.hid hW0
  clear hW0 hb0
  go_enter Tryz.func71, Tryz.ntmps71
  go_wp2_with fail
  rw [← HW0.out]
  refine HBE.out.mono ?_
  rintro e w1 ⟨x, rfl, hx, hd1⟩
  have HD1 := Lib.hid (HD0.out.trans hd1)
  have hw1s := hd1.only.size
  have HY1 := Lib.hid (HY.out.only hd1.only (by simp; omega))
  clear hd1
  have hwx : IntKind.i64.wrap (1 + (x : Int)) = 1 + (x : Int) := IntWalk.i64_in _ (by omega)
  go_wp2_with fail
  refine (field_any g (1 + x) 3 _ 3 (by first | omega | (rw [hwx]; omega)) rfl (by omega) (by omega) (by omega) w1 HD1.out.cur).mono ?_
  rintro e w2 ⟨vf, f, fpf, rfl, hof, hfi, hfn, hd2⟩
  obtain ⟨vPp, rfl, hfI, hMss⟩ := hof
  obtain ⟨gP, nP, cP, rfl, hnP, hnP1⟩ := ownMss_at0 hMss (by have := hfi.2.1; omega)
  have HNP := Lib.hid hnP
  have hnP4 : nP ≤ 4 := by have := hfi.2.1; omega
  clear hnP
  obtain ⟨w3, hw3⟩ : ∃ W, W = w2.alloc (.cells #[.int .i64 f.dim, .slice (some ⟨gP, 0, none⟩) nP cP] 30) := ⟨_, rfl⟩
  have hal3 : Below w2.heap.size w2 w3 := hw3 ▸ (Below.refl _ _).alloc (Nat.le_refl _) _
  have hg2 : g < w2.heap.size := by have := hd2.only.size; omega
  have h12 := hd2.only.size
  have HD3 := Lib.hid ((HD1.out.trans hd2).below hal3)
  have HY3 := Lib.hid ((HY1.out.only hd2.only (by simp; omega)).only (Only.of_below (fp := []) hal3) (by simp))
  have HM3 := Lib.hid (show OwnMss 24 56 3 w3 (.slice (some ⟨gP, 0, none⟩) nP cP) f.parts fpf from ownMss_only hMss (Only.of_below (fp := []) hal3) (by simp))
  have HFN := Lib.hid hfn
  have HFI := Lib.hid hfi
  have HDIM := Lib.hid (show f.dim = ((1 + x : Nat) : Int) from hfi.1)
  have HFL := Lib.hid (ownMss_lt hMss)
  have hc0 : w3.cell? ⟨w2.heap.size, 0, none⟩ = some (.int .i64 f.dim) := by rw [hw3]; simp
  have hc1 : w3.cell? ⟨w2.heap.size, 1, none⟩ = some (.slice (some ⟨gP, 0, none⟩) nP cP) := by rw [hw3]; simp
  have hz0 : w3.frozen? ⟨w2.heap.size, 0, none⟩ = false := by rw [hw3]; simp
  have HW3 := Lib.hid hw3
  have HBE3 := Lib.hid (below_any g 24 24 rfl (by omega) (by omega) w3 HD3.out.cur)
  clear hw3 hal3 hMss hfn hfi hd2 hfI
  go_wp2_with fail
  rw [← HW3.out]
  refine HBE3.out.mono ?_
  rintro e w4 ⟨y, rfl, hy, hd4⟩
  have h34 := hd4.only.size
  have HD4 := Lib.hid (HD3.out.trans hd4)
  have HD34 := Lib.hid hd4
  obtain ⟨⟨y0, hy0⟩, ⟨y1, hy1⟩, hyf0, hyf1⟩ := HY3.out.only hd4.only (by simp; omega)
  have HM4 := Lib.hid (ownMss_only HM3.out hd4.only (fun b hb => by have := HFN.out b hb; simp; omega))
  have hw3l := World.block_lt_of_cell? _ _ hc0
  have hc0' := cell_only hd4.only (by simp; omega) hc0
  have hc1' := cell_only hd4.only (by simp; omega) hc1
  have hz0' : w4.frozen? ⟨w2.heap.size, 0, none⟩ = false := (World.frozen?_of_block (hd4.only.block _ hw3l (by simp; omega))).trans hz0
  clear hd4 hc0 hc1 hz0
  have hwd : IntKind.i64.wrap (f.dim + 1) = f.dim + 1 := IntWalk.i64_in _ (by have := HDIM.out; omega)
  have HIN := Lib.hid (show SmallF f from by
    have h1 := HFI.out
    refine ⟨by have := HDIM.out; omega, by have := HDIM.out; omega, by have := h1.2.1; omega, fun p hp => ?_⟩
    obtain ⟨_, hp2, hp3⟩ := h1.2.2 p hp
    exact ⟨by omega, fun m hm => by have := (hp3 m hm).1; omega⟩)
  have HO2 := Lib.hid (fun (wq : World) (a b : Value) => (((Only.refl [w.heap.size] wq).setCell (p := ⟨w.heap.size, 0, none⟩) (by simp) a).setCell (p := ⟨w.heap.size, 1, none⟩) (by simp) b : Only [w.heap.size] wq ((wq.setCell ⟨w.heap.size, 0, none⟩ a).setCell ⟨w.heap.size, 1, none⟩ b)))
  have hne : w2.heap.size ≠ w.heap.size := by omega
  by_cases hq0 : y = 0
  · subst hq0
    go_wp2
    refine bodyPost_ret (v := .agg #[.int .i64 (f.dim + 1), .slice (some ⟨gP, 0, none⟩) nP cP]) (by simp [results, Tryz.results71, go_sem, hy0, hy1, hne]) rfl ?_
    have hO : Only [w2.heap.size, w.heap.size] w4 (((w4.setCell ⟨w2.heap.size, 0, none⟩ (.int .i64 (f.dim + 1))).setCell ⟨w.heap.size, 0, none⟩ (.int .i64 (f.dim + 1))).setCell ⟨w.heap.size, 1, none⟩ (.slice (some ⟨gP, 0, none⟩) nP cP)) := (((Only.refl _ _).setCell (by simp) _).setCell (by simp) _).setCell (by simp) _
    have hI := HIN.out
    exact ⟨_, ⟨f.dim + 1, f.parts⟩, rfl, ⟨_, ⟨_, rfl, ⟨by have := HDIM.out; show (-9223372036854775808 : Int) ≤ f.dim + 1; omega, by have := HDIM.out; show f.dim + 1 ≤ 9223372036854775807; omega⟩, (ownMss_only HM4.out hO (fun b hb => by have h1 := HFN.out b hb; have h2 := HFL.out b hb; simp; omega))⟩, (fun b hb => by have := HFN.out b hb; omega)⟩,
      ⟨by have := hI.1; show 0 ≤ f.dim + 1; omega, by have := HDIM.out; show f.dim + 1 ≤ 6; omega, hI.2.2⟩, HD4.out.newer hgl hO (by intro b hb; simp at hb; omega)⟩
  by_cases hq1 : y = 1
  · subst hq1
    clear hq0
    obtain ⟨p0, hp0⟩ : ∃ p, f.parts[0]? = some p := ⟨_, List.getElem?_eq_getElem (by have := HNP.out; omega)⟩
    have hp03 : p0.length ≤ 3 := (HFI.out.2.2 p0 (List.mem_of_getElem? hp0)).2.1
    have hp0m := HFI.out.2.2 p0 (List.mem_of_getElem? hp0)
    have hdr : Below w4.heap.size w4 w4.drew := (Below.refl _ _).drew
    obtain ⟨n, hn⟩ : ∃ n, n = 1 + x := ⟨_, rfl⟩
    have HN := Lib.hid hn
    have hmk : ∀ w : World, (Instr.makeSlice 35 (.int .i64 f.dim) (.int .i64 f.dim)).run Tryz.prog w = .ok (.slice (some ⟨w.heap.size, 0, none⟩) n n) (w.alloc (.cells (Array.replicate n (.int .i64 0)) 3)) := by
      rw [HDIM.out, hn]
      exact mk_row (1 + x) (by omega) (by omega)
    have HM5 := Lib.hid (ownMss_only HM4.out (Only.of_below (fp := []) hdr) (by simp))
    obtain ⟨ad, l, c, us, f0, hcp, hl, hlc, hcm, hfs, hgm, hown, hnext⟩ := part_grow HM5.out hp0
    have hn7 : n ≤ 7 := by omega
    have HZ : OwnI 3 (w4.drew.alloc (.cells (Array.replicate n (.int .i64 0)) 3)) (.slice (some ⟨w4.heap.size, 0, none⟩) n n) (zR n) [w4.heap.size] := zR_row w4.drew hn7
    have hal : Below w4.heap.size w4.drew (w4.drew.alloc (.cells (Array.replicate n (.int .i64 0)) 3)) := (Below.refl w4.heap.size w4.drew).alloc (show w4.heap.size ≤ w4.drew.heap.size from Nat.le_refl _) _
    have hnf : w2.heap.size ∉ f0 := fun hm => by have := HFL.out _ (hfs _ hm); omega
    have hrl : w.heap.size < w4.drew.heap.size := World.block_lt_of_cell? _ _ hy0
    have hnr : w.heap.size ∉ f0 := fun hm => by have := HFN.out _ (hfs _ hm); omega
    have HNX := Lib.hid (fun (w5 : World) (gg capn : Nat) (h1 : w5.ownsRow 0 56 2 (.slice (some ⟨gg, 0, none⟩) (l + 1) capn) (l + 1) (us ++ [.int .i64 1, .slice (some ⟨w4.heap.size, 0, none⟩) n n])) (h2 : ((w4.alloc (.cells (Array.replicate n (.int .i64 0)) 3)).alloc (.cells #[.int .i64 1, .slice (some ⟨w4.heap.size, 0, none⟩) n n] 56)).drew.grownBy w5 (Value.slice ad l c).ownBlock) (h3 : (Value.slice ad l c).ownBlock = some gg ∨ gg = w4.heap.size + 1 + 1) => by
      obtain ⟨k1, k2, k3, k4⟩ := hnext (w4.drew.alloc (.cells (Array.replicate n (.int .i64 0)) 3)) w5 (.cells #[.int .i64 1, .slice (some ⟨w4.heap.size, 0, none⟩) n n] 56) ⟨1, zR n⟩ w4.heap.size n n gg capn hal ⟨(by decide : (-9223372036854775808 : Int) ≤ 1), (by decide : (1 : Int) ≤ 9223372036854775807)⟩ HZ (Nat.le_refl _) h1 h2 (h3.imp id (fun h => by rw [h]; simp))
      exact And.intro k1 (And.intro k2 (And.intro (cell_only k3 hnf hc0') (And.intro (cell_only k3 hnf hc1') (And.intro (cell_only k3 hnr hy0) (And.intro (cell_only k3 hnr hy1) (And.intro ((World.frozen?_of_block (k3.block _ hrl hnr)).trans hyf0) (And.intro ((World.frozen?_of_block (k3.block _ hrl hnr)).trans hyf1) (And.intro k3 k4)))))))))
    have HNQ := Lib.hid (show ((w4.alloc (.cells (Array.replicate n (.int .i64 0)) 3)).alloc (.cells #[.int .i64 1, .slice (some ⟨w4.heap.size, 0, none⟩) n n] 56)).drew.ownsRow 0 56 2 (.slice ad l c) l us from (ownsRow_only hown (Only.of_below (fp := []) hal) (by simp) : (w4.drew.alloc (.cells (Array.replicate n (.int .i64 0)) 3)).ownsRow 0 56 2 (.slice ad l c) l us).alloc (.cells #[.int .i64 1, .slice (some ⟨w4.heap.size, 0, none⟩) n n] 56))
    have HNW := Lib.hid (show ((w4.alloc (.cells (Array.replicate n (.int .i64 0)) 3)).alloc (.cells #[.int .i64 1, .slice (some ⟨w4.heap.size, 0, none⟩) n n] 56)).drew.heap[w4.heap.size + 1]? = some (.cells #[.int .i64 1, .slice (some ⟨w4.heap.size, 0, none⟩) n n] 56) from by have h := heap_alloc_new (w4.alloc (.cells (Array.replicate n (.int .i64 0)) 3)) (.cells #[.int .i64 1, .slice (some ⟨w4.heap.size, 0, none⟩) n n] 56); rw [size_al] at h; exact h)
    obtain ⟨i0, hi, hz0, hz1, hz2⟩ := info_parts Tryz.info_mon
    have hl3 : l ≤ 3 := by omega
    have HL := Lib.hid hl
    have HFS := Lib.hid hfs
    have HGM := Lib.hid hgm
    have hcp1 : w4.cell? ⟨gP, 0, none⟩ = some (.slice ad l c) := hcp
    have hnPN : 0 < nP := by omega
    have hcpA := fun o => cell_al (o := o) hcp1
    have hcpB := fun o o' => cell_al (o := o') (hcpA o)
    have hc0A := fun o => cell_al (o := o) hc0'
    have hc0B := fun o o' => cell_al (o := o') (hc0A o)
    have hc1A := fun o => cell_al (o := o) hc1'
    have hc1B := fun o o' => cell_al (o := o') (hc1A o)
    have hgr : gP ≠ w.heap.size := by have := HFN.out _ hgm; omega
    have hgb : gP ≠ w2.heap.size := by have := HFL.out _ hgm; omega
    have HCL := Lib.hid (fun (w5 : World) (p' : Value) (h5 : Only f0 w4.drew w5) (hM5 : ∃ fp', OwnMss 24 56 3 (w5.setCell ⟨gP, 0, none⟩ p') (.slice (some ⟨gP, 0, none⟩) nP cP) (f.parts.set 0 (p0 ++ [⟨1, zR n⟩])) fp' ∧ ∀ b ∈ fp', b ∈ fpf ∨ w4.drew.heap.size ≤ b) => show AnyFld g w (.returned (.agg #[.int .i64 f.dim, .slice (some ⟨gP, 0, none⟩) nP cP])) (((w5.setCell ⟨gP, 0, none⟩ p').setCell ⟨w.heap.size, 0, none⟩ (.int .i64 f.dim)).setCell ⟨w.heap.size, 1, none⟩ (.slice (some ⟨gP, 0, none⟩) nP cP)) from by
      obtain ⟨fp', hM, hfp'⟩ := hM5
      have hI := HIN.out
      have hO : Only (w.heap.size :: fpf) w4 (((w5.setCell ⟨gP, 0, none⟩ p').setCell ⟨w.heap.size, 0, none⟩ (.int .i64 f.dim)).setCell ⟨w.heap.size, 1, none⟩ (.slice (some ⟨gP, 0, none⟩) nP cP)) :=
        ((((Only.of_below (fp := w.heap.size :: fpf) (Below.refl w4.heap.size w4).drew).trans (h5.mono (fun b hb => List.mem_cons_of_mem _ (hfs b hb)))).setCell (List.mem_cons_of_mem _ hgm) _).setCell (by simp) _).setCell (by simp) _
      refine ⟨_, ⟨f.dim, f.parts.set 0 (p0 ++ [⟨1, zR n⟩])⟩, rfl, ⟨_, ⟨_, rfl, ⟨by have := HDIM.out; show (-9223372036854775808 : Int) ≤ f.dim; omega, by have := HDIM.out; show f.dim ≤ 9223372036854775807; omega⟩, ownMss_only hM (HO2.out _ _ _) (fun b hb => ?_)⟩, (fun b hb => by { have h3 : w.heap.size < w4.heap.size := hrl; rcases hfp' b hb with h | h; { have := HFN.out b h; omega }; { have h' : w4.heap.size ≤ b := h; omega } })⟩, ⟨hI.1, hI.2.1, by rw [List.length_set]; exact hI.2.2.1, fun p hp => ?_⟩, HD4.out.newer hgl hO (fun b hb => ?_)⟩
      · rcases hfp' b hb with h | h
        · have := HFN.out b h; simp; omega
        · have h' : w4.heap.size ≤ b := h
          intro hm
          rw [List.mem_singleton] at hm
          subst hm
          have h3 : w.heap.size < w4.heap.size := hrl
          exact absurd h' (Nat.not_le.2 h3)
      · rcases List.mem_or_eq_of_mem_set hp with hp | rfl
        · exact hI.2.2.2 p hp
        · refine ⟨by simp; omega, fun m hm => ?_⟩
          rcases List.mem_append.1 hm with hm | hm
          · exact (hI.2.2.2 p0 (List.mem_of_getElem? hp0)).2 m hm
          · rw [List.mem_singleton] at hm
            subst hm
            show (zR n).length ≤ 6
            simp [zR]; omega
      · rcases List.mem_cons.1 hb with rfl | hb
        · omega
        · have := HFN.out b hb; omega)
    clear hown hnext HZ hal hl hfs hgm hdr hn hcp hp0m
    go_wp2
    go_region_law (first | (refine step_append_lies _ (by rfl) _ _ _ (by rfl) 0 56 i0 _ 2 32 Tryz.underlying24 hi hz0 hz1 hz2 rfl (by omega) (.slice ad l c) l _ (by rfl) HNQ.out ⟨w4.heap.size + 1, 0, none⟩ 1 1 [.int .i64 1, .slice (some ⟨w4.heap.size, 0, none⟩) n n] (by rfl) (by rfl) (World.news_of_block (cs := #[.int .i64 1, .slice (some ⟨w4.heap.size, 0, none⟩) n n]) (t := 56) (fr := (0, 0)) HNW.out) (by simp [Value.oneCell']) (by omega) (by unfold maxLen; omega) (by omega) (by simp) (w4.heap.size + 1 + 1) (by simp) ?_; intro gg capn w5 hown1 hgrow hat hlt1; obtain ⟨hk1, hk2, hm0, hm1, hr0, hr1, hrf0, hrf1, hk3, hk4⟩ := HNX.out w5 gg capn hown1 hgrow hat; have HO5 := Lib.hid hk3; have HPP := Lib.hid hk4; clear hown1 hgrow hk3 hk4))
    all_goals (
      go_wp2
      refine bodyPost_ret (v := .agg #[.int .i64 f.dim, .slice (some ⟨gP, 0, none⟩) nP cP]) (by simp [results, Tryz.results71, go_sem, hr0, hr1, hgr, hgb]) rfl ?_
      exact HCL.out _ _ HO5.out HPP.out)
  by_cases hq2 : y = 2
  · subst hq2
    clear hq0 hq1
    go_wp2
    refine bodyPost_ret (v := .agg #[.int .i64 0, .slice none 0 0]) (by simp [results, Tryz.results71, go_sem, hy0, hy1]) rfl ?_
    have hI0 : I64 0 := ⟨(by decide : (-9223372036854775808 : Int) ≤ 0), (by decide : (0 : Int) ≤ 9223372036854775807)⟩
    exact ⟨_, ⟨0, []⟩, rfl, ⟨[], ⟨_, rfl, hI0, ⟨[], [], World.ownsRow_nil _ _ _ _, by simp, rfl, rfl, by simp⟩⟩, by simp⟩, ⟨by decide, by decide, by simp, fun p hp => by cases hp⟩, HD4.out.newer hgl (HO2.out _ _ _) (by intro b hb; simp at hb; omega)⟩
  by_cases hq3 : y = 3
  · subst hq3
    clear hq0 hq1 hq2
    have HBE4 := Lib.hid (below_any g 37 37 rfl (by omega) (by omega) w4 HD4.out.cur)
    go_wp2_with fail
    refine HBE4.out.mono ?_
    rintro e w5 ⟨k, rfl, hk, hd5⟩
    have HD5 := Lib.hid (HD4.out.trans hd5)
    have hd5s := hd5.only.size
    obtain ⟨⟨z0, hz0⟩, ⟨z1, hz1⟩, hzf0, hzf1⟩ := HY3.out.only ((show Only [g] w3 w4 from HD34.out.only).trans hd5.only) (by simp; omega)
    clear hd5
    go_wp2_with fail
    refine (treeField_any k hk w5).mono ?_
    rintro e w6 ⟨vt, ft, fpt, rfl, hot, hst, hfpt, hb6⟩
    obtain ⟨vPt, rfl, hIt, hMt⟩ := hot
    obtain ⟨adT, lT, cT, rfl⟩ := ownMss_slice hMt
    have hw5l := World.block_lt_of_cell? _ _ hz0
    have hz0' := cell_below hb6 hz0
    have hz1' := cell_below hb6 hz1
    have hzf0' := (hb6.frozen (p := ⟨w.heap.size, 0, none⟩) hw5l).trans hzf0
    have hzf1' := (hb6.frozen (p := ⟨w.heap.size, 1, none⟩) hw5l).trans hzf1
    have HMT := Lib.hid hMt
    have HST := Lib.hid hst
    have HIT := Lib.hid hIt
    have HB6 := Lib.hid hb6
    have HFT := Lib.hid hfpt
    clear hMt hst hIt hb6 hfpt hz0 hz1 hzf0 hzf1
    go_wp2
    refine bodyPost_ret (v := .agg #[.int .i64 ft.dim, .slice adT lT cT]) (by simp [results, Tryz.results71, go_sem, hz0', hz1']) rfl ?_
    exact ⟨_, ft, rfl, ⟨_, ⟨_, rfl, HIT.out, ownMss_only HMT.out (HO2.out _ _ _) (fun b hb => by have := HFT.out b hb; simp; omega)⟩, (fun b hb => by have := HFT.out b hb; omega)⟩, HST.out, (HD5.out.below HB6.out).newer hgl (HO2.out _ _ _) (by intro b hb; simp at hb; omega)⟩
  have hb0 : ((y : Int) == 0) = false := by simp; omega
  have hb1 : ((y : Int) == 1) = false := by simp; omega
  have hb2 : ((y : Int) == 2) = false := by simp; omega
  have hb3 : ((y : Int) == 3) = false := by simp; omega
  clear hq0 hq1 hq2 hq3
  go_wp2
  refine bodyPost_ret (v := .agg #[.int .i64 f.dim, .slice (some ⟨gP, 0, none⟩) nP cP]) (by simp [results, Tryz.results71, go_sem, hy0, hy1, hne]) rfl ?_
  have hI := HIN.out
  exact ⟨_, f, rfl, ⟨_, ⟨_, rfl, ⟨by have := HDIM.out; show (-9223372036854775808 : Int) ≤ f.dim; omega, by have := HDIM.out; show f.dim ≤ 9223372036854775807; omega⟩, ownMss_only HM4.out (HO2.out _ _ _) (fun b hb => by have h1 := HFN.out b hb; have h2 := HFL.out b hb; simp; omega)⟩, (fun b hb => by have := HFN.out b hb; omega)⟩, hI, HD4.out.newer hgl (HO2.out _ _ _) (by intro b hb; simp at hb; omega)⟩
end Go.Proofs.YtbcjhpgkodeoeaaGreatDoor
