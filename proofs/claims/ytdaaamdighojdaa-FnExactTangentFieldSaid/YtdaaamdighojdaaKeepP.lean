/- Whether a field keeps a polynomial: the program. Conditions: none. -/
import Derived.Test.YtdaaamdighojdaaMulM
import Derived.Test.YtdaaamdighojdaaFOk
import Derived.Maps.AppendAt
set_option linter.unusedSimpArgs false
set_option linter.unusedVariables false
namespace Go.Proofs.Ytdaaamdighojdaa
open Go.RowKit Go.Sort

/-- The monomials of the derivative along a field, one behind the other. -/
def allL (parts : List (List MonZ)) (h : List MonZ) (k : Nat) : List MonZ := (List.range k).flatMap fun i => mulL (partL i 1 h) (parts[i]?.getD [])
theorem allL_next {parts : List (List MonZ)} {h : List MonZ} {k : Nat} {p : List MonZ} (hp : parts[k]? = some p) : allL parts h (k + 1) = allL parts h k ++ mulL (partL k 1 h) p := by
  rw [allL, List.range_succ, List.flatMap_append, List.flatMap_singleton, hp]; rfl
def keepsB (f : FldZ) (h : List MonZ) : Bool := fldOkB f && polyOkB h f.dim && decide ((putAll [] (allL f.parts h f.parts.length)).length = 0)
theorem mulL_nums (p q : List MonZ) : NumsM (mulL p q) := by
  intro m hm
  obtain ⟨a, _, hm⟩ := List.mem_flatMap.1 hm
  obtain ⟨b, _, rfl⟩ := List.mem_map.1 hm
  exact timesZ_bd _ _
theorem allL_nums (parts : List (List MonZ)) (h : List MonZ) (k : Nat) : NumsM (allL parts h k) := by
  intro m hm
  obtain ⟨i, _, hm⟩ := List.mem_flatMap.1 hm
  exact mulL_nums _ _ m hm
theorem partL_len (v : Nat) (s : Int) (p : List MonZ) : (partL v s p).length ≤ p.length := List.length_filterMap_le _ _
theorem allL_len {parts : List (List MonZ)} {h : List MonZ} (hh : h.length ≤ 12) (hp : ∀ p ∈ parts, p.length ≤ 12) : ∀ k, (allL parts h k).length ≤ k * 144
  | 0 => by simp [allL]
  | k + 1 => by
    have ih := allL_len hh hp k
    have h1 := partL_len k 1 h
    rw [allL, List.range_succ, List.flatMap_append, List.flatMap_singleton, List.length_append, mulL_len]
    have h2 : (parts[k]?.getD []).length ≤ 12 := by
      cases hk : parts[k]? with
      | none => simp
      | some p => exact hp p (List.mem_of_getElem? hk)
    have h3 : (partL k 1 h).length * (parts[k]?.getD []).length ≤ 12 * 12 := Nat.mul_le_mul (by omega) h2
    have h4 : ((List.range k).flatMap fun i => mulL (partL i 1 h) (parts[i]?.getD [])).length ≤ k * 144 := ih
    omega
theorem partL_small {v n : Nat} {s : Int} {p : List MonZ} (hp : ∀ m ∈ p, MonFine n m) : ∀ m ∈ partL v s p, MonSmall n m := by
  intro m hm
  obtain ⟨m0, hm0, he⟩ := List.mem_filterMap.1 hm
  obtain ⟨h1, h2, h3, h4⟩ := hp m0 hm0
  unfold partM at he
  split at he
  · rename_i hpos
    simp only [Option.some.injEq] at he
    subst he
    refine ⟨i64_of_bd (timesZ_bd _ _), by simp [h2], fun x hx => ?_⟩
    rcases List.mem_or_eq_of_mem_set hx with hx | rfl
    · exact h4 x hx
    · have : v < m0.pows.length := by
        rcases Nat.lt_or_ge v m0.pows.length with h | h
        · exact h
        · simp [atZ, List.getElem?_eq_none h] at hpos
      have hx5 := h4 (atZ m0.pows v) (by simp [atZ, this])
      omega
  · cases he
theorem fine_small {n : Nat} {p : List MonZ} (hp : ∀ m ∈ p, MonFine n m) : ∀ m ∈ p, MonSmall n m := fun m hm =>
  ⟨i64_of_bd (hp m hm).1, (hp m hm).2.1, (hp m hm).2.2.2⟩

theorem ms_news {w : World} {b n cap : Nat} {xs : List MonZ} {e2 e : Nat} {us : List (List Value)} (hown : w.ownsRow 0 e2 2 (.slice (some ⟨b, 0, none⟩) n cap) n us.flatten) (hels : ∃ fs, OwnEls (OElMon e) w us xs fs) :
    (∀ (j : Nat) u, us.flatten[j]? = some u → w.cell? ((⟨b, 0, none⟩ : Addr).add j) = some u) ∧ ∀ u ∈ us.flatten, u.oneCell' = true := by
  obtain ⟨fs, hels⟩ := hels
  obtain ⟨X, _, hr, _, _⟩ := ownEls_S hels
  refine ⟨fun j u hu => hown.cells (by rfl) j u hu, fun u hu => ?_⟩
  rw [← hr] at hu
  simp only [rowS, List.mem_flatten, List.mem_map] at hu
  obtain ⟨l, ⟨x, _, rfl⟩, hu⟩ := hu
  simp [encS] at hu
  rcases hu with rfl | rfl <;> rfl

/-- All elements of one row of the call's own appended to another one. -/
theorem ownMs_all {e2 e : Nat} {W wr wq w2 : World} {v v' : Value} {xs ys : List MonZ} {us us2 : List (List Value)} {fs fs2 : List Nat} {n m : Nat}
    (hone : ∀ u ∈ us, u.length = 2) (hels : OwnEls (OElMon e) wr us xs fs) (hnd : (v.ownBlock.toList ++ fs).Nodup) (hown0 : wr.ownsRow 0 e2 2 v xs.length us.flatten) (hn : xs.length = n)
    (hone2 : ∀ u ∈ us2, u.length = 2) (hels2 : OwnEls (OElMon e) wq us2 ys fs2) (hnd2 : fs2.Nodup) (hm : ys.length = m) (hnew2 : ∀ b ∈ fs2, wr.heap.size ≤ b)
    (hfp : ∀ b ∈ v.ownBlock.toList ++ fs, W.heap.size ≤ b) (hW : Below W.heap.size W wr) (hq : Below wr.heap.size wr wq)
    (hown : w2.ownsRow 0 e2 2 v' (n + m) (us.flatten ++ us2.flatten)) (hg : wq.grownBy w2 v.ownBlock) (hv : v'.ownBlock = v.ownBlock ∨ v'.ownBlock = some wq.heap.size) :
    ∃ fp', OwnMs e2 e w2 v' (xs ++ ys) fp' ∧ (∀ b ∈ fp', W.heap.size ≤ b) ∧ Below W.heap.size W w2 := by
  subst hn hm
  have hs1 := hW.size
  have hs2 := hq.size
  have hvl : ∀ b ∈ v.ownBlock.toList, b < wr.heap.size := fun b hb => (hown0.lt b (by simpa using hb)).2
  have hO : Only v.ownBlock.toList wq w2 := ⟨hg.os, hg.tape, hg.output, hg.size, fun k hk hn => hg.block k hk (fun e => hn (by rw [← e]; simp))⟩
  rw [List.nodup_append] at hnd
  have hl1 : ∀ b ∈ fs, b < wr.heap.size := ownEls_lt (fun _ _ _ h => oelMon_lt h) hels
  have hl2 : ∀ b ∈ fs2, b < wq.heap.size := ownEls_lt (fun _ _ _ h => oelMon_lt h) hels2
  have g1 : OwnEls (OElMon e) w2 us xs fs := ownEls_only (g := v.ownBlock.toList) (fun u x f h hd => oelMon_only h hO hd) (ownEls_only (g := []) (fun u x f h hd => oelMon_only h (Only.of_below (fp := []) hq) hd) hels (by simp)) (fun b hb hm => hnd.2.2 b hm b hb rfl)
  have g2 : OwnEls (OElMon e) w2 us2 ys fs2 := ownEls_only (g := v.ownBlock.toList) (fun u x f h hd => oelMon_only h hO hd) hels2 (fun b hb hm => by have := hvl b hm; have := hnew2 b hb; omega)
  have hv' : ∀ b ∈ v'.ownBlock.toList, b ∈ v.ownBlock.toList ∨ b = wq.heap.size := fun b hb => by
    rcases hv with h | h
    · left; rw [← h]; exact hb
    · right; rw [h] at hb; simpa using hb
  refine ⟨v'.ownBlock.toList ++ (fs ++ fs2), ⟨us ++ us2, fs ++ fs2, by rw [List.length_append, List.flatten_append]; exact hown, fun u hu => ?_, ownEls_append g1 g2, rfl, ?_⟩, fun b hb => ?_, (hW.trans (hq.mono hW.size)).trans (hO.below (by omega) (fun b hb => hfp b (by rw [List.mem_append]; left; exact hb)))⟩
  · rw [List.mem_append] at hu
    exact hu.elim (hone u) (hone2 u)
  · rw [List.nodup_append, List.nodup_append]
    refine ⟨by cases v'.ownBlock <;> simp, ⟨hnd.2.1, hnd2, fun a ha b hb he => by have := hl1 a ha; have := hnew2 b hb; omega⟩, fun a ha b hb he => ?_⟩
    subst he
    rw [List.mem_append] at hb
    rcases hv' a ha with h | h
    · rcases hb with hb | hb
      · exact hnd.2.2 a h a hb rfl
      · have := hvl a h; have := hnew2 a hb; omega
    · rcases hb with hb | hb
      · have := hl1 a hb; omega
      · have := hl2 a hb; omega
  · rw [List.mem_append, List.mem_append] at hb
    rcases hb with hb | hb | hb
    · rcases hv' b hb with h | h
      · exact hfp b (by rw [List.mem_append]; left; exact h)
      · omega
    · exact hfp b (by rw [List.mem_append]; right; exact hb)
    · have := hnew2 b hb; omega
theorem someS_own {w : World} {e n : Nat} {v : Value} {cs : List Value} {b : Nat} (h : w.ownsRow 0 e 2 v n cs) (hv : v.ownBlock = some b) : SomeS v := by
  obtain ⟨_, ⟨rfl, _⟩ | ⟨g, cap, cur, rfl, _⟩⟩ := h
  · simp [Value.ownBlock] at hv
  · exact ⟨g, _, cap, rfl⟩

theorem keepsB_fld {f : FldZ} {h : List MonZ} (hf : fldOkB f = false) : keepsB f h = false := by simp [keepsB, hf]
theorem keepsB_pol {f : FldZ} {h : List MonZ} (hf : polyOkB h f.dim = false) : keepsB f h = false := by simp [keepsB, hf]
theorem keepsB_yes {f : FldZ} {h : List MonZ} (h1 : fldOkB f = true) (h2 : polyOkB h f.dim = true) : keepsB f h = decide ((putAll [] (allL f.parts h f.parts.length)).length = 0) := by simp [keepsB, h1, h2]

set_option maxRecDepth 100000 in
set_option maxHeartbeats 3200000 in
theorem keeps_any (vf vh : Value) (f : FldZ) (h : List MonZ) (w : World) (hf : RdFld w vf f) (hh : RdMs w vh h) (hff : ∀ p ∈ f.parts, ∀ m ∈ p, Fit_Mon m) (hfh : ∀ m ∈ h, Fit_Mon m) :
    Calls Try.prog 47 #[vf, vh] w fun e w' => e = .returned (.bool (keepsB f h)) ∧ Below w.heap.size w w' := by
  have hff' := hf
  obtain ⟨vP, rfl, hIf, hP⟩ := hf
  obtain ⟨adp, lp, cp, rfl⟩ := rdMss_slice hP
  obtain ⟨adh, lh, ch, rfl, hlh, _, _, hh'⟩ := rdS_open hh
  have hb0 : Below w.heap.size w (w.alloc (.cells #[.int .i64 f.dim, .slice adp lp cp] 37)) := (Below.refl _ _).alloc (Nat.le_refl _) _
  have FOK := Lib.hid (fun (c : Bool) (hc : fldOkB f = c) => fldOk_eq (.agg #[.int .i64 f.dim, .slice adp lp cp]) f _ (rdFld_mono hb0 hff') hff hc)
  have HB0 := Lib.hid hb0
  cases hfo : fldOkB f with
  | false =>
    have F1 := Lib.hid (FOK.out false hfo)
    have HE := Lib.hid (keepsB_fld (h := h) hfo)
    clear hff' hP hh hh' hlh hb0 hfo hff hfh FOK
    go_enter Try.func47, Try.ntmps47
    go_wp2_with fail
    refine F1.out.mono ?_
    rintro e w1 ⟨rfl, hb1⟩
    go_wp2
    go_ret
    exact ⟨ret_bool HE.out.symm, HB0.out.trans (hb1.mono HB0.out.size)⟩
  | true =>
  have F1 := Lib.hid (FOK.out true hfo)
  have POK := Lib.hid (fun (c : Bool) (hc : polyOkB h f.dim = c) (W : World) (hW : Below w.heap.size w W) => polyOk_eq (.slice adh lh ch) h f.dim W (rdMs_mono hW hh') hfh hc)
  have HF0 := Lib.hid (show (w.alloc (.cells #[.int .i64 f.dim, .slice adp lp cp] 37)).cell? ⟨w.heap.size, 0, none⟩ = some (.int .i64 f.dim) ∧ (w.alloc (.cells #[.int .i64 f.dim, .slice adp lp cp] 37)).cell? ⟨w.heap.size, 1, none⟩ = some (.slice adp lp cp) from ⟨by simp, by simp⟩)
  cases hpo : polyOkB h f.dim with
  | false =>
    have P1 := Lib.hid (POK.out false hpo)
    have HE := Lib.hid (keepsB_pol (f := f) hpo)
    clear hff' hP hh hh' hlh hb0 hfo hff hfh FOK POK hpo
    go_enter Try.func47, Try.ntmps47
    go_wp2_with fail
    refine F1.out.mono ?_
    rintro e w1 ⟨rfl, hb1⟩
    have c0 := cell_below hb1 HF0.out.1
    have hb1w := HB0.out.trans (hb1.mono HB0.out.size)
    go_wp2_with fail
    refine (P1.out _ hb1w).mono ?_
    rintro e w2 ⟨rfl, hb2⟩
    go_wp2
    go_ret
    exact ⟨ret_bool HE.out.symm, hb1w.trans (hb2.mono hb1w.size)⟩
  | true =>
  have P1 := Lib.hid (POK.out true hpo)
  have HE := Lib.hid (keepsB_yes hfo hpo)
  obtain ⟨n, hdn, hpn, hn1, hn6, hparts⟩ := fldOk_parts hfo
  rw [hdn] at hpo
  obtain ⟨_, _, hh12, hhm⟩ := polyOk_facts hpo
  have hlp : lp = n := by
    obtain ⟨ad', len', cap', he, hl', _⟩ := rdS_open hP
    injection he with e1 e2 e3
    omega
  subst hlp
  have HPARTS := Lib.hid hparts
  have HPN := Lib.hid hpn
  have HHM := Lib.hid hhm
  have HH12 := Lib.hid hh12
  have HHR := Lib.hid hh'
  have HPR := Lib.hid hP
  have HALL := Lib.hid (allL_len (parts := f.parts) hh12 (fun p hp => (hparts p hp).1))
  obtain ⟨i0, hi, hz0, hz1, hz2⟩ := info_parts Try.info_mon
  clear hff' hP hh hh' hlh hb0 hfo hff hfh FOK POK hpo hdn hparts hpn hhm hh12
  go_enter Try.func47, Try.ntmps47
  go_wp2_with fail
  refine F1.out.mono ?_
  rintro e w1 ⟨rfl, hb1⟩
  have c0 := cell_below hb1 HF0.out.1
  have c1 := cell_below hb1 HF0.out.2
  have hb1w := HB0.out.trans (hb1.mono HB0.out.size)
  go_wp2_with fail
  refine (P1.out _ hb1w).mono ?_
  rintro e w2 ⟨rfl, hb2⟩
  have c0b := cell_below hb2 c0
  have c1b := cell_below hb2 c1
  have hb2w := hb1w.trans (hb2.mono hb1w.size)
  obtain ⟨W3, hW3⟩ : ∃ W, W = w2.alloc (.cells #[] 91) := ⟨_, rfl⟩
  have hb3w := hb2w.trans ((show Below w2.heap.size w2 W3 from hW3 ▸ (Below.refl _ _).alloc (Nat.le_refl _) _).mono hb2w.size)
  have HO0 := Lib.hid (show OwnMs 91 3 W3 (.slice (some ⟨w2.heap.size, 0, none⟩) 0 0) [] [w2.heap.size] from hW3 ▸ ⟨[], [], by simpa using World.ownsRow_lit (base := 0) (e := 91) (size := 2) w2 #[] 0 (Nat.zero_le _) (Nat.zero_le _) rfl, by simp, rfl, rfl, by simp⟩)
  have HW3 := Lib.hid hW3
  have HB3 := Lib.hid hb3w
  have HS2 := Lib.hid hb2w.size
  have c1c : (w2.alloc (.cells #[] 91)).cell? ⟨w.heap.size, 1, none⟩ = some (.slice adp lp cp) := cell_below ((Below.refl _ _).alloc (Nat.le_refl _) _) c1b
  clear hb1 hb2 c0 c1 hb1w hb2w hb3w hW3
  go_wp2
  rw [← HW3.out]
  go_loopw [5, 22] (fun u si wr => ∃ (k : Nat) (fs : List Nat), si = .int .i64 k ∧ k ≤ lp ∧ SomeS u ∧ OwnMs 91 3 wr u (allL f.parts h k) fs ∧ (∀ b ∈ fs, w.heap.size ≤ b) ∧ Below w.heap.size w wr) (fun _ si _ => lp - (intOf si).toNat)
  case atStart => exact ⟨0, [w2.heap.size], rfl, Nat.zero_le _, someS _ _ _, by simpa [allL] using HO0.out, by have := HS2.out; simpa using this, HB3.out⟩
  case round =>
    obtain ⟨wk, rfl⟩ : ∃ W, W = wr := ⟨_, rfl⟩
    clear HO0 c1c c1b c0b
    obtain ⟨k, fs0, rfl, hk, hsu, ho, hf, hb⟩ := hrel
    obtain ⟨gu, lu, cu, rfl⟩ := hsu
    have hlk := HALL.out k
    by_cases hlt : k < lp
    case neg =>
      obtain rfl : k = lp := by omega
      have hul : (allL f.parts h k).length = lu := by
        obtain ⟨ad', len', cap', he, hl', _⟩ := rdS_open (ownMs_rd ho)
        injection he with e1 e2 e3
        omega
      have CO := Lib.hid (collect_any gu lu cu (allL f.parts h k) fs0 wk ho (by omega) (allL_nums _ _ _))
      have HE2 := Lib.hid (show keepsB f h = decide ((putAll [] (allL f.parts h k)).length = 0) from by have := HE.out; rwa [HPN.out] at this)
      have HF := Lib.hid hf
      clear ho hf hlk hul
      go_wp2_with fail
      refine CO.out.mono ?_
      rintro e w3 ⟨v3, fp3, rfl, ho3, hf3, hon3⟩
      have hb3 := hb.trans (hon3.below hb.size HF.out)
      obtain ⟨ad3, l3, c3, rfl, hl3, _, _, _⟩ := rdS_open (ownMs_rd ho3)
      have HL3 := Lib.hid hl3
      clear ho3 hf3 hon3 hl3
      go_wp2
      go_ret
      exact ⟨ret_bool (by rw [HE2.out, HL3.out, Bool.eq_iff_iff]; simp), hb3⟩
    obtain ⟨bp, op, ad5, l5, c5, p, rfl, hp, hc5, h51, h52, h53, h54, _⟩ := rdMss_get (rdMss_mono hb HPR.out) hlt
    obtain ⟨hp12, hpm⟩ := HPARTS.out p (List.mem_of_getElem? hp)
    have PA := Lib.hid (partial_any (.slice adh lh ch) h k lp wk (rdMs_mono hb HHR.out) HH12.out HHM.out hn6 hlt)
    obtain ⟨us, fs, hown, hone, hels, rfl, hnd⟩ := ho
    have hul : (allL f.parts h k).length = lu := by
      obtain ⟨ad', cap', he, _, _, _⟩ := row_open hown
      injection he with e1 e2 e3
      exact e2.symm
    have HMU := Lib.hid (fun (v1 : Value) (fp1 : List Nat) (w1 : World) (ho1 : OwnMs 91 3 w1 v1 (partL k 1 h) fp1) (hb1 : Below wk.heap.size wk w1) => multiply_any v1 (.slice ad5 l5 c5) (partL k 1 h) p lp w1 (ownMs_rd ho1) (rdMs_mono hb1 h54) (Nat.le_trans (partL_len _ _ _) HH12.out) hp12 (partL_small HHM.out) (fine_small hpm) hn1 hn6)
    have HNX := Lib.hid (allL_next (h := h) hp)
    have hnl : (mulL (partL k 1 h) p).length ≤ 144 := by
      rw [mulL_len]
      exact Nat.le_trans (Nat.mul_le_mul (Nat.le_trans (partL_len _ _ _) HH12.out) hp12) (by decide)
    have HOWN := Lib.hid hown
    have HONE := Lib.hid hone
    have HELS := Lib.hid hels
    have HND := Lib.hid hnd
    have HF := Lib.hid hf
    have HB := Lib.hid hb
    have HUL := Lib.hid hul
    have HNL := Lib.hid hnl
    have hlu : lu ≤ 864 := by omega
    clear hown hone hels hnd hf hp h51 h54 hp12 hpm hul hlk hnl hb
    go_wp2_with fail
    refine PA.out.mono ?_
    rintro e w3 ⟨v3, fp3, rfl, ho3, hf3, hb3⟩
    have MU := Lib.hid (HMU.out v3 fp3 w3 ho3 hb3)
    obtain ⟨ad3, l3, c3, rfl⟩ := ownMs_open ho3
    have HB3' := Lib.hid hb3
    clear ho3 hf3 hb3
    go_wp2_with fail
    refine MU.out.mono ?_
    rintro e w4 ⟨v4, fp4, rfl, ⟨ho4, g4, l4, c4, rfl⟩, hf4, hb4⟩
    obtain ⟨us4, fs4, hown4, hone4, hels4, rfl, hnd4⟩ := ho4
    have hul4 : (mulL (partL k 1 h) p).length = l4 := by
      obtain ⟨ad', cap', he, _, _, _⟩ := row_open hown4
      injection he with e1 e2 e3
      exact e2.symm
    rw [hul4] at hown4
    have hbk4 := HB3'.out.trans (hb4.mono HB3'.out.size)
    obtain ⟨hnews, hcell⟩ := ms_news hown4 ⟨_, hels4⟩
    have HNEWS := Lib.hid hnews
    have HCELL := Lib.hid hcell
    have hl4 : l4 ≤ 144 := by have := HNL.out; omega
    have HLF := Lib.hid (show us4.flatten.length = l4 * 2 from hown4.1)
    have HOWNQ := Lib.hid (show w4.ownsRow 0 91 2 (.slice (some ⟨gu, 0, none⟩) lu cu) lu us.flatten from by
      have h1 := ownsRow_only HOWN.out (Only.of_below (fp := []) hbk4) (by simp)
      rwa [HUL.out] at h1)
    have HALLN := Lib.hid (fun (v' : Value) (w' : World) (hown' : w'.ownsRow 0 91 2 v' (lu + l4) (us.flatten ++ us4.flatten)) (hg : w4.grownBy w' (Value.slice (some ⟨gu, 0, none⟩) lu cu).ownBlock) (hv : v'.ownBlock = (Value.slice (some ⟨gu, 0, none⟩) lu cu).ownBlock ∨ v'.ownBlock = some w4.heap.size) =>
      ownMs_all (W := w) HONE.out HELS.out HND.out HOWN.out HUL.out hone4 hels4 (List.nodup_append.1 hnd4).2.1 hul4 (fun b hb => by
        have h1 := hf4 b (by rw [List.mem_append]; right; exact hb)
        have h2 := HB3'.out.size
        omega) HF.out HB.out hbk4 hown' hg hv)
    clear hown4 hone4 hels4 hnd4 hul4 hnews hcell hf4 hb4 hbk4
    go_wp2_with (first | (at_builtin; refine wpList_append_own_at _ rfl _ _ _ rfl 0 91 i0 _ 2 32 Try.underlying45 hi hz0 hz1 hz2 rfl (by omega) (.slice (some ⟨gu, 0, none⟩) lu cu) lu us.flatten (by rfl) HOWNQ.out ⟨g4, 0, none⟩ l4 c4 us4.flatten (by rfl) HLF.out HNEWS.out HCELL.out (by unfold maxLen; omega) (by omega) (Nat.zero_le _) ?_; intro v' w' hown' hgrow' _ hat'; obtain ⟨f', hP1, hP2, hP3⟩ := HALLN.out v' w' hown' hgrow' hat'; have HPP := Lib.hid hP1; have hSS : SomeS v' := (hat'.elim (fun h => someS_own hown' (h.trans rfl)) (fun h => someS_own hown' h)); obtain ⟨gn, ln, cn, rfl⟩ := hSS; clear hown' hgrow' hat' hP1))
    go_roundw
    case rel => exact ⟨k + 1, f', by go_num, by omega, someS _ _ _, by rw [HNX.out]; exact HPP.out, hP2, hP3⟩
    case measure => (simp [intOf]; try omega)
end Go.Proofs.Ytdaaamdighojdaa
