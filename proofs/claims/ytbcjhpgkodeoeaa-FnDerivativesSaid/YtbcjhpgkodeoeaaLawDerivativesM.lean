/- The law FnDerivatives returns true for every text of bytes, and changes nothing that was there. Conditions: none. -/
import Derived.Test.YtbcjhpgkodeoeaaG44
import Derived.Test.YtbcjhpgkodeoeaaG51
set_option linter.unusedSimpArgs false
set_option linter.unusedVariables false

namespace Go.Proofs.Ytbcjhpgkodeoeaa
open Go.ChangeShapes Go.WideShapes Go.ChangeAt Go.RowKit

/-- A literal of slices that read as rows. -/
theorem lit_II {e : Nat} (w : World) (cs : Array Value) (xs : List (List Int)) (n : Nat) (hn : n = xs.length) (hs : cs.size = n) (hl : n ≤ 1000) (h : ∀ (i : Nat) (x : List Int), xs[i]? = some x → ∃ p, cs[i]? = some p ∧ RdI w p x) :
    RdII (w.alloc (.cells cs e)) (.slice (some ⟨w.heap.size, 0, none⟩) n n) xs := by
  subst hn
  have hal : Below w.heap.size w (w.alloc (.cells cs e)) := (Below.refl _ _).alloc (Nat.le_refl _) _
  refine ⟨some ⟨w.heap.size, 0, none⟩, xs.length, rfl, Nat.le_refl _, by omega, fun _ => ⟨w.heap.size, 0, rfl, fun i x hx => ?_⟩⟩
  obtain ⟨p, hp, hr⟩ := h i x hx
  refine ⟨[p], rfl, fun j u hj => ?_, p, rfl, rdI_mono hal hr⟩
  match j, hj with
  | 0, hj =>
    simp at hj
    subst hj
    simp [hp]
/-- Slices that read as rows. -/
def Env (W : World) (L : List (Value × List Int)) : Prop := ∀ p ∈ L, RdI W p.1 p.2
theorem Env.mono {W W' : World} {L : List (Value × List Int)} (h : Env W L) (hb : Below W.heap.size W W') : Env W' L := fun p hp => rdI_mono hb (h p hp)
theorem Env.cons {W : World} {L : List (Value × List Int)} {v : Value} {x : List Int} (h : Env W L) (hv : RdI W v x) : Env W ((v, x) :: L) := fun p hp => by
  rcases List.mem_cons.1 hp with rfl | hp
  · exact hv
  · exact h p hp
theorem Env.at {W : World} {L : List (Value × List Int)} (h : Env W L) {v : Value} {x : List Int} (hm : (v, x) ∈ L) : RdI W v x := h _ hm
theorem zR_base {n : Nat} (w : World) (h7 : n ≤ 7) : (w.alloc (.cells (Array.replicate n (.int .i64 0)) 3)).ownsRow w.heap.size 3 1 (.slice (some ⟨w.heap.size, 0, none⟩) n n) n (List.replicate n (.int .i64 0)) :=
  ⟨by simp, .inr ⟨w.heap.size, n, Array.replicate n (.int .i64 0), by simp, Nat.le_refl _, heap_alloc_new w _, by simp, by unfold maxLen; omega, by simp, by simp⟩⟩
theorem mk_dim {n : Nat} {d : Int} (hd : d = n) (h1 : 1 ≤ n) (h7 : n ≤ 7) : ∀ w : World, (Instr.makeSlice 24 (.int .i64 d) (.int .i64 d)).run Try.prog w = .ok (.slice (some ⟨w.heap.size, 0, none⟩) n n) (w.alloc (.cells (Array.replicate n (.int .i64 0)) 3)) := by
  rw [hd]
  exact mk_row n h1 h7
theorem sumV_get {n : Nat} (u v : List Int) {i : Nat} (h : i < n) : (sumV n u v)[i]? = some (plusZ (atZ u i) (atZ v i)) := by simp [sumV, h]
theorem at_get {u : List Int} {i : Nat} {x : Int} (h : u[i]? = some x) : atZ u i = x := by simp [atZ, h]
theorem rdII_nil (w : World) : RdII w (.slice none 0 0) [] := ⟨none, 0, rfl, Nat.le_refl _, by omega, fun h => by simp at h⟩
theorem rdI_len {w : World} {ad : Option Addr} {l c : Nat} {xs : List Int} (h : RdI w (.slice ad l c) xs) : xs.length = l := by
  obtain ⟨_, _, _, he, hl, _⟩ := rdS_open h
  simp only [Value.slice.injEq] at he
  omega
theorem fit_mons {f : FldZ} {n : Nat} (h : DerOk f n) : ∀ p ∈ f.parts, ∀ m ∈ p, Fit_Mon m := fun p hp m hm => by
  have h1 := (h.mons p hp m hm).2.1
  have h2 := h.six
  unfold Fit_Mon
  omega

set_option maxRecDepth 100000 in
set_option maxHeartbeats 25600000 in
theorem fnDerivatives_walk (v : Value) (bs : List Int) (w : World) (h : RdB w v bs) :
    Calls Try.prog 3 #[v] w fun e w' => e = .returned (.bool true) ∧ Below w.heap.size w w' := by
  obtain ⟨adc, lc, cc, rfl, _, _, _, h'⟩ := rdS_open h
  clear h
  have HBIG := Lib.hid (big_any adc lc cc w)
  by_cases hbig : (1048576 : Int) < lc
  case pos =>
    have hbt : decide ((1048576 : Int) < lc) = true := decide_eq_true hbig
    go_enter Try.func3, Try.ntmps3
    go_wp2_with fail
    refine HBIG.out.mono ?_
    rw [hbt]
    rintro e w1 ⟨rfl, rfl⟩
    go_wp2
    go_ret
    exact ⟨rfl, Below.refl _ _⟩
  have hbt : decide ((1048576 : Int) < lc) = false := decide_eq_false hbig
  have HMO := Lib.hid (motion_any _ bs w h')
  clear h'
  go_enter Try.func3, Try.ntmps3
  go_wp2_with fail
  refine HBIG.out.mono ?_
  rw [hbt]
  rintro e w1 ⟨rfl, rfl⟩
  go_wp2_with fail
  refine HMO.out.mono ?_
  rintro e w1 ⟨st, adA, lA, cA, adB, lB, cB, vF, vP, f, xs, n, m, rfl, hf, hfo, hfd, hn1, hn2, hP, hpr, hm1, hm6, hb1⟩
  obtain ⟨vM, rfl, hfI, hM⟩ := hf
  obtain ⟨adF, lF, cF, rfl⟩ : ∃ ad l c, vM = .slice ad l c := by
    obtain ⟨ad, l, c, rfl, _⟩ := rdS_open hM
    exact ⟨_, _, _, rfl⟩
  have hf : RdFld w1 (.agg #[.int .i64 f.dim, .slice adF lF cF]) f := ⟨_, rfl, hfI, hM⟩
  obtain ⟨n', hD'⟩ := derOk_of hfo
  obtain rfl : n' = n := by have := hD'.dim; omega
  obtain ⟨adP, lP, cP, rfl, hlP, _, _, hP'⟩ := rdS_open hP
  have hlm : lP = m := by have := hpr.1; omega
  subst hlm
  obtain ⟨W2, hW2⟩ : ∃ W, W = (w1.alloc (.cells #[.int .i64 st, .slice adA lA cA, .slice adB lB cB] 26)).alloc (.cells #[.int .i64 f.dim, .slice adF lF cF] 29) := ⟨_, rfl⟩
  have hb2 : Below w1.heap.size w1 W2 := hW2 ▸ ((Below.refl _ _).alloc (Nat.le_refl _) _).alloc (by simp) _
  have hK : W2.cell? ⟨w1.heap.size + 1, 0, none⟩ = some (.int .i64 f.dim) ∧ W2.cell? ⟨w1.heap.size + 1, 1, none⟩ = some (.slice adF lF cF) := by
    rw [hW2]
    constructor
    · have : (w1.alloc (.cells #[.int .i64 st, .slice adA lA cA, .slice adB lB cB] 26)).heap.size = w1.heap.size + 1 := by simp
      rw [← this]; simp
    · have : (w1.alloc (.cells #[.int .i64 st, .slice adA lA cA, .slice adB lB cB] 26)).heap.size = w1.heap.size + 1 := by simp
      rw [← this]; simp
  obtain ⟨Bf, hBf⟩ : ∃ B, B = w1.heap.size + 1 := ⟨_, rfl⟩
  rw [← hBf] at hK
  have HK := Lib.hid (fun (W : World) (hW : Below W2.heap.size W2 W) => And.intro (cell_below hW hK.1) (cell_below hW hK.2))
  have HF := Lib.hid (fun (W : World) (hW : Below W2.heap.size W2 W) => rdFld_mono (hb2.trans (hW.mono hb2.size)) hf)
  have HFIT := Lib.hid (fit_mons hD')
  have HBW := Lib.hid (hb1.trans (hb2.mono hb1.size))
  obtain ⟨bp, op, adY, lY, cY, y, hbp, hy, hcy, hly, _, _, hry, _⟩ := rdII_get hP' (k := 0) (by omega)
  subst hbp
  obtain ⟨bp', op', adU, lU, cU, u, hbp', hu, hcu, hlu, _, _, hru, _⟩ := rdII_get hP' (k := lP - 1) (by omega)
  simp only [Option.some.injEq, Addr.mk.injEq, and_true] at hbp'
  obtain ⟨rfl, rfl⟩ := hbp'
  have hyV : VecOk n' y := hpr.2 y (List.mem_of_getElem? hy)
  have huV : VecOk n' u := hpr.2 u (List.mem_of_getElem? hu)
  have hcy2 : W2.cell? ⟨bp, op, none⟩ = some (.slice adY lY cY) := cell_below hb2 (by simpa using hcy)
  have hcu2 : W2.cell? ⟨bp, op + (lP - 1), none⟩ = some (.slice adU lU cU) := cell_below hb2 hcu
  have hpI : ((lP : Int) - 1).toNat = lP - 1 := by omega
  have hpw : IntKind.i64.wrap ((lP : Int) - 1) = (lP : Int) - 1 := IntWalk.i64_in _ (by omega)
  have HEW2 := Lib.hid (show Env W2 [(.slice adY lY cY, y), (.slice adU lU cU, u)] from (Env.cons (Env.cons (fun p hp => by cases hp) (rdI_mono hb2 hru)) (rdI_mono hb2 hry)))
  have HBW2 := Lib.hid (Below.refl W2.heap.size W2)
  have HVY := Lib.hid hyV
  have HVU := Lib.hid huV
  have HDO := Lib.hid hD'
  have HDIM := Lib.hid (show f.dim = (n' : Int) from hD'.dim)
  have HW2 := Lib.hid hW2
  have HBF := Lib.hid hBf
  have HCD := Lib.hid (dAt_any _ _ _ f y [] W2 (HF.out W2 (Below.refl _ _)) (HEW2.out.at (v := .slice adY lY cY) (by simp)) (rdII_nil W2) HFIT.out)
  have hlPI : (0 : Int) < lP := by omega
  have hlPI2 : (lP : Int) - 1 < lP := by omega
  have hlPI3 : 0 ≤ (lP : Int) - 1 := by omega
  clear hb1 hf hM hfI hfo hfd hP hP' hpr hlP hb2 hcy hcu hry hru hy hu hly hlu hyV huV hD' hW2 hBf HMO HBIG hK
  go_upto_region 4 with fail
  rw [← HW2.out, ← HBF.out]
  obtain ⟨e0, e1⟩ := HK.out W2 HBW2.out
  go_wp2_with fail
  refine HCD.out.mono ?_
  rintro e w3 ⟨vd0, fd, rfl, hod, _, hbd⟩
  have hdl := (derAt_len HDO.out HVY.out (vs := []) (by simp) (by simp))
  obtain ⟨ad3, l3, c3, rfl, hl3, _, _, _, _, _⟩ := ownI_open hod
  have hl3n : l3 = n' := by rw [← hl3]; exact hdl.1
  subst hl3n
  obtain ⟨V, hV⟩ : ∃ V, V = derAtL f y [] := ⟨_, rfl⟩
  rw [← hV] at hod hdl
  have HVV := Lib.hid hdl
  have HVE := Lib.hid hV
  have HBw3 := Lib.hid hbd
  have HEw3 := Lib.hid ((HEW2.out.mono hbd).cons (x := V) (ownI_rd hod))
  have hlq : ((l3 : Int) != f.dim) = false := by rw [HDIM.out]; simp
  obtain ⟨e0', e1'⟩ := HK.out w3 HBw3.out
  clear hod hbd e0 e1 hdl hl3 hV HCD hcy2 hcu2
  have hmk := mk_dim HDIM.out hn1 (by omega)
  go_wp2
  obtain ⟨w4, hw4⟩ : ∃ W, W = w3.alloc (.cells (Array.replicate l3 (.int .i64 0)) 3) := ⟨_, rfl⟩
  have hb34 : Below w3.heap.size w3 w4 := hw4 ▸ (Below.refl _ _).alloc (Nat.le_refl _) _
  have HR4 := Lib.hid (show w4.ownsRow w3.heap.size 3 1 (.slice (some ⟨w3.heap.size, 0, none⟩) l3 l3) l3 (((sumV l3 u V).take 0).map (Value.int .i64) ++ List.replicate (l3 - 0) (.int .i64 0)) from hw4 ▸ zR_base w3 (by omega))
  have HB34 := Lib.hid hb34
  rw [← hw4]
  clear hw4 hb34 hlq hmk e0' e1'
  have hlU : lU = l3 := by
    obtain ⟨_, _, he, hl, _⟩ := HEw3.out.at (v := .slice adU lU cU) (x := u) (by simp)
    simp only [Value.slice.injEq] at he
    have := HVU.out.1
    omega
  subst hlU
  go_loopw [10] (fun si wq => ∃ i : Nat, i ≤ lU ∧ si = .int .i64 i ∧ wq.ownsRow w3.heap.size 3 1 (.slice (some ⟨w3.heap.size, 0, none⟩) lU lU) lU (((sumV lU u V).take i).map (Value.int .i64) ++ List.replicate (lU - i) (.int .i64 0)) ∧ Below w3.heap.size w3 wq) (fun si _ => lU - (intOf si).toNat)
  case atStart => exact ⟨0, Nat.zero_le _, rfl, HR4.out, HB34.out⟩
  case round =>
    obtain ⟨wk, rfl⟩ : ∃ W, W = wr := ⟨_, rfl⟩
    obtain ⟨i, hi, rfl, hrow, hb⟩ := hrel
    clear HR4 HB34
    have hbk := HBw3.out.trans (hb.mono HBw3.out.size)
    obtain ⟨e0, e1⟩ := HK.out wk hbk
    have HEk := HEw3.out.mono hb
    by_cases hil : i < lU
    case pos =>
      have hiI : (i : Int) < f.dim := by rw [HDIM.out]; omega
      obtain ⟨b5, o5, x, rfl, hx, hcx, hIx, _⟩ := rdI_get (HEk.at (v := .slice adU lU cU) (x := u) (by simp)) hil
      obtain ⟨b6, o6, z, rfl, hz, hcz, hIz, _⟩ := rdI_get (HEk.at (v := .slice ad3 lU c3) (x := V) (by simp)) hil
      have hsg := sumV_get u V hil
      rw [at_get hx, at_get hz] at hsg
      have hdr : Below wk.heap.size wk wk.drew := (Below.refl _ _).drew
      obtain ⟨⟨q, hq1⟩, hq2, hq3, hq4⟩ := own_fill (f := Value.int .i64) (ownsRow_only hrow (Only.of_below (fp := []) hdr) (by simp)) (hb.trans (hdr.mono hb.size)) hsg (sumV_ok u V).1 (Nat.le_refl _)
      have hq1' : wk.cell? ⟨w3.heap.size, i, none⟩ = some q := hq1
      have hq2' : wk.frozen? ⟨w3.heap.size, i, none⟩ = false := hq2
      have HQ3 := Lib.hid hq3
      have HQ4 := Lib.hid hq4
      clear hrow hb hbk HEk hx hz hsg hdr hq1 hq2 hq3 hq4
      go_wp2
      (refine wp_region_still_tail 12 (by kernel_rfl) (by kernel_rfl) ?_; simp only [List.take_succ_cons, List.take_zero, List.drop_succ_cons, List.drop_zero]; (repeat (first | still_step | still_call (still_of (sPlus_any _ _ _)))); refine wpStill_nil ?_; change wpList _ _ _ _ _ (World.drew _))
      go_wp2
      go_roundw
      case rel => exact ⟨i + 1, by omega, by go_num, HQ3.out, HQ4.out⟩
      case measure => simp [intOf]; omega
    obtain rfl : lU = i := by omega
    have hiI : ¬ ((lU : Int) < f.dim) := by rw [HDIM.out]; omega
    have hoW := own_i64 hrow (sumV_ok u V).1 (Nat.le_refl _) (fun x hx => by have := (sumV_ok u V).2 x hx; exact ⟨by omega, by omega⟩)
    have HBwk := Lib.hid hbk
    have HEwk := Lib.hid (HEk.cons (ownI_rd hoW))
    clear hrow hb hbk HEk hoW
    obtain ⟨Luv, hLuv⟩ : ∃ W, W = wk.alloc (.cells #[.slice adU lU cU, .slice ad3 lU c3] 24) := ⟨_, rfl⟩
    have hbLuv : Below wk.heap.size wk Luv := hLuv ▸ (Below.refl _ _).alloc (Nat.le_refl _) _
    have hlituv : RdII Luv (.slice (some ⟨wk.heap.size, 0, none⟩) 2 2) [u, V] := hLuv ▸ lit_II wk _ _ _ rfl rfl (by omega) (fun i x hx => by
      match i, hx with
      | 0, hx =>
        simp only [List.getElem?_cons_zero, List.getElem?_cons_succ, Option.some.injEq] at hx
        subst hx
        exact ⟨_, rfl, HEwk.out.at (by simp)⟩
      | 1, hx =>
        simp only [List.getElem?_cons_zero, List.getElem?_cons_succ, Option.some.injEq] at hx
        subst hx
        exact ⟨_, rfl, HEwk.out.at (by simp)⟩)
    have hb2Luv := HBwk.out.trans (hbLuv.mono HBwk.out.size)
    obtain ⟨e0, e1⟩ := HK.out wk HBwk.out
    have HCuv := Lib.hid (dAt_any _ _ _ f y [u, V] Luv (HF.out Luv hb2Luv) ((HEwk.out.mono hbLuv).at (v := .slice adY lY cY) (by simp)) hlituv HFIT.out)
    have HBLuv := Lib.hid hb2Luv
    have HELuv := Lib.hid (HEwk.out.mono hbLuv)
    have HLuv := Lib.hid hLuv
    clear hLuv hbLuv hlituv hb2Luv
    go_wp2_with fail
    rw [← HLuv.out]
    refine HCuv.out.mono ?_
    rintro e w5 ⟨vuv, fuv, rfl, houv, _, hbuv⟩
    obtain ⟨aduv, luv, cuv, rfl, _⟩ := ownI_open houv
    have HBw5 := Lib.hid (HBLuv.out.trans (hbuv.mono HBLuv.out.size))
    have HEw5 := Lib.hid ((HELuv.out.mono hbuv).cons (ownI_rd houv))
    clear houv hbuv e0 e1 HCuv
    obtain ⟨Lvu, hLvu⟩ : ∃ W, W = w5.alloc (.cells #[.slice ad3 lU c3, .slice adU lU cU] 24) := ⟨_, rfl⟩
    have hbLvu : Below w5.heap.size w5 Lvu := hLvu ▸ (Below.refl _ _).alloc (Nat.le_refl _) _
    have hlitvu : RdII Lvu (.slice (some ⟨w5.heap.size, 0, none⟩) 2 2) [V, u] := hLvu ▸ lit_II w5 _ _ _ rfl rfl (by omega) (fun i x hx => by
      match i, hx with
      | 0, hx =>
        simp only [List.getElem?_cons_zero, List.getElem?_cons_succ, Option.some.injEq] at hx
        subst hx
        exact ⟨_, rfl, HEw5.out.at (by simp)⟩
      | 1, hx =>
        simp only [List.getElem?_cons_zero, List.getElem?_cons_succ, Option.some.injEq] at hx
        subst hx
        exact ⟨_, rfl, HEw5.out.at (by simp)⟩)
    have hb2Lvu := HBw5.out.trans (hbLvu.mono HBw5.out.size)
    obtain ⟨e0, e1⟩ := HK.out w5 HBw5.out
    have HCvu := Lib.hid (dAt_any _ _ _ f y [V, u] Lvu (HF.out Lvu hb2Lvu) ((HEw5.out.mono hbLvu).at (v := .slice adY lY cY) (by simp)) hlitvu HFIT.out)
    have HBLvu := Lib.hid hb2Lvu
    have HELvu := Lib.hid (HEw5.out.mono hbLvu)
    have HLvu := Lib.hid hLvu
    clear hLvu hbLvu hlitvu hb2Lvu
    go_wp2_with fail
    rw [← HLvu.out]
    refine HCvu.out.mono ?_
    rintro e w6 ⟨vvu, fvu, rfl, hovu, _, hbvu⟩
    obtain ⟨advu, lvu, cvu, rfl, _⟩ := ownI_open hovu
    have HBw6 := Lib.hid (HBLvu.out.trans (hbvu.mono HBLvu.out.size))
    have HEw6 := Lib.hid ((HELvu.out.mono hbvu).cons (ownI_rd hovu))
    clear hovu hbvu e0 e1 HCvu
    obtain ⟨Luu, hLuu⟩ : ∃ W, W = w6.alloc (.cells #[.slice adU lU cU, .slice adU lU cU] 24) := ⟨_, rfl⟩
    have hbLuu : Below w6.heap.size w6 Luu := hLuu ▸ (Below.refl _ _).alloc (Nat.le_refl _) _
    have hlituu : RdII Luu (.slice (some ⟨w6.heap.size, 0, none⟩) 2 2) [u, u] := hLuu ▸ lit_II w6 _ _ _ rfl rfl (by omega) (fun i x hx => by
      match i, hx with
      | 0, hx =>
        simp only [List.getElem?_cons_zero, List.getElem?_cons_succ, Option.some.injEq] at hx
        subst hx
        exact ⟨_, rfl, HEw6.out.at (by simp)⟩
      | 1, hx =>
        simp only [List.getElem?_cons_zero, List.getElem?_cons_succ, Option.some.injEq] at hx
        subst hx
        exact ⟨_, rfl, HEw6.out.at (by simp)⟩)
    have hb2Luu := HBw6.out.trans (hbLuu.mono HBw6.out.size)
    obtain ⟨e0, e1⟩ := HK.out w6 HBw6.out
    have HCuu := Lib.hid (dAt_any _ _ _ f y [u, u] Luu (HF.out Luu hb2Luu) ((HEw6.out.mono hbLuu).at (v := .slice adY lY cY) (by simp)) hlituu HFIT.out)
    have HBLuu := Lib.hid hb2Luu
    have HELuu := Lib.hid (HEw6.out.mono hbLuu)
    have HLuu := Lib.hid hLuu
    clear hLuu hbLuu hlituu hb2Luu
    go_wp2_with fail
    rw [← HLuu.out]
    refine HCuu.out.mono ?_
    rintro e w7 ⟨vuu, fuu, rfl, houu, _, hbuu⟩
    obtain ⟨aduu, luu, cuu, rfl, _⟩ := ownI_open houu
    have HBw7 := Lib.hid (HBLuu.out.trans (hbuu.mono HBLuu.out.size))
    have HEw7 := Lib.hid ((HELuu.out.mono hbuu).cons (ownI_rd houu))
    clear houu hbuu e0 e1 HCuu
    obtain ⟨Lwu, hLwu⟩ : ∃ W, W = w7.alloc (.cells #[.slice (some ⟨w3.heap.size, 0, none⟩) lU lU, .slice adU lU cU] 24) := ⟨_, rfl⟩
    have hbLwu : Below w7.heap.size w7 Lwu := hLwu ▸ (Below.refl _ _).alloc (Nat.le_refl _) _
    have hlitwu : RdII Lwu (.slice (some ⟨w7.heap.size, 0, none⟩) 2 2) [sumV lU u V, u] := hLwu ▸ lit_II w7 _ _ _ rfl rfl (by omega) (fun i x hx => by
      match i, hx with
      | 0, hx =>
        simp only [List.getElem?_cons_zero, List.getElem?_cons_succ, Option.some.injEq] at hx
        subst hx
        exact ⟨_, rfl, HEw7.out.at (by simp)⟩
      | 1, hx =>
        simp only [List.getElem?_cons_zero, List.getElem?_cons_succ, Option.some.injEq] at hx
        subst hx
        exact ⟨_, rfl, HEw7.out.at (by simp)⟩)
    have hb2Lwu := HBw7.out.trans (hbLwu.mono HBw7.out.size)
    obtain ⟨e0, e1⟩ := HK.out w7 HBw7.out
    have HCwu := Lib.hid (dAt_any _ _ _ f y [sumV lU u V, u] Lwu (HF.out Lwu hb2Lwu) ((HEw7.out.mono hbLwu).at (v := .slice adY lY cY) (by simp)) hlitwu HFIT.out)
    have HBLwu := Lib.hid hb2Lwu
    have HELwu := Lib.hid (HEw7.out.mono hbLwu)
    have HLwu := Lib.hid hLwu
    clear hLwu hbLwu hlitwu hb2Lwu
    go_wp2_with fail
    rw [← HLwu.out]
    refine HCwu.out.mono ?_
    rintro e w8 ⟨vwu, fwu, rfl, howu, _, hbwu⟩
    obtain ⟨adwu, lwu, cwu, rfl, _⟩ := ownI_open howu
    have HBw8 := Lib.hid (HBLwu.out.trans (hbwu.mono HBLwu.out.size))
    have HEw8 := Lib.hid ((HELwu.out.mono hbwu).cons (ownI_rd howu))
    clear howu hbwu e0 e1 HCwu
    obtain ⟨Lone, hLone⟩ : ∃ W, W = w8.alloc (.cells #[.slice adU lU cU] 24) := ⟨_, rfl⟩
    have hbLone : Below w8.heap.size w8 Lone := hLone ▸ (Below.refl _ _).alloc (Nat.le_refl _) _
    have hlitone : RdII Lone (.slice (some ⟨w8.heap.size, 0, none⟩) 1 1) [u] := hLone ▸ lit_II w8 _ _ _ rfl rfl (by omega) (fun i x hx => by
      match i, hx with
      | 0, hx =>
        simp only [List.getElem?_cons_zero, List.getElem?_cons_succ, Option.some.injEq] at hx
        subst hx
        exact ⟨_, rfl, HEw8.out.at (by simp)⟩)
    have hb2Lone := HBw8.out.trans (hbLone.mono HBw8.out.size)
    obtain ⟨e0, e1⟩ := HK.out w8 HBw8.out
    have HCone := Lib.hid (dAt_any _ _ _ f y [u] Lone (HF.out Lone hb2Lone) ((HEw8.out.mono hbLone).at (v := .slice adY lY cY) (by simp)) hlitone HFIT.out)
    have HBLone := Lib.hid hb2Lone
    have HELone := Lib.hid (HEw8.out.mono hbLone)
    have HLone := Lib.hid hLone
    clear hLone hbLone hlitone hb2Lone
    go_wp2_with fail
    rw [← HLone.out]
    refine HCone.out.mono ?_
    rintro e w9 ⟨vone, fone, rfl, hoone, _, hbone⟩
    obtain ⟨adone, lone, cone, rfl, _⟩ := ownI_open hoone
    have HBw9 := Lib.hid (HBLone.out.trans (hbone.mono HBLone.out.size))
    have HEw9 := Lib.hid ((HELone.out.mono hbone).cons (ownI_rd hoone))
    clear hoone hbone e0 e1 HCone
    obtain ⟨e0, e1⟩ := HK.out w9 HBw9.out
    have hmk := mk_dim HDIM.out hn1 (by omega)
    obtain ⟨w10, hw10⟩ : ∃ W, W = w9.alloc (.cells (Array.replicate lU (.int .i64 0)) 3) := ⟨_, rfl⟩
    have hb10 : Below w9.heap.size w9 w10 := hw10 ▸ (Below.refl _ _).alloc (Nat.le_refl _) _
    have HBw10 := Lib.hid (HBw9.out.trans (hb10.mono HBw9.out.size))
    have HEw10 := Lib.hid ((HEw9.out.mono hb10).cons (v := .slice (some ⟨w9.heap.size, 0, none⟩) lU lU) (x := zR lU) (hw10 ▸ ownI_rd (zR_row w9 (by omega))))
    have HW10 := Lib.hid hw10
    clear hw10 hb10
    go_upto_region 20 with fail
    rw [← HW10.out]
    clear hmk e0 e1
    obtain ⟨L11, hL11⟩ : ∃ W, W = w10.alloc (.cells #[.slice adY lY cY, .slice adU lU cU, .slice (some ⟨w9.heap.size, 0, none⟩) lU lU] 24) := ⟨_, rfl⟩
    have hbL11 : Below w10.heap.size w10 L11 := hL11 ▸ (Below.refl _ _).alloc (Nat.le_refl _) _
    have hlit11 : RdII L11 (.slice (some ⟨w10.heap.size, 0, none⟩) 3 3) [y, u, zR lU] := hL11 ▸ lit_II w10 _ _ _ rfl rfl (by omega) (fun i x hx => by
      match i, hx with
      | 0, hx =>
        simp only [List.getElem?_cons_zero, Option.some.injEq] at hx
        subst hx
        exact ⟨_, rfl, HEw10.out.at (by simp)⟩
      | 1, hx =>
        simp only [List.getElem?_cons_zero, List.getElem?_cons_succ, Option.some.injEq] at hx
        subst hx
        exact ⟨_, rfl, HEw10.out.at (by simp)⟩
      | 2, hx =>
        simp only [List.getElem?_cons_zero, List.getElem?_cons_succ, Option.some.injEq] at hx
        subst hx
        exact ⟨_, rfl, HEw10.out.at (by simp)⟩)
    have hb2L11 := HBw10.out.trans (hbL11.mono HBw10.out.size)
    obtain ⟨e0, e1⟩ := HK.out w10 HBw10.out
    have HC11 := Lib.hid (vAlong_any _ _ f [y, u, zR lU] L11 (HF.out L11 hb2L11) hlit11 HFIT.out)
    have HBL11 := Lib.hid hb2L11
    have HEL11 := Lib.hid (HEw10.out.mono hbL11)
    have HL11 := Lib.hid hL11
    clear hL11 hbL11 hlit11 hb2L11
    go_wp2_with fail
    rw [← HL11.out]
    refine HC11.out.mono ?_
    rintro e w11 ⟨vx, fx, rfl, hox, _, hbx⟩
    obtain ⟨C, hC1, hC2, hC3⟩ := value_three HDO.out HVY.out HVU.out (z := zR lU) rfl
    rw [hC1] at hox
    have hrx := ownII_rd hox
    obtain ⟨adX, lX, cX, rfl, hlX, _, _, hrx'⟩ := rdS_open hrx
    obtain rfl : lX = 3 := by simpa using hlX.symm
    obtain ⟨bx, ox, ad0, l0, c0, x0, hbx0, hx0, hcx0, _, _, _, hr0, _⟩ := rdII_get hrx' (k := 0) (by omega)
    subst hbx0
    obtain ⟨bx1, ox1, ad1, l1, c1, x1, hbx1, hx1, hcx1, _, _, _, hr1, _⟩ := rdII_get hrx' (k := 1) (by omega)
    obtain ⟨bx2, ox2, ad2, l2, c2, x2, hbx2, hx2, hcx2, hlx2, _, _, hr2, _⟩ := rdII_get hrx' (k := 2) (by omega)
    simp only [Option.some.injEq, Addr.mk.injEq, and_true] at hbx1 hbx2
    obtain ⟨rfl, rfl⟩ := hbx1
    obtain ⟨rfl, rfl⟩ := hbx2
    simp only [List.getElem?_cons_zero, List.getElem?_cons_succ, Option.some.injEq] at hx0 hx1 hx2
    subst hx0 hx1 hx2
    simp only [Nat.add_zero] at hcx0
    have HBw11 := Lib.hid (HBL11.out.trans (hbx.mono HBL11.out.size))
    have HEw11 := Lib.hid ((((HEL11.out.mono hbx).cons (v := .slice ad0 l0 c0) hr0).cons (v := .slice ad1 l1 c1) hr1).cons (v := .slice ad2 l2 c2) hr2)
    have hlen2 : ∀ a b : List Int, VecOk lU a → VecOk lU b → (derAtL f y [a, b]).length = lU := fun a b ha hb => (derAt_len HDO.out HVY.out (vs := [a, b]) (by intro x hx; simp at hx; rcases hx with rfl | rfl <;> assumption) (by simp)).1
    have hlen1 : (derAtL f y [u]).length = lU := (derAt_len HDO.out HVY.out (vs := [u]) (by intro x hx; simp at hx; rw [hx]; exact HVU.out) (by simp)).1
    have hlen0 : (derAtL f y []).length = lU := (derAt_len HDO.out HVY.out (vs := []) (by simp) (by simp)).1
    have HSH := Lib.hid (shaped_any _ _ lU 3 f.dim 3 w11 hrx' HDIM.out rfl rfl (by
      intro x hx
      simp only [List.mem_cons, List.not_mem_nil, or_false] at hx
      rcases hx with rfl | rfl | rfl
      · exact hlen0
      · exact hlen1
      · exact hC2.1))
    obtain ⟨L12, hL12⟩ : ∃ W, W = w11.alloc (.cells #[.slice aduv luv cuv, .slice advu lvu cvu, .slice aduu luu cuu, .slice adwu lwu cwu, .slice adone lone cone] 24) := ⟨_, rfl⟩
    have hbL12 : Below w11.heap.size w11 L12 := hL12 ▸ (Below.refl _ _).alloc (Nat.le_refl _) _
    have hlit12 : RdII L12 (.slice (some ⟨w11.heap.size, 0, none⟩) 5 5) [derAtL f y [u, V], derAtL f y [V, u], derAtL f y [u, u], derAtL f y [sumV lU u V, u], derAtL f y [u]] := hL12 ▸ lit_II w11 _ _ _ rfl rfl (by omega) (fun i x hx => by
      match i, hx with
      | 0, hx => (simp only [List.getElem?_cons_zero, Option.some.injEq] at hx; subst hx; exact ⟨_, rfl, HEw11.out.at (by simp)⟩)
      | 1, hx => (simp only [List.getElem?_cons_zero, List.getElem?_cons_succ, Option.some.injEq] at hx; subst hx; exact ⟨_, rfl, HEw11.out.at (by simp)⟩)
      | 2, hx => (simp only [List.getElem?_cons_zero, List.getElem?_cons_succ, Option.some.injEq] at hx; subst hx; exact ⟨_, rfl, HEw11.out.at (by simp)⟩)
      | 3, hx => (simp only [List.getElem?_cons_zero, List.getElem?_cons_succ, Option.some.injEq] at hx; subst hx; exact ⟨_, rfl, HEw11.out.at (by simp)⟩)
      | 4, hx => (simp only [List.getElem?_cons_zero, List.getElem?_cons_succ, Option.some.injEq] at hx; subst hx; exact ⟨_, rfl, HEw11.out.at (by simp)⟩))
    have HSH2 := Lib.hid (shaped_any _ _ lU 5 f.dim 5 L12 hlit12 HDIM.out rfl rfl (by
      intro x hx
      simp only [List.mem_cons, List.not_mem_nil, or_false] at hx
      rcases hx with rfl | rfl | rfl | rfl | rfl
      · exact hlen2 _ _ HVU.out HVV.out
      · exact hlen2 _ _ HVV.out HVU.out
      · exact hlen2 _ _ HVU.out HVU.out
      · exact hlen2 _ _ (sumV_ok _ _) HVU.out
      · exact hlen1))
    have HB12 := Lib.hid (HBw11.out.trans (hbL12.mono HBw11.out.size))
    have HE12 := Lib.hid (HEw11.out.mono hbL12)
    have HL12 := Lib.hid hL12
    obtain ⟨k0, k1⟩ := HK.out w11 HBw11.out
    obtain ⟨k0', k1'⟩ := HK.out L12 HB12.out
    rw [HL12.out] at k0' k1'
    have hd0 := cell_below hbL12 hcx0
    have hd1 := cell_below hbL12 hcx1
    have hd2 := cell_below hbL12 hcx2
    have HLX := Lib.hid (show l2 = lU from by rw [← hlx2]; exact hC2.1)
    have HC3 := Lib.hid hC3
    have HSW := Lib.hid (derAt_swap HDO.out HVY.out HVU.out HVV.out)
    clear hL12 hbL12 hlit12 hox hbx hrx hlX hrx' hr0 hr1 hr2 hC1 hC2 hC3 hlen2 hlen1 hlen0 hlx2 e0 e1
    go_wp2_with fail
    refine HSH.out.mono ?_
    rintro e w' ⟨rfl, rfl⟩
    go_wp2_with fail
    rw [← HL12.out]
    refine HSH2.out.mono ?_
    rintro e w' ⟨rfl, rfl⟩
    have HI1 := Lib.hid (ints_same _ _ _ L12 (HE12.out.at (v := .slice aduv luv cuv) (x := derAtL f y [u, V]) (by simp)) (HSW.out ▸ HE12.out.at (v := .slice advu lvu cvu) (x := derAtL f y [V, u]) (by simp)))
    go_wp2_with fail
    refine HI1.out.mono ?_
    rintro e w13 ⟨rfl, m13, hw13⟩
    have hb13 : Below L12.heap.size L12 w13 := hw13 ▸ blw_drewN (Below.refl _ _) _
    have hd0 := cell_below hb13 hd0
    have hd1 := cell_below hb13 hd1
    have hd2 := cell_below hb13 hd2
    have HB13 := Lib.hid (HB12.out.trans (hb13.mono HB12.out.size))
    have HE13 := Lib.hid (HE12.out.mono hb13)
    have HI2 := Lib.hid (ints_same _ _ _ w13 (HE13.out.at (v := .slice ad0 l0 c0) (x := derAtL f y []) (by simp)) (HVE.out ▸ HE13.out.at (v := .slice ad3 lU c3) (x := V) (by simp)))
    clear hw13 hb13
    go_wp2_with fail
    refine HI2.out.mono ?_
    rintro e w14 ⟨rfl, m14, hw14⟩
    have hb14 : Below w13.heap.size w13 w14 := hw14 ▸ blw_drewN (Below.refl _ _) _
    have hd0 := cell_below hb14 hd0
    have hd1 := cell_below hb14 hd1
    have hd2 := cell_below hb14 hd2
    have HB14 := Lib.hid (HB13.out.trans (hb14.mono HB13.out.size))
    have HE14 := Lib.hid (HE13.out.mono hb14)
    have HI3 := Lib.hid (ints_same _ _ _ w14 (HE14.out.at (v := .slice ad1 l1 c1) (x := derAtL f y [u]) (by simp)) (HE14.out.at (v := .slice adone lone cone) (x := derAtL f y [u]) (by simp)))
    clear hw14 hb14
    go_wp2_with fail
    refine HI3.out.mono ?_
    rintro e w15 ⟨rfl, m15, hw15⟩
    have hb15 : Below w14.heap.size w14 w15 := hw15 ▸ blw_drewN (Below.refl _ _) _
    have hd2 := cell_below hb15 hd2
    have HB15 := Lib.hid (HB14.out.trans (hb15.mono HB14.out.size))
    have HE15 := Lib.hid (HE14.out.mono hb15)
    have HD2 := Lib.hid hd2
    clear hw15 hb15 hd0 hd1 hd2
    have HSUM := Lib.hid (fun (i : Nat) (hi : i < lU) => derAt_sum HDO.out HVY.out HVU.out HVV.out HVU.out hi)
    go_wp2
    go_loopw [18] (fun si wq => ∃ i : Nat, i ≤ lU ∧ si = .int .i64 i ∧ ∃ m, wq = w15.drewN m) (fun si _ => lU - (intOf si).toNat)
    case atStart => exact ⟨0, Nat.zero_le _, rfl, 0, rfl⟩
    case round =>
      obtain ⟨wz, rfl⟩ : ∃ W, W = wr := ⟨_, rfl⟩
      obtain ⟨i, hi, rfl, mz, hwz⟩ := hrel
      have hbz : Below w15.heap.size w15 wz := hwz ▸ blw_drewN (Below.refl _ _) mz
      have HEz := HE15.out.mono hbz
      have hbz2 := HB15.out.trans (hbz.mono HB15.out.size)
      obtain ⟨e0, e1⟩ := HK.out wz hbz2
      have HWZ := Lib.hid hwz
      by_cases hil : i < lU
      case neg =>
        obtain rfl : lU = i := by omega
        have hiI : ¬ ((lU : Int) < f.dim) := by rw [HDIM.out]; omega
        have HFIN := Lib.hid (HBW.out.trans (hbz2.mono HBW.out.size))
        clear hbz hbz2 HEz hwz
        go_wp2
        go_ret
        exact ⟨rfl, HFIN.out⟩
      have hiI : (i : Int) < f.dim := by rw [HDIM.out]; omega
      have hrwu := HEz.at (v := .slice adwu lwu cwu) (x := derAtL f y [sumV lU u V, u]) (by simp)
      have hruu := HEz.at (v := .slice aduu luu cuu) (x := derAtL f y [u, u]) (by simp)
      have hrvu := HEz.at (v := .slice advu lvu cvu) (x := derAtL f y [V, u]) (by simp)
      have hrx2 := HEz.at (v := .slice ad2 l2 c2) (x := C) (by simp)
      have hlwu : lwu = lU := by rw [← rdI_len hrwu]; exact (derAt_len HDO.out HVY.out (vs := [sumV lU u V, u]) (by intro x hx; simp at hx; rcases hx with rfl | rfl; exact sumV_ok _ _; exact HVU.out) (by simp)).1
      have hluu : luu = lU := by rw [← rdI_len hruu]; exact (derAt_len HDO.out HVY.out (vs := [u, u]) (by intro x hx; simp at hx; rw [hx]; exact HVU.out) (by simp)).1
      have hlvu : lvu = lU := by rw [← rdI_len hrvu]; exact (derAt_len HDO.out HVY.out (vs := [V, u]) (by intro x hx; simp at hx; rcases hx with rfl | rfl; exact HVV.out; exact HVU.out) (by simp)).1
      have hl2U := HLX.out
      obtain ⟨ba, oa, a, rfl, ha, hca, hIa, _⟩ := rdI_get hrwu (k := i) (by omega)
      obtain ⟨bb, ob, b, rfl, hb', hcb, hIb, _⟩ := rdI_get hruu (k := i) (by omega)
      obtain ⟨bc, oc, c, rfl, hc', hcc, hIc, _⟩ := rdI_get hrvu (k := i) (by omega)
      obtain ⟨bd, od, d, rfl, hd', hcd, hId, _⟩ := rdI_get hrx2 (k := i) (by omega)
      have hs := HSUM.out i hil
      have ht := HC3.out i hil
      rw [at_get ha, at_get hb', at_get hc'] at hs
      rw [at_get hd', at_get hb'] at ht
      have HS1 := Lib.hid hs.symm
      have HT1 := Lib.hid ht
      have hx2 := cell_below hbz HD2.out
      have ila : (i : Int) < lwu := by omega
      have ilb : (i : Int) < luu := by omega
      have ilc : (i : Int) < lvu := by omega
      have ild : (i : Int) < l2 := by omega
      clear hbz hbz2 HEz hwz hrwu hruu hrvu hrx2 ha hb' hc' hd' hs ht hlwu hluu hlvu hl2U
      go_wp2
      go_quiet ((first | (go_at_call 7; exact quiet_same (sPlus_eq HS1.out _)) | (go_at_call 11; exact quiet_same (sTimes_eq HT1.out _))))
      go_wp2
      go_roundw
      case rel => exact ⟨i + 1, by omega, by go_num, _, by rw [HWZ.out, World.drewN_drewN]⟩
      case measure => simp [intOf]; omega

set_option maxRecDepth 100000 in
theorem fnDerivatives_lifted (os : Os) (started : os.Started) (H : Type) (enc : TypeId × Value → H) :
    ReturnsInHanded {} Try.checked os 3 .any (Rows.fnDerivativesSpec.pre6 enc Try.prog Try.f3 Rows.fnDerivativesRow.domain false) (Rows.fnDerivativesSpec.post enc Try.prog Try.f3 false true false false) := by
  refine returnsInHanded_of_change (C := Try.checked) Try.own started (by kernel_rfl) Try.func3
    (ChangeSpec.witness6 (enc := enc) (C := Try.checked) false ⟨#[], #[.slice none 0 0], []⟩ 8 (by kernel_rfl) (by kernel_rfl) (by kernel_rfl) (by kernel_rfl)) ?_
  intro W base args ds gs before hval0 hW hcnd _
  have hval : ∀ (j : Nat) t v, Try.f3.params[j]? = some t → args[j]? = some v → Value.okWide Try.prog W .any base t v := hval0
  have hW' := hW
  obtain ⟨p, q, hA0, hV, rfl, hfz, hnd⟩ := hW
  have hA : DataW.TrodAll enc Try.prog W 0 (fun _ => true) true Try.f3.params.toList args.toList ds p := hA0
  rw [Try.params3] at hA hval
  obtain ⟨v0, vs0, d0, ds0, p0, q0, hargs, rfl, rfl, h0, r0⟩ := trodAll_cons hA
  obtain ⟨rfl, rfl, rfl⟩ := trodAll_nil r0
  obtain rfl : args = #[v0] := by cases args; simp_all
  obtain ⟨rfl, rfl⟩ := trodVars_none hV
  have lt0 : ∀ x ∈ p0, x.block < W.heap.size := by obtain ⟨m, hm⟩ := h0; exact DataW.trod_lt m _ _ _ hm
  have k0 := h0
  obtain ⟨x0, w0⟩ := rdS_of_arg Try.underlying22 Try.cells_byte (by omega) (elB_of_trod Try.underlying5) (hval 0 22 v0 rfl rfl) h0
  clear hA0 hval0
  refine (fnDerivatives_walk v0 x0 W w0).mono fun e W' ⟨he, bel⟩ => ?_
  subst he
  exact ⟨_, rfl, _, _, _, [], _, [], hW', trodAll_mk1 (shut_bool Try.underlying4 _), (trodAll_cons_mk (Below.trod Try.laidOut (by kernel_rfl) (of_decide_eq_true (by kernel_rfl)) k0 bel lt0) trodAll_mk0), rfl, bel.frame _, fun h => by cases h⟩

theorem fnDerivatives_holds : Rows.FnDerivativesSaid :=
  OpenClaim.holds_of_wide 3 Try.f3 rfl rfl rfl rfl rfl rfl rfl ⟨rfl, rfl, rfl, rfl, rfl⟩ rfl rfl rfl rfl rfl (by kernel_rfl) Try.func3 (by kernel_rfl)
    (of_decide_eq_true (by kernel_rfl)) (by unfold Func.isWrapper; first | (rw [if_pos (by decide +kernel)]; kernel_rfl) | (rw [if_neg (by decide +kernel)]; exact ⟨rfl, rfl⟩))
    (fun os started H enc _ => fnDerivatives_lifted os started H enc)
end Go.Proofs.Ytbcjhpgkodeoeaa
