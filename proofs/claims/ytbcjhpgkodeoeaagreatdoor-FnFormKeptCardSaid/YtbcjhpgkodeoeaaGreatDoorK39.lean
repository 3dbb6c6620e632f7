/- The texts ColJ, GauT in one: each says at its head what it proves. Conditions: as said there. -/
import Derived.Test.YtbcjhpgkodeoeaaGreatDoorK38
import Derived.Test.YtbcjhpgkodeoeaaGreatDoorK18
import Derived.Test.YtbcjhpgkodeoeaaGreatDoorK31
set_option linter.unusedSimpArgs false
set_option linter.unusedVariables false
/- The program's CollocationTableau at Gauss's nodes: Gauss's tableaus. Conditions: one to three nodes. -/
namespace Go.Proofs.YtbcjhpgkodeoeaaGreatDoor
open Go.RowKit Go.Sort

/-- the first i rows are there -/
def midG (s i : Nat) : List Int := ((gauA s).take i).flatten ++ List.replicate (s * s - i * s) 0
theorem three_of {s : Nat} (h1 : 1 ≤ s) (h3 : s ≤ 3) : s = 1 ∨ s = 2 ∨ s = 3 := by omega
theorem midG_zero (s : Nat) : midG s 0 = List.replicate (s * s) 0 := by simp [midG]
theorem midG_done {s : Nat} (h1 : 1 ≤ s) (h3 : s ≤ 3) : midG s s = (gauA s).flatten := by
  rcases three_of h1 h3 with rfl | rfl | rfl <;> rfl
theorem midG_next {s i : Nat} (h1 : 1 ≤ s) (h3 : s ≤ 3) (hi : i < s) : (midG s i).take (i * s) ++ atL (gauA s) i ++ (midG s i).drop (i * s + s) = midG s (i + 1) := by
  rcases three_of h1 h3 with rfl | rfl | rfl
  · obtain rfl : i = 0 := by omega
    rfl
  · rcases (by omega : i = 0 ∨ i = 1) with rfl | rfl <;> rfl
  · rcases (by omega : i = 0 ∨ i = 1 ∨ i = 2) with rfl | rfl | rfl <;> rfl
theorem gau_rows {s i : Nat} (h1 : 1 ≤ s) (h3 : s ≤ 3) (hi : i < s) : (atL (gauA s) i).length = s ∧ (gauB s).length = s ∧ (midG s i).length = s * s := by
  rcases three_of h1 h3 with rfl | rfl | rfl
  · obtain rfl : i = 0 := by omega
    exact ⟨rfl, rfl, rfl⟩
  · rcases (by omega : i = 0 ∨ i = 1) with rfl | rfl <;> exact ⟨rfl, rfl, rfl⟩
  · rcases (by omega : i = 0 ∨ i = 1 ∨ i = 2) with rfl | rfl | rfl <;> exact ⟨rfl, rfl, rfl⟩
theorem midG_len {s i : Nat} (h1 : 1 ≤ s) (h3 : s ≤ 3) (hi : i ≤ s) : (midG s i).length = s * s := by
  rcases three_of h1 h3 with rfl | rfl | rfl
  · rcases (by omega : i = 0 ∨ i = 1) with rfl | rfl <;> rfl
  · rcases (by omega : i = 0 ∨ i = 1 ∨ i = 2) with rfl | rfl | rfl <;> rfl
  · rcases (by omega : i = 0 ∨ i = 1 ∨ i = 2 ∨ i = 3) with rfl | rfl | rfl | rfl <;> rfl
theorem solB_sysB {rows : List (List Int)} {right : List Int} (h : solB rows right = true) : sysB rows right = true := by
  cases hs : sysB rows right with
  | true => rfl
  | false => rw [(solB_sys hs).1] at h; cases h
theorem gau_sysA {s i : Nat} (h1 : 1 ≤ s) (h3 : s ≤ 3) (hi : i < s) : sysB (powRows (gauN s)) (rgtA (atZ (gauN s) i) s) = true := by
  have h := gau_chk
  simp only [List.all_eq_true, Bool.and_eq_true, decide_eq_true_eq] at h
  have h2 := (h s (by simpa using three_of h1 h3)).1 i (by simpa using hi)
  rw [powRows_B _ (by rw [gau_len h1 h3]; omega), rgtA_B _ _ (by omega)]
  exact solB_sysB (solX_B h2).1
theorem gau_sysB {s : Nat} (h1 : 1 ≤ s) (h3 : s ≤ 3) : sysB (powRows (gauN s)) (rgtB s) = true := by
  have h := gau_chk
  simp only [List.all_eq_true, Bool.and_eq_true, decide_eq_true_eq] at h
  have h2 := (h s (by simpa using three_of h1 h3)).2
  rw [powRows_B _ (by rw [gau_len h1 h3]; omega), rgtB_B]
  exact solB_sysB (solX_B h2).1
theorem gau_nums {s : Nat} (h1 : 1 ≤ s) (h3 : s ≤ 3) : (gauN s).all isNumB = true ∧ (gauN s).Nodup := by
  rcases three_of h1 h3 with rfl | rfl | rfl <;> exact ⟨by decide, by decide⟩
/-- Gauss's tableau -/
def gauT (s : Nat) : TabZ := ⟨(s : Int), (gauA s).flatten, gauB s⟩

set_option maxRecDepth 100000 in
set_option maxHeartbeats 3200000 in
theorem diffI_any (v : Value) (xs : List Int) (w : World) (h : RdI w v xs) (hnd : xs.Nodup) : Calls Tryz.prog 117 #[v] w fun e w' => e = .returned (.bool true) ∧ w = w' := by
  obtain ⟨ad, len, cap, rfl, hl, hlc, hcm, h'⟩ := rdS_open h
  have HL := Lib.hid hl
  have HND := Lib.hid hnd
  clear h hl hnd
  go_enter Tryz.func117, Tryz.ntmps117
  go_wp2
  go_loopw [9] (fun i wr => ∃ k : Nat, k ≤ len ∧ i = .int .i64 k ∧ wr = w) (fun i _ => len - (intOf i).toNat)
  case atStart => exact ⟨0, Nat.zero_le _, rfl, rfl⟩
  case round =>
    obtain ⟨k, hk, rfl, rfl⟩ := hrel
    by_cases hlt : k < len
    case neg =>
      obtain rfl : k = len := by omega
      go_wp2
      go_ret
      exact ⟨rfl, rfl⟩
    obtain ⟨b, off, x, rfl, hx, hc, hI, _⟩ := rdI_get h' hlt
    have hkI : (k : Int) < len := by omega
    have hkc : (k : Int) ≤ cap := by omega
    have HX := Lib.hid hx
    clear hx
    go_wp2
    go_loopw [18] (fun j wq => ∃ q : Nat, q ≤ k ∧ j = .int .i64 q ∧ wq = wr) (fun j _ => k - (intOf j).toNat)
    case atStart => exact ⟨0, Nat.zero_le _, rfl, rfl⟩
    case round =>
      obtain ⟨q, hq, rfl, rfl⟩ := hrel
      by_cases hqk : q < k
      case neg =>
        obtain rfl : q = k := by omega
        go_wp2
        go_roundw
        case rel => exact ⟨q + 1, by omega, by go_num, trivial⟩
        case measure => simp [intOf]; omega
      obtain ⟨b2, off2, y, hb2, hy, hc2, hI2, _⟩ := rdI_get h' (k := q) (by omega)
      simp only [Option.some.injEq, Addr.mk.injEq, and_true] at hb2
      obtain ⟨rfl, rfl⟩ := hb2
      have hxy : (x == y) = false := by
        simp only [beq_eq_false_iff_ne, ne_eq]
        intro e
        subst e
        obtain ⟨h1, e1⟩ := List.getElem?_eq_some_iff.1 HX.out
        obtain ⟨h2, e2⟩ := List.getElem?_eq_some_iff.1 hy
        have := (List.pairwise_iff_getElem.1 HND.out) q k h2 h1 hqk
        exact this (by rw [e1, e2])
      clear hy
      go_wp2
      go_roundw
      case rel => exact ⟨q + 1, by omega, by go_num, trivial⟩
      case measure => simp [intOf]; omega
/-- The box of a tableau that is to be returned. -/
structure RBox (w : World) (B : Nat) : Prop where
  c0 : ∃ x, w.cell? ⟨B, 0, none⟩ = some x
  c1 : ∃ x, w.cell? ⟨B, 1, none⟩ = some x
  c2 : ∃ x, w.cell? ⟨B, 2, none⟩ = some x
  f0 : w.frozen? ⟨B, 0, none⟩ = false
  f1 : w.frozen? ⟨B, 1, none⟩ = false
  f2 : w.frozen? ⟨B, 2, none⟩ = false
theorem RBox.new (w : World) (a b c : Value) (e : Nat) : RBox (w.alloc (.cells #[a, b, c] e)) w.heap.size := ⟨⟨a, by simp⟩, ⟨b, by simp⟩, ⟨c, by simp⟩, by simp, by simp, by simp⟩
theorem RBox.only {w w' : World} {B : Nat} {fp : List Nat} (h : RBox w B) (ho : Only fp w w') (hB : B ∉ fp) : RBox w' B := by
  obtain ⟨⟨x0, h0⟩, ⟨x1, h1⟩, ⟨x2, h2⟩, f0, f1, f2⟩ := h
  have hl := World.block_lt_of_cell? _ _ h0
  have fr : ∀ c, w'.frozen? ⟨B, c, none⟩ = w.frozen? ⟨B, c, none⟩ := fun c => World.frozen?_of_block (ho.block _ hl hB)
  exact ⟨⟨x0, cell_only ho hB h0⟩, ⟨x1, cell_only ho hB h1⟩, ⟨x2, cell_only ho hB h2⟩, (fr 0).trans f0, (fr 1).trans f1, (fr 2).trans f2⟩
theorem RBox.below {w w' : World} {B : Nat} (h : RBox w B) (hb : Below w.heap.size w w') : RBox w' B := h.only (fp := []) (Only.of_below hb) (by simp)
def OwnT (n : Nat) (w : World) (v : Value) (t : TabZ) : Prop := ∃ vA vB fA fB, v = .agg #[.int .i64 t.stages, vA, vB] ∧ I64 t.stages ∧ OwnI 3 w vA t.A fA ∧ OwnI 3 w vB t.B fB ∧ (∀ b ∈ fA, n ≤ b) ∧ (∀ b ∈ fB, n ≤ b)
theorem OwnT.rd {n : Nat} {w : World} {v : Value} {t : TabZ} (h : OwnT n w v t) : RdTab w v t := by
  obtain ⟨vA, vB, fA, fB, rfl, hI, hA, hB, _, _⟩ := h
  exact ⟨vA, vB, rfl, hI, ownI_rd hA, ownI_rd hB⟩
/-- A tableau of the call's own that is returned with yes. -/
def GivesT (t : TabZ) (w : World) : Ending → World → Prop := fun e w' => ∃ v, e = .returned (.tuple #[v, .bool true]) ∧ OwnT w.heap.size w' v t ∧ Below w.heap.size w w'
set_option maxRecDepth 100000 in
set_option maxHeartbeats 12800000 in
theorem collI_any (v : Value) (s : Nat) (w : World) (h : RdI w v (gauN s)) (h1 : 1 ≤ s) (h3 : s ≤ 3) : Calls Tryz.prog 52 #[v] w (GivesT (gauT s) w) := by
  obtain ⟨ad, len, cap, rfl, hl, hlc, hcm, h'⟩ := rdS_open h
  obtain rfl : s = len := by rw [← hl, gau_len h1 h3]
  obtain ⟨n1, n2⟩ := gau_nums h1 h3
  have HH1 := Lib.hid h1
  have HH3 := Lib.hid h3
  have hsz : ((s : Int) == 0) = false := by simp; omega
  have hs8 : ¬ ((8 : Int) < s) := by omega
  obtain ⟨W0, hW0⟩ : ∃ W, W = w.alloc (.cells #[.int .i64 0, .slice none 0 0, .slice none 0 0] 37) := ⟨_, rfl⟩
  have hb0 : Below w.heap.size w W0 := hW0 ▸ (Below.refl _ _).alloc (Nat.le_refl _) _
  have hs0 : W0.heap.size = w.heap.size + 1 := by rw [hW0]; simp
  have HR0 := Lib.hid (show RBox W0 w.heap.size from hW0 ▸ RBox.new w (.int .i64 0) (.slice none 0 0) (.slice none 0 0) 37)
  have HN := Lib.hid (allNumI_eq (.slice ad s cap) (gauN s) W0 (rdI_mono hb0 h') n1)
  have HD := Lib.hid (diffI_any (.slice ad s cap) (gauN s) W0 (rdI_mono hb0 h') n2)
  have HE := Lib.hid (empty_any s (s : Int) rfl (by omega) W0)
  have HW0 := Lib.hid hW0
  have HB0 := Lib.hid hb0
  have HS0 := Lib.hid hs0
  clear hW0 hb0 hs0 h n1 n2 hl
  go_enter Tryz.func52, Tryz.ntmps52
  go_wp2_with fail
  rw [← HW0.out]
  refine HN.out.mono ?_
  rintro e w' ⟨rfl, rfl⟩
  go_wp2_with fail
  refine HD.out.mono ?_
  rintro e w' ⟨rfl, rfl⟩
  go_wp2_with fail
  refine HE.out.mono ?_
  rintro e w1 ⟨gA, gB, rfl, hA, hB, hne, hgA, hgB, hb1⟩
  obtain ⟨W2, hW2⟩ : ∃ W, W = w1.alloc (.cells #[.int .i64 (s : Int), .slice (some ⟨gA, 0, none⟩) (s * s) (s * s), .slice (some ⟨gB, 0, none⟩) s s] 37) := ⟨_, rfl⟩
  have hal : Below w1.heap.size w1 W2 := hW2 ▸ (Below.refl _ _).alloc (Nat.le_refl _) _
  have HA2 := Lib.hid (ownI_only hA (Only.of_below (fp := []) hal) (by simp))
  have HB2 := Lib.hid (ownI_only hB (Only.of_below (fp := []) hal) (by simp))
  have hlA := ownI_lt hA gA (by simp)
  have hlB := ownI_lt hB gB (by simp)
  obtain ⟨B4, hB4⟩ : ∃ B, B = w1.heap.size := ⟨_, rfl⟩
  have hk : W2.cell? ⟨B4, 0, none⟩ = some (.int .i64 (s : Int)) ∧ W2.cell? ⟨B4, 1, none⟩ = some (.slice (some ⟨gA, 0, none⟩) (s * s) (s * s)) ∧ W2.cell? ⟨B4, 2, none⟩ = some (.slice (some ⟨gB, 0, none⟩) s s) := by rw [hW2, hB4]; simp
  have hb02 := hb1.trans (hal.mono hb1.size)
  have HB02 := Lib.hid hb02
  have HR2 := Lib.hid (HR0.out.below hb02)
  have HBW := Lib.hid (HB0.out.trans (hb02.mono HB0.out.size))
  have hsz1 := hb1.size
  have hs0 := HS0.out
  have hgAB : gA ≠ B4 ∧ gB ≠ B4 := by omega
  have hgw : w.heap.size < gA ∧ w.heap.size < gB ∧ w.heap.size < B4 := by omega
  have HK := Lib.hid hk
  have HW2 := Lib.hid hW2
  have HBF := Lib.hid hB4
  have hss : s * s ≤ 9 := Nat.mul_le_mul h3 h3
  have HSS := Lib.hid hss
  obtain ⟨hgA4, hgB4⟩ := hgAB
  obtain ⟨hgA0, hgB0, hB40⟩ := hgw
  clear hA hB hal hk hW2 hb02 hb1 hB4 hlA hlB hsz1 hs0 hss
  go_wp2
  rw [← HW2.out, ← HBF.out]
  go_loopw [31] (fun si wq => ∃ i : Nat, i ≤ s ∧ si = .int .i64 i ∧ OwnI 3 wq (.slice (some ⟨gA, 0, none⟩) (s * s) (s * s)) (midG s i) [gA] ∧ Only [gA] W2 wq) (fun si _ => s - (intOf si).toNat)
  case atStart => exact ⟨0, Nat.zero_le _, rfl, by rw [midG_zero]; exact HA2.out, Only.refl _ _⟩
  case round =>
    obtain ⟨wk, rfl⟩ : ∃ W, W = wr := ⟨_, rfl⟩
    obtain ⟨i, hi, rfl, ho, hon⟩ := hrel
    have hbk : Below w.heap.size w wk := HBW.out.trans (hon.below HBW.out.size (by intro b hb; rw [List.mem_singleton.1 hb]; omega))
    obtain ⟨k0, k1, k2⟩ := HK.out
    have c0 := cell_only hon (by simpa using hgA4.symm) k0
    have c1 := cell_only hon (by simpa using hgA4.symm) k1
    have c2 := cell_only hon (by simpa using hgA4.symm) k2
    have HOB := Lib.hid (ownI_only HB2.out hon (by simpa using hne.symm))
    clear k0 k1 k2
    by_cases hil : i < s
    case neg =>
      obtain rfl : i = s := by omega
      rw [midG_done HH1.out HH3.out] at ho
      have HQB := Lib.hid (fun (W : World) (hW : Below wk.heap.size wk W) => show Calls Tryz.prog 119 #[.slice ad i cap, .func (.func 121) #[] #[]] W (Gives (fun w' v fp => OwnI 3 w' v (solL (powRows (gauN i)) (rgtB i)) fp) W) from
        quadB_any (.slice ad i cap) (gauN i) i W (rdI_mono (hbk.trans (hW.mono hbk.size)) h') (gau_len HH1.out HH3.out) (by omega) (gau_sysB HH1.out HH3.out) (fun k => i64_of_bd (fracZ_bd _ _)))
      rw [gau_wts HH1.out HH3.out] at HQB
      have hbl : (gauB i).length = i := by
        rcases three_of HH1.out HH3.out with rfl | rfl | rfl <;> rfl
      have HBL := Lib.hid hbl
      have HO := Lib.hid ho
      have HON := Lib.hid hon
      have HBK := Lib.hid hbk
      have HQ0 := Lib.hid (HQB.out wk.drew (Below.refl _ _).drew)
      have HSZ := Lib.hid (show (Tryz.prog.info? 3).map (·.size) = some 1 from by kernel_rfl)
      have HMIN := Lib.hid (Nat.min_self i)
      clear ho hon hbk hbl
      go_wp2
      go_region_law (first | (go_simp; go_at_call 119; (with_reducible refine (HQ0.out).mono ?_); rintro e w8 ⟨v8, f8, rfl, ho8, hf8, hb8⟩; obtain ⟨ad8, l8, c8, rfl, hl8, _⟩ := ownI_open ho8; have hl8s : i = l8 := (by rw [← hl8, HBL.out]); subst hl8s; obtain ⟨b9, o9, rfl⟩ : ∃ b o, ad8 = some ⟨b, o, none⟩ := (by { obtain ⟨b, o, x, e, _⟩ := rdI_get (ownI_rd ho8) (k := 0) (by omega); exact ⟨b, o, e⟩ }); have hbx : Below wk.heap.size wk w8 := ((Below.refl wk.heap.size wk).drew).trans hb8; have d0 := cell_below hbx c0; have d1 := cell_below hbx c1; have d2 := cell_below hbx c2; have hoB := ownI_only HOB.out (Only.of_below (fp := []) hbx) (by simp); have hrB := hoB.1; rw [List.length_replicate] at hrB; have HRB := Lib.hid hrB; have HNW := Lib.hid (rdI_news (ownI_rd ho8)); have HI8 := Lib.hid (i64_all (ownI_rd ho8)); have HBX := Lib.hid hbx; clear ho8 hf8 hb8 hl8 hbx hoB hrB) | (refine step_copy_row (o := ⟨some 48, _, _, _, _, _⟩) (by rfl) (.tmp 45) (.tmp 47) 35 35 (by rfl) 3 1 Tryz.underlying35 HSZ.out gB i 0 i i ⟨b9, o9, none⟩ i c8 3 (by rfl) (by rfl) _ HRB.out ((gauB i).map (Value.int .i64)) i HMIN.out (by rw [List.length_map, HBL.out, Nat.mul_one]) HNW.out (by rw [List.length_map, HBL.out]; omega) (by intro u hu; simp only [List.mem_map] at hu; obtain ⟨z, _, rfl⟩ := hu; rfl) ?_; intro w9 hown9 honl9; have f0 := cell_only honl9 (by simpa using hgB4.symm) d0; have f1 := cell_only honl9 (by simpa using hgB4.symm) d1; have f2 := cell_only honl9 (by simpa using hgB4.symm) d2; have HOW := Lib.hid hown9; have HOL := Lib.hid honl9; clear hown9 honl9))
      all_goals (
        obtain ⟨⟨y0, hy0⟩, ⟨y1, hy1⟩, ⟨y2, hy2⟩, hz0, hz1, hz2⟩ := ((HR2.out.only HON.out (by simp; omega)).below HBX.out).only HOL.out (by simp; omega)
        have hne0 : B4 ≠ w.heap.size := by omega
        go_wp2
        refine bodyPost_ret (v := .tuple #[.agg #[.int .i64 (i : Int), .slice (some ⟨gA, 0, none⟩) (i * i) (i * i), .slice (some ⟨gB, 0, none⟩) i i], .bool true]) (by simp [results, Tryz.results52, go_sem, hy0, hy1, hy2]) rfl ?_
        have hOr : Only [w.heap.size] w9 (((w9.setCell ⟨w.heap.size, 0, none⟩ (.int .i64 (i : Int))).setCell ⟨w.heap.size, 1, none⟩ (.slice (some ⟨gA, 0, none⟩) (i * i) (i * i))).setCell ⟨w.heap.size, 2, none⟩ (.slice (some ⟨gB, 0, none⟩) i i)) := (((Only.refl _ _).setCell (by simp) _).setCell (by simp) _).setCell (by simp) _
        have hA9 := ownI_only (ownI_only (ownI_only HO.out (Only.of_below (fp := []) HBX.out) (by simp)) HOL.out (by simpa using hne)) hOr (by simp; omega)
        have hB9 : OwnI 3 w9 (.slice (some ⟨gB, 0, none⟩) i i) (gauB i) [gB] := by
          refine ⟨?_, rfl, HI8.out⟩
          have := HOW.out
          rw [HBL.out]
          simp only [List.take_zero, List.nil_append, List.length_map, HBL.out, Nat.zero_add] at this
          rwa [List.drop_eq_nil_of_le (by simp), List.append_nil] at this
        refine ⟨_, rfl, ⟨_, _, _, _, rfl, ⟨by show (-9223372036854775808 : Int) ≤ (i : Int); omega, by show (i : Int) ≤ 9223372036854775807; omega⟩, hA9, ownI_only hB9 hOr (by simp; omega), by simp; omega, by simp; omega⟩, ?_⟩
        have hw9 : Below w.heap.size w w9 := (HBK.out.trans (HBX.out.mono HBK.out.size)).trans (HOL.out.below (HBK.out.trans (HBX.out.mono HBK.out.size)).size (by intro b hb; rw [List.mem_singleton.1 hb]; omega))
        exact hw9.trans ((hOr.below hw9.size (by intro b hb; rw [List.mem_singleton.1 hb]; exact Nat.le_refl _)).mono (Nat.le_refl _)))
    obtain ⟨bn, on, c, rfl, hc, hcc, hIc, _⟩ := rdI_get (rdI_mono hbk h') (k := i) hil
    have hcz : atZ (gauN s) i = c := atZ_get hc
    obtain ⟨W6, hW6⟩ : ∃ W, W = wk.alloc (.cells #[.int .i64 c] 3) := ⟨_, rfl⟩
    have hb6 : Below wk.heap.size wk W6 := hW6 ▸ (Below.refl _ _).alloc (Nat.le_refl _) _
    have hcc6 : W6.cell? ⟨wk.heap.size, 0, none⟩ = some (.int .i64 c) := by rw [hW6]; simp
    have e0 : (wk.alloc (.cells #[.int .i64 c] 3)).cell? ⟨B4, 0, none⟩ = _ := hW6 ▸ cell_below hb6 c0
    have e1 : (wk.alloc (.cells #[.int .i64 c] 3)).cell? ⟨B4, 1, none⟩ = _ := hW6 ▸ cell_below hb6 c1
    have e2 : (wk.alloc (.cells #[.int .i64 c] 3)).cell? ⟨B4, 2, none⟩ = _ := hW6 ▸ cell_below hb6 c2
    have hBk : B4 < wk.heap.size := World.block_lt_of_cell? _ _ c0
    have hAk : gA < wk.heap.size := ownI_lt ho gA (by simp)
    have HROW := Lib.hid (rowI_any gA 0 (s * s) (s * s) (.slice (some ⟨gB, 0, none⟩) s s) s i (s : Int) (i : Int) W6 rfl rfl (by omega) hil rfl (Nat.le_refl _) (by have := HSS.out; omega) ⟨_, _, _, rfl⟩)
    have HQA := Lib.hid (fun (W : World) (hW : Below W6.heap.size W6 W) => (quadA_any (.slice (some ⟨bn, on, none⟩) s cap) (gauN s) s wk.heap.size c W (rdI_mono (hbk.trans ((hb6.trans (hW.mono hb6.size)).mono hbk.size)) h') (cell_below hW hcc6) (gau_len HH1.out HH3.out) (by omega) (hcz ▸ gau_sysA HH1.out HH3.out hil)))
    have hval : solL (powRows (gauN s)) (rgtA c s) = atL (gauA s) i := hcz ▸ gau_row HH1.out HH3.out hil
    rw [hval] at HQA
    obtain ⟨r1, r2, r3⟩ := gau_rows HH1.out HH3.out hil
    have HO := Lib.hid ho
    have HON := Lib.hid hon
    have HB6 := Lib.hid hb6
    have HW6 := Lib.hid hW6
    have HNX := Lib.hid (midG_next HH1.out HH3.out hil)
    have HR1 := Lib.hid r1
    have HR3 := Lib.hid r3
    clear hc hcz hIc hW6 hb6 hcc6 ho hon hval r1 r2 r3
    go_wp2_with fail
    rw [← HW6.out]
    refine HROW.out.mono ?_
    rintro e w7 ⟨rfl, hb7⟩
    have HB7 := Lib.hid hb7
    have HQ7 := Lib.hid (HQA.out w7 hb7)
    clear hb7
    go_wp2_with fail
    refine HQ7.out.mono ?_
    rintro e w8 ⟨v8, f8, rfl, ho8, hf8, hb8⟩
    obtain ⟨ad8, l8, c8, rfl, hl8, _⟩ := ownI_open ho8
    have hl8s : s = l8 := by rw [← hl8, HR1.out]
    subst hl8s
    have hbx : Below wk.heap.size wk w8 := (HB6.out.trans (HB7.out.mono HB6.out.size)).trans (hb8.mono (HB6.out.trans (HB7.out.mono HB6.out.size)).size)
    have hoA := ownI_only HO.out (Only.of_below (fp := []) hbx) (by simp)
    have hrowA := hoA.1
    rw [HR3.out] at hrowA
    obtain ⟨b9, o9, rfl⟩ : ∃ b o, ad8 = some ⟨b, o, none⟩ := by
      obtain ⟨b, o, x, e, _⟩ := rdI_get (ownI_rd ho8) (k := 0) (by omega)
      exact ⟨b, o, e⟩
    have HNW := Lib.hid (rdI_news (ownI_rd ho8))
    have HRA := Lib.hid hrowA
    have HI8 := Lib.hid (i64_all (ownI_rd ho8))
    have HIA := Lib.hid (i64_all (ownI_rd hoA))
    have HBX := Lib.hid hbx
    have hpi : i * s + s ≤ s * s := by
      have := Nat.mul_le_mul_right s hil
      rw [Nat.succ_mul] at this
      omega
    have HPI := Lib.hid hpi
    have HSZ := Lib.hid (show (Tryz.prog.info? 3).map (·.size) = some 1 from by kernel_rfl)
    clear ho8 hf8 hb8 hl8 hoA hrowA hbx hpi
    go_wp2_with (first | (refine wpList_copy_row (o := ⟨some 42, _, _, _, _, _⟩) rfl (.tmp 38) (.tmp 41) 35 35 rfl 3 1 Tryz.underlying35 HSZ.out gA (s * s) (i * s) s (s * s - i * s) ⟨b9, o9, none⟩ s c8 3 rfl rfl _ HRA.out ((atL (gauA s) i).map (Value.int .i64)) s (Nat.min_self s) (by rw [List.length_map, HR1.out, Nat.mul_one]) HNW.out (by rw [List.length_map, HR1.out, Nat.mul_one]; exact HPI.out) (by intro u hu; simp only [List.mem_map] at hu; obtain ⟨z, _, rfl⟩ := hu; rfl) ?_; intro w9 hown9 honl9))
    have HO9 := Lib.hid (show OwnI 3 w9 (.slice (some ⟨gA, 0, none⟩) (s * s) (s * s)) (midG s (i + 1)) [gA] from by
      have e : (midG s (i + 1)).map (Value.int .i64) = ((midG s i).map (Value.int .i64)).take (i * s) ++ (atL (gauA s) i).map (Value.int .i64) ++ ((midG s i).map (Value.int .i64)).drop (i * s + ((atL (gauA s) i).map (Value.int .i64)).length) := by
        rw [List.length_map, HR1.out, ← HNX.out, List.map_append, List.map_append, List.map_take, List.map_drop]
      refine ⟨?_, rfl, fun x hx => ?_⟩
      · rw [midG_len HH1.out HH3.out (by omega), e]
        exact hown9
      · rw [← HNX.out] at hx
        rcases List.mem_append.1 hx with hx | hx
        · rcases List.mem_append.1 hx with hx | hx
          · exact HIA.out x (List.mem_of_mem_take hx)
          · exact HI8.out x hx
        · exact HIA.out x (List.mem_of_mem_drop hx))
    have HON9 := Lib.hid ((HON.out.trans (Only.of_below HBX.out)).trans honl9)
    clear hown9 honl9
    go_roundw
    case rel => exact ⟨i + 1, by omega, by go_num, HO9.out, HON9.out⟩
    case measure => simp [intOf]; omega
end Go.Proofs.YtbcjhpgkodeoeaaGreatDoor

/- Gauss's tableaus are tableaus and symplectic. Conditions: none. -/
namespace Go.Proofs.YtbcjhpgkodeoeaaGreatDoor
open Go.RowKit

theorem gauT_ok {s : Nat} (h1 : 1 ≤ s) (h3 : s ≤ 3) : tabOkB (gauT s) = true := by
  rcases three_of h1 h3 with rfl | rfl | rfl <;> decide
def sympC (t : TabZ) : Bool := (List.range t.B.length).all fun i => (List.range t.B.length).all fun j => decide (resZ (atZ t.B i * atZ t.A (i * t.B.length + j) + atZ t.B j * atZ t.A (j * t.B.length + i)) = resZ (atZ t.B i * atZ t.B j))
theorem sympC_of {t : TabZ} (h : sympC t = true) : SympT t := by
  intro i j hi hj
  simp only [sympC, List.all_eq_true, List.mem_range, decide_eq_true_eq] at h
  exact h i hi j hj
theorem gauT_symp {s : Nat} (h1 : 1 ≤ s) (h3 : s ≤ 3) : SympT (gauT s) := by
  refine sympC_of ?_
  rcases three_of h1 h3 with rfl | rfl | rfl <;> decide +kernel
end Go.Proofs.YtbcjhpgkodeoeaaGreatDoor
