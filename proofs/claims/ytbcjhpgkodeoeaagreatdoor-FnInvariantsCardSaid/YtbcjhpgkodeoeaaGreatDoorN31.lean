/- The texts ColJ, Ser, SerR in one: each says at its head what it proves. Conditions: as said there. -/
import Derived.Test.YtbcjhpgkodeoeaaGreatDoorN26
import Derived.Test.YtbcjhpgkodeoeaaGreatDoorN30
import Derived.Test.YtbcjhpgkodeoeaaGreatDoorN20
set_option linter.unusedSimpArgs false
set_option linter.unusedVariables false
/- The program's CollocationTableau at Gauss's nodes: Gauss's tableaus. Conditions: one to three nodes. -/
namespace Go.Proofs.YtbcjhpgkodeoeaaGreatDoor
open Go.RowKit Go.Sort

/-- the first i rows are there -/
def midG (s i : Nat) : List Int := ((gauA s).take i).flatten ++ List.replicate (s * s - i * s) 0
theorem three_of {s : Nat} (h1 : 1 ≤ s) (h3 : s ≤ 3) : s = 1 ∨ s = 2 ∨ s = 3 := by omega
theorem midG_zero (s : Nat) : midG s 0 = List.replicate (s * s) 0 := by simp [midG]
theorem midG_done {s : Nat} (h1 : 1 ≤ s) (h3 : s ≤ 3) : midG s s = (gauA s).flatten := by
  rcases three_of h1 h3 with rfl | rfl | rfl <;> rfl
theorem midG_next {s i : Nat} (h1 : 1 ≤ s) (h3 : s ≤ 3) (hi : i < s) : (midG s i).take (i * s) ++ atL (gauA s) i ++ (midG s i).drop (i * s + s) = midG s (i + 1) := by
  rcases three_of h1 h3 with rfl | rfl | rfl
  · obtain rfl : i = 0 := by omega
    rfl
  · rcases (by omega : i = 0 ∨ i = 1) with rfl | rfl <;> rfl
  · rcases (by omega : i = 0 ∨ i = 1 ∨ i = 2) with rfl | rfl | rfl <;> rfl
theorem gau_rows {s i : Nat} (h1 : 1 ≤ s) (h3 : s ≤ 3) (hi : i < s) : (atL (gauA s) i).length = s ∧ (gauB s).length = s ∧ (midG s i).length = s * s := by
  rcases three_of h1 h3 with rfl | rfl | rfl
  · obtain rfl : i = 0 := by omega
    exact ⟨rfl, rfl, rfl⟩
  · rcases (by omega : i = 0 ∨ i = 1) with rfl | rfl <;> exact ⟨rfl, rfl, rfl⟩
  · rcases (by omega : i = 0 ∨ i = 1 ∨ i = 2) with rfl | rfl | rfl <;> exact ⟨rfl, rfl, rfl⟩
theorem midG_len {s i : Nat} (h1 : 1 ≤ s) (h3 : s ≤ 3) (hi : i ≤ s) : (midG s i).length = s * s := by
  rcases three_of h1 h3 with rfl | rfl | rfl
  · rcases (by omega : i = 0 ∨ i = 1) with rfl | rfl <;> rfl
  · rcases (by omega : i = 0 ∨ i = 1 ∨ i = 2) with rfl | rfl | rfl <;> rfl
  · rcases (by omega : i = 0 ∨ i = 1 ∨ i = 2 ∨ i = 3) with rfl | rfl | rfl | rfl <;> rfl
theorem solB_sysB {rows : List (List Int)} {right : List Int} (h : solB rows right = true) : sysB rows right = true := by
  cases hs : sysB rows right with
  | true => rfl
  | false => rw [(solB_sys hs).1] at h; cases h
theorem gau_sysA {s i : Nat} (h1 : 1 ≤ s) (h3 : s ≤ 3) (hi : i < s) : sysB (powRows (gauN s)) (rgtA (atZ (gauN s) i) s) = true := by
  have h := gau_chk
  simp only [List.all_eq_true, Bool.and_eq_true, decide_eq_true_eq] at h
  have h2 := (h s (by simpa using three_of h1 h3)).1 i (by simpa using hi)
  rw [powRows_B _ (by rw [gau_len h1 h3]; omega), rgtA_B _ _ (by omega)]
  exact solB_sysB (solX_B h2).1
theorem gau_sysB {s : Nat} (h1 : 1 ≤ s) (h3 : s ≤ 3) : sysB (powRows (gauN s)) (rgtB s) = true := by
  have h := gau_chk
  simp only [List.all_eq_true, Bool.and_eq_true, decide_eq_true_eq] at h
  have h2 := (h s (by simpa using three_of h1 h3)).2
  rw [powRows_B _ (by rw [gau_len h1 h3]; omega), rgtB_B]
  exact solB_sysB (solX_B h2).1
theorem gau_nums {s : Nat} (h1 : 1 ≤ s) (h3 : s ≤ 3) : (gauN s).all isNumB = true ∧ (gauN s).Nodup := by
  rcases three_of h1 h3 with rfl | rfl | rfl <;> exact ⟨by decide, by decide⟩
/-- Gauss's tableau -/
def gauT (s : Nat) : TabZ := ⟨(s : Int), (gauA s).flatten, gauB s⟩

set_option maxRecDepth 100000 in
set_option maxHeartbeats 3200000 in
theorem diffI_any (v : Value) (xs : List Int) (w : World) (h : RdI w v xs) (hnd : xs.Nodup) : Calls Tryz.prog 117 #[v] w fun e w' => e = .returned (.bool true) ∧ w = w' := by
  obtain ⟨ad, len, cap, rfl, hl, hlc, hcm, h'⟩ := rdS_open h
  have HL := Lib.hid hl
  have HND := Lib.hid hnd
  clear h hl hnd
  go_enter Tryz.func117, Tryz.ntmps117
  go_wp2
  go_loopw [9] (fun i wr => ∃ k : Nat, k ≤ len ∧ i = .int .i64 k ∧ wr = w) (fun i _ => len - (intOf i).toNat)
  case atStart => exact ⟨0, Nat.zero_le _, rfl, rfl⟩
  case round =>
    obtain ⟨k, hk, rfl, rfl⟩ := hrel
    by_cases hlt : k < len
    case neg =>
      obtain rfl : k = len := by omega
      go_wp2
      go_ret
      exact ⟨rfl, rfl⟩
    obtain ⟨b, off, x, rfl, hx, hc, hI, _⟩ := rdI_get h' hlt
    have hkI : (k : Int) < len := by omega
    have hkc : (k : Int) ≤ cap := by omega
    have HX := Lib.hid hx
    clear hx
    go_wp2
    go_loopw [18] (fun j wq => ∃ q : Nat, q ≤ k ∧ j = .int .i64 q ∧ wq = wr) (fun j _ => k - (intOf j).toNat)
    case atStart => exact ⟨0, Nat.zero_le _, rfl, rfl⟩
    case round =>
      obtain ⟨q, hq, rfl, rfl⟩ := hrel
      by_cases hqk : q < k
      case neg =>
        obtain rfl : q = k := by omega
        go_wp2
        go_roundw
        case rel => exact ⟨q + 1, by omega, by go_num, trivial⟩
        case measure => simp [intOf]; omega
      obtain ⟨b2, off2, y, hb2, hy, hc2, hI2, _⟩ := rdI_get h' (k := q) (by omega)
      simp only [Option.some.injEq, Addr.mk.injEq, and_true] at hb2
      obtain ⟨rfl, rfl⟩ := hb2
      have hxy : (x == y) = false := by
        simp only [beq_eq_false_iff_ne, ne_eq]
        intro e
        subst e
        obtain ⟨h1, e1⟩ := List.getElem?_eq_some_iff.1 HX.out
        obtain ⟨h2, e2⟩ := List.getElem?_eq_some_iff.1 hy
        have := (List.pairwise_iff_getElem.1 HND.out) q k h2 h1 hqk
        exact this (by rw [e1, e2])
      clear hy
      go_wp2
      go_roundw
      case rel => exact ⟨q + 1, by omega, by go_num, trivial⟩
      case measure => simp [intOf]; omega
/-- The box of a tableau that is to be returned. -/
structure RBox (w : World) (B : Nat) : Prop where
  c0 : ∃ x, w.cell? ⟨B, 0, none⟩ = some x
  c1 : ∃ x, w.cell? ⟨B, 1, none⟩ = some x
  c2 : ∃ x, w.cell? ⟨B, 2, none⟩ = some x
  f0 : w.frozen? ⟨B, 0, none⟩ = false
  f1 : w.frozen? ⟨B, 1, none⟩ = false
  f2 : w.frozen? ⟨B, 2, none⟩ = false
theorem RBox.new (w : World) (a b c : Value) (e : Nat) : RBox (w.alloc (.cells #[a, b, c] e)) w.heap.size := ⟨⟨a, by simp⟩, ⟨b, by simp⟩, ⟨c, by simp⟩, by simp, by simp, by simp⟩
theorem RBox.only {w w' : World} {B : Nat} {fp : List Nat} (h : RBox w B) (ho : Only fp w w') (hB : B ∉ fp) : RBox w' B := by
  obtain ⟨⟨x0, h0⟩, ⟨x1, h1⟩, ⟨x2, h2⟩, f0, f1, f2⟩ := h
  have hl := World.block_lt_of_cell? _ _ h0
  have fr : ∀ c, w'.frozen? ⟨B, c, none⟩ = w.frozen? ⟨B, c, none⟩ := fun c => World.frozen?_of_block (ho.block _ hl hB)
  exact ⟨⟨x0, cell_only ho hB h0⟩, ⟨x1, cell_only ho hB h1⟩, ⟨x2, cell_only ho hB h2⟩, (fr 0).trans f0, (fr 1).trans f1, (fr 2).trans f2⟩
theorem RBox.below {w w' : World} {B : Nat} (h : RBox w B) (hb : Below w.heap.size w w') : RBox w' B := h.only (fp := []) (Only.of_below hb) (by simp)
def OwnT (n : Nat) (w : World) (v : Value) (t : TabZ) : Prop := ∃ vA vB fA fB, v = .agg #[.int .i64 t.stages, vA, vB] ∧ I64 t.stages ∧ OwnI 3 w vA t.A fA ∧ OwnI 3 w vB t.B fB ∧ (∀ b ∈ fA, n ≤ b) ∧ (∀ b ∈ fB, n ≤ b)
theorem OwnT.rd {n : Nat} {w : World} {v : Value} {t : TabZ} (h : OwnT n w v t) : RdTab w v t := by
  obtain ⟨vA, vB, fA, fB, rfl, hI, hA, hB, _, _⟩ := h
  exact ⟨vA, vB, rfl, hI, ownI_rd hA, ownI_rd hB⟩
/-- A tableau of the call's own that is returned with yes. -/
def GivesT (t : TabZ) (w : World) : Ending → World → Prop := fun e w' => ∃ v, e = .returned (.tuple #[v, .bool true]) ∧ OwnT w.heap.size w' v t ∧ Below w.heap.size w w'
set_option maxRecDepth 100000 in
set_option maxHeartbeats 12800000 in
theorem collI_any (v : Value) (s : Nat) (w : World) (h : RdI w v (gauN s)) (h1 : 1 ≤ s) (h3 : s ≤ 3) : Calls Tryz.prog 52 #[v] w (GivesT (gauT s) w) := by
  obtain ⟨ad, len, cap, rfl, hl, hlc, hcm, h'⟩ := rdS_open h
  obtain rfl : s = len := by rw [← hl, gau_len h1 h3]
  obtain ⟨n1, n2⟩ := gau_nums h1 h3
  have HH1 := Lib.hid h1
  have HH3 := Lib.hid h3
  have hsz : ((s : Int) == 0) = false := by simp; omega
  have hs8 : ¬ ((8 : Int) < s) := by omega
  obtain ⟨W0, hW0⟩ : ∃ W, W = w.alloc (.cells #[.int .i64 0, .slice none 0 0, .slice none 0 0] 37) := ⟨_, rfl⟩
  have hb0 : Below w.heap.size w W0 := hW0 ▸ (Below.refl _ _).alloc (Nat.le_refl _) _
  have hs0 : W0.heap.size = w.heap.size + 1 := by rw [hW0]; simp
  have HR0 := Lib.hid (show RBox W0 w.heap.size from hW0 ▸ RBox.new w (.int .i64 0) (.slice none 0 0) (.slice none 0 0) 37)
  have HN := Lib.hid (allNumI_eq (.slice ad s cap) (gauN s) W0 (rdI_mono hb0 h') n1)
  have HD := Lib.hid (diffI_any (.slice ad s cap) (gauN s) W0 (rdI_mono hb0 h') n2)
  have HE := Lib.hid (empty_any s (s : Int) rfl (by omega) W0)
  have HW0 := Lib.hid hW0
  have HB0 := Lib.hid hb0
  have HS0 := Lib.hid hs0
  clear hW0 hb0 hs0 h n1 n2 hl
  go_enter Tryz.func52, Tryz.ntmps52
  go_wp2_with fail
  rw [← HW0.out]
  refine HN.out.mono ?_
  rintro e w' ⟨rfl, rfl⟩
  go_wp2_with fail
  refine HD.out.mono ?_
  rintro e w' ⟨rfl, rfl⟩
  go_wp2_with fail
  refine HE.out.mono ?_
  rintro e w1 ⟨gA, gB, rfl, hA, hB, hne, hgA, hgB, hb1⟩
  obtain ⟨W2, hW2⟩ : ∃ W, W = w1.alloc (.cells #[.int .i64 (s : Int), .slice (some ⟨gA, 0, none⟩) (s * s) (s * s), .slice (some ⟨gB, 0, none⟩) s s] 37) := ⟨_, rfl⟩
  have hal : Below w1.heap.size w1 W2 := hW2 ▸ (Below.refl _ _).alloc (Nat.le_refl _) _
  have HA2 := Lib.hid (ownI_only hA (Only.of_below (fp := []) hal) (by simp))
  have HB2 := Lib.hid (ownI_only hB (Only.of_below (fp := []) hal) (by simp))
  have hlA := ownI_lt hA gA (by simp)
  have hlB := ownI_lt hB gB (by simp)
  obtain ⟨B4, hB4⟩ : ∃ B, B = w1.heap.size := ⟨_, rfl⟩
  have hk : W2.cell? ⟨B4, 0, none⟩ = some (.int .i64 (s : Int)) ∧ W2.cell? ⟨B4, 1, none⟩ = some (.slice (some ⟨gA, 0, none⟩) (s * s) (s * s)) ∧ W2.cell? ⟨B4, 2, none⟩ = some (.slice (some ⟨gB, 0, none⟩) s s) := by rw [hW2, hB4]; simp
  have hb02 := hb1.trans (hal.mono hb1.size)
  have HB02 := Lib.hid hb02
  have HR2 := Lib.hid (HR0.out.below hb02)
  have HBW := Lib.hid (HB0.out.trans (hb02.mono HB0.out.size))
  have hsz1 := hb1.size
  have hs0 := HS0.out
  have hgAB : gA ≠ B4 ∧ gB ≠ B4 := by omega
  have hgw : w.heap.size < gA ∧ w.heap.size < gB ∧ w.heap.size < B4 := by omega
  have HK := Lib.hid hk
  have HW2 := Lib.hid hW2
  have HBF := Lib.hid hB4
  have hss : s * s ≤ 9 := Nat.mul_le_mul h3 h3
  have HSS := Lib.hid hss
  obtain ⟨hgA4, hgB4⟩ := hgAB
  obtain ⟨hgA0, hgB0, hB40⟩ := hgw
  clear hA hB hal hk hW2 hb02 hb1 hB4 hlA hlB hsz1 hs0 hss
  go_wp2
  rw [← HW2.out, ← HBF.out]
  go_loopw [31] (fun si wq => ∃ i : Nat, i ≤ s ∧ si = .int .i64 i ∧ OwnI 3 wq (.slice (some ⟨gA, 0, none⟩) (s * s) (s * s)) (midG s i) [gA] ∧ Only [gA] W2 wq) (fun si _ => s - (intOf si).toNat)
  case atStart => exact ⟨0, Nat.zero_le _, rfl, by rw [midG_zero]; exact HA2.out, Only.refl _ _⟩
  case round =>
    obtain ⟨wk, rfl⟩ : ∃ W, W = wr := ⟨_, rfl⟩
    obtain ⟨i, hi, rfl, ho, hon⟩ := hrel
    have hbk : Below w.heap.size w wk := HBW.out.trans (hon.below HBW.out.size (by intro b hb; rw [List.mem_singleton.1 hb]; omega))
    obtain ⟨k0, k1, k2⟩ := HK.out
    have c0 := cell_only hon (by simpa using hgA4.symm) k0
    have c1 := cell_only hon (by simpa using hgA4.symm) k1
    have c2 := cell_only hon (by simpa using hgA4.symm) k2
    have HOB := Lib.hid (ownI_only HB2.out hon (by simpa using hne.symm))
    clear k0 k1 k2
    by_cases hil : i < s
    case neg =>
      obtain rfl : i = s := by omega
      rw [midG_done HH1.out HH3.out] at ho
      have HQB := Lib.hid (fun (W : World) (hW : Below wk.heap.size wk W) => show Calls Tryz.prog 119 #[.slice ad i cap, .func (.func 121) #[] #[]] W (Gives (fun w' v fp => OwnI 3 w' v (solL (powRows (gauN i)) (rgtB i)) fp) W) from
        quadB_any (.slice ad i cap) (gauN i) i W (rdI_mono (hbk.trans (hW.mono hbk.size)) h') (gau_len HH1.out HH3.out) (by omega) (gau_sysB HH1.out HH3.out) (fun k => i64_of_bd (fracZ_bd _ _)))
      rw [gau_wts HH1.out HH3.out] at HQB
      have hbl : (gauB i).length = i := by
        rcases three_of HH1.out HH3.out with rfl | rfl | rfl <;> rfl
      have HBL := Lib.hid hbl
      have HO := Lib.hid ho
      have HON := Lib.hid hon
      have HBK := Lib.hid hbk
      have HQ0 := Lib.hid (HQB.out wk.drew (Below.refl _ _).drew)
      have HSZ := Lib.hid (show (Tryz.prog.info? 3).map (·.size) = some 1 from by kernel_rfl)
      have HMIN := Lib.hid (Nat.min_self i)
      clear ho hon hbk hbl
      go_wp2
      go_region_law (first | (go_simp; go_at_call 119; (with_reducible refine (HQ0.out).mono ?_); rintro e w8 ⟨v8, f8, rfl, ho8, hf8, hb8⟩; obtain ⟨ad8, l8, c8, rfl, hl8, _⟩ := ownI_open ho8; have hl8s : i = l8 := (by rw [← hl8, HBL.out]); subst hl8s; obtain ⟨b9, o9, rfl⟩ : ∃ b o, ad8 = some ⟨b, o, none⟩ := (by { obtain ⟨b, o, x, e, _⟩ := rdI_get (ownI_rd ho8) (k := 0) (by omega); exact ⟨b, o, e⟩ }); have hbx : Below wk.heap.size wk w8 := ((Below.refl wk.heap.size wk).drew).trans hb8; have d0 := cell_below hbx c0; have d1 := cell_below hbx c1; have d2 := cell_below hbx c2; have hoB := ownI_only HOB.out (Only.of_below (fp := []) hbx) (by simp); have hrB := hoB.1; rw [List.length_replicate] at hrB; have HRB := Lib.hid hrB; have HNW := Lib.hid (rdI_news (ownI_rd ho8)); have HI8 := Lib.hid (i64_all (ownI_rd ho8)); have HBX := Lib.hid hbx; clear ho8 hf8 hb8 hl8 hbx hoB hrB) | (refine step_copy_row (o := ⟨some 48, _, _, _, _, _⟩) (by rfl) (.tmp 45) (.tmp 47) 35 35 (by rfl) 3 1 Tryz.underlying35 HSZ.out gB i 0 i i ⟨b9, o9, none⟩ i c8 3 (by rfl) (by rfl) _ HRB.out ((gauB i).map (Value.int .i64)) i HMIN.out (by rw [List.length_map, HBL.out, Nat.mul_one]) HNW.out (by rw [List.length_map, HBL.out]; omega) (by intro u hu; simp only [List.mem_map] at hu; obtain ⟨z, _, rfl⟩ := hu; rfl) ?_; intro w9 hown9 honl9; have f0 := cell_only honl9 (by simpa using hgB4.symm) d0; have f1 := cell_only honl9 (by simpa using hgB4.symm) d1; have f2 := cell_only honl9 (by simpa using hgB4.symm) d2; have HOW := Lib.hid hown9; have HOL := Lib.hid honl9; clear hown9 honl9))
      all_goals (
        obtain ⟨⟨y0, hy0⟩, ⟨y1, hy1⟩, ⟨y2, hy2⟩, hz0, hz1, hz2⟩ := ((HR2.out.only HON.out (by simp; omega)).below HBX.out).only HOL.out (by simp; omega)
        have hne0 : B4 ≠ w.heap.size := by omega
        go_wp2
        refine bodyPost_ret (v := .tuple #[.agg #[.int .i64 (i : Int), .slice (some ⟨gA, 0, none⟩) (i * i) (i * i), .slice (some ⟨gB, 0, none⟩) i i], .bool true]) (by simp [results, Tryz.results52, go_sem, hy0, hy1, hy2]) rfl ?_
        have hOr : Only [w.heap.size] w9 (((w9.setCell ⟨w.heap.size, 0, none⟩ (.int .i64 (i : Int))).setCell ⟨w.heap.size, 1, none⟩ (.slice (some ⟨gA, 0, none⟩) (i * i) (i * i))).setCell ⟨w.heap.size, 2, none⟩ (.slice (some ⟨gB, 0, none⟩) i i)) := (((Only.refl _ _).setCell (by simp) _).setCell (by simp) _).setCell (by simp) _
        have hA9 := ownI_only (ownI_only (ownI_only HO.out (Only.of_below (fp := []) HBX.out) (by simp)) HOL.out (by simpa using hne)) hOr (by simp; omega)
        have hB9 : OwnI 3 w9 (.slice (some ⟨gB, 0, none⟩) i i) (gauB i) [gB] := by
          refine ⟨?_, rfl, HI8.out⟩
          have := HOW.out
          rw [HBL.out]
          simp only [List.take_zero, List.nil_append, List.length_map, HBL.out, Nat.zero_add] at this
          rwa [List.drop_eq_nil_of_le (by simp), List.append_nil] at this
        refine ⟨_, rfl, ⟨_, _, _, _, rfl, ⟨by show (-9223372036854775808 : Int) ≤ (i : Int); omega, by show (i : Int) ≤ 9223372036854775807; omega⟩, hA9, ownI_only hB9 hOr (by simp; omega), by simp; omega, by simp; omega⟩, ?_⟩
        have hw9 : Below w.heap.size w w9 := (HBK.out.trans (HBX.out.mono HBK.out.size)).trans (HOL.out.below (HBK.out.trans (HBX.out.mono HBK.out.size)).size (by intro b hb; rw [List.mem_singleton.1 hb]; omega))
        exact hw9.trans ((hOr.below hw9.size (by intro b hb; rw [List.mem_singleton.1 hb]; exact Nat.le_refl _)).mono (Nat.le_refl _)))
    obtain ⟨bn, on, c, rfl, hc, hcc, hIc, _⟩ := rdI_get (rdI_mono hbk h') (k := i) hil
    have hcz : atZ (gauN s) i = c := atZ_get hc
    obtain ⟨W6, hW6⟩ : ∃ W, W = wk.alloc (.cells #[.int .i64 c] 3) := ⟨_, rfl⟩
    have hb6 : Below wk.heap.size wk W6 := hW6 ▸ (Below.refl _ _).alloc (Nat.le_refl _) _
    have hcc6 : W6.cell? ⟨wk.heap.size, 0, none⟩ = some (.int .i64 c) := by rw [hW6]; simp
    have e0 : (wk.alloc (.cells #[.int .i64 c] 3)).cell? ⟨B4, 0, none⟩ = _ := hW6 ▸ cell_below hb6 c0
    have e1 : (wk.alloc (.cells #[.int .i64 c] 3)).cell? ⟨B4, 1, none⟩ = _ := hW6 ▸ cell_below hb6 c1
    have e2 : (wk.alloc (.cells #[.int .i64 c] 3)).cell? ⟨B4, 2, none⟩ = _ := hW6 ▸ cell_below hb6 c2
    have hBk : B4 < wk.heap.size := World.block_lt_of_cell? _ _ c0
    have hAk : gA < wk.heap.size := ownI_lt ho gA (by simp)
    have HROW := Lib.hid (rowI_any gA 0 (s * s) (s * s) (.slice (some ⟨gB, 0, none⟩) s s) s i (s : Int) (i : Int) W6 rfl rfl (by omega) hil rfl (Nat.le_refl _) (by have := HSS.out; omega) ⟨_, _, _, rfl⟩)
    have HQA := Lib.hid (fun (W : World) (hW : Below W6.heap.size W6 W) => (quadA_any (.slice (some ⟨bn, on, none⟩) s cap) (gauN s) s wk.heap.size c W (rdI_mono (hbk.trans ((hb6.trans (hW.mono hb6.size)).mono hbk.size)) h') (cell_below hW hcc6) (gau_len HH1.out HH3.out) (by omega) (hcz ▸ gau_sysA HH1.out HH3.out hil)))
    have hval : solL (powRows (gauN s)) (rgtA c s) = atL (gauA s) i := hcz ▸ gau_row HH1.out HH3.out hil
    rw [hval] at HQA
    obtain ⟨r1, r2, r3⟩ := gau_rows HH1.out HH3.out hil
    have HO := Lib.hid ho
    have HON := Lib.hid hon
    have HB6 := Lib.hid hb6
    have HW6 := Lib.hid hW6
    have HNX := Lib.hid (midG_next HH1.out HH3.out hil)
    have HR1 := Lib.hid r1
    have HR3 := Lib.hid r3
    clear hc hcz hIc hW6 hb6 hcc6 ho hon hval r1 r2 r3
    go_wp2_with fail
    rw [← HW6.out]
    refine HROW.out.mono ?_
    rintro e w7 ⟨rfl, hb7⟩
    have HB7 := Lib.hid hb7
    have HQ7 := Lib.hid (HQA.out w7 hb7)
    clear hb7
    go_wp2_with fail
    refine HQ7.out.mono ?_
    rintro e w8 ⟨v8, f8, rfl, ho8, hf8, hb8⟩
    obtain ⟨ad8, l8, c8, rfl, hl8, _⟩ := ownI_open ho8
    have hl8s : s = l8 := by rw [← hl8, HR1.out]
    subst hl8s
    have hbx : Below wk.heap.size wk w8 := (HB6.out.trans (HB7.out.mono HB6.out.size)).trans (hb8.mono (HB6.out.trans (HB7.out.mono HB6.out.size)).size)
    have hoA := ownI_only HO.out (Only.of_below (fp := []) hbx) (by simp)
    have hrowA := hoA.1
    rw [HR3.out] at hrowA
    obtain ⟨b9, o9, rfl⟩ : ∃ b o, ad8 = some ⟨b, o, none⟩ := by
      obtain ⟨b, o, x, e, _⟩ := rdI_get (ownI_rd ho8) (k := 0) (by omega)
      exact ⟨b, o, e⟩
    have HNW := Lib.hid (rdI_news (ownI_rd ho8))
    have HRA := Lib.hid hrowA
    have HI8 := Lib.hid (i64_all (ownI_rd ho8))
    have HIA := Lib.hid (i64_all (ownI_rd hoA))
    have HBX := Lib.hid hbx
    have hpi : i * s + s ≤ s * s := by
      have := Nat.mul_le_mul_right s hil
      rw [Nat.succ_mul] at this
      omega
    have HPI := Lib.hid hpi
    have HSZ := Lib.hid (show (Tryz.prog.info? 3).map (·.size) = some 1 from by kernel_rfl)
    clear ho8 hf8 hb8 hl8 hoA hrowA hbx hpi
    go_wp2_with (first | (refine wpList_copy_row (o := ⟨some 42, _, _, _, _, _⟩) rfl (.tmp 38) (.tmp 41) 35 35 rfl 3 1 Tryz.underlying35 HSZ.out gA (s * s) (i * s) s (s * s - i * s) ⟨b9, o9, none⟩ s c8 3 rfl rfl _ HRA.out ((atL (gauA s) i).map (Value.int .i64)) s (Nat.min_self s) (by rw [List.length_map, HR1.out, Nat.mul_one]) HNW.out (by rw [List.length_map, HR1.out, Nat.mul_one]; exact HPI.out) (by intro u hu; simp only [List.mem_map] at hu; obtain ⟨z, _, rfl⟩ := hu; rfl) ?_; intro w9 hown9 honl9))
    have HO9 := Lib.hid (show OwnI 3 w9 (.slice (some ⟨gA, 0, none⟩) (s * s) (s * s)) (midG s (i + 1)) [gA] from by
      have e : (midG s (i + 1)).map (Value.int .i64) = ((midG s i).map (Value.int .i64)).take (i * s) ++ (atL (gauA s) i).map (Value.int .i64) ++ ((midG s i).map (Value.int .i64)).drop (i * s + ((atL (gauA s) i).map (Value.int .i64)).length) := by
        rw [List.length_map, HR1.out, ← HNX.out, List.map_append, List.map_append, List.map_take, List.map_drop]
      refine ⟨?_, rfl, fun x hx => ?_⟩
      · rw [midG_len HH1.out HH3.out (by omega), e]
        exact hown9
      · rw [← HNX.out] at hx
        rcases List.mem_append.1 hx with hx | hx
        · rcases List.mem_append.1 hx with hx | hx
          · exact HIA.out x (List.mem_of_mem_take hx)
          · exact HI8.out x hx
        · exact HIA.out x (List.mem_of_mem_drop hx))
    have HON9 := Lib.hid ((HON.out.trans (Only.of_below HBX.out)).trans honl9)
    clear hown9 honl9
    go_roundw
    case rel => exact ⟨i + 1, by omega, by go_num, HO9.out, HON9.out⟩
    case measure => simp [intOf]; omega
end Go.Proofs.YtbcjhpgkodeoeaaGreatDoor

/- Series in one letter, with integer numbers: products, shifts, derivatives; what is the same modulo the prime. Plain: no program's step stands here. -/
namespace Go.Proofs.YtbcjhpgkodeoeaaGreatDoor

/-- the sum of the first n -/
def sm (f : Nat → Int) : Nat → Int
  | 0 => 0
  | n + 1 => sm f n + f n
theorem sm_congr {f g : Nat → Int} : ∀ {n : Nat}, (∀ i, i < n → f i = g i) → sm f n = sm g n
  | 0, _ => rfl
  | n + 1, h => by rw [sm, sm, sm_congr (fun i hi => h i (by omega)), h n (by omega)]
theorem sm_add (f g : Nat → Int) : ∀ n, sm (fun i => f i + g i) n = sm f n + sm g n
  | 0 => rfl
  | n + 1 => by rw [sm, sm, sm, sm_add f g n]; omega
theorem sm_mul (c : Int) (f : Nat → Int) : ∀ n, sm (fun i => c * f i) n = c * sm f n
  | 0 => by simp [sm]
  | n + 1 => by rw [sm, sm, sm_mul c f n, Int.mul_add]
theorem sm_zero : ∀ n, sm (fun _ => 0) n = 0
  | 0 => rfl
  | n + 1 => by rw [sm, sm_zero n]; rfl
theorem sm_first (f : Nat → Int) : ∀ n, sm f (n + 1) = f 0 + sm (fun i => f (i + 1)) n
  | 0 => by simp [sm]
  | n + 1 => by rw [sm, sm_first f n, sm]; omega
theorem sm_rev : ∀ (f : Nat → Int) (n : Nat), sm (fun i => f (n - i)) (n + 1) = sm f (n + 1)
  | f, 0 => by simp [sm]
  | f, n + 1 => by
    rw [sm_first]
    have h : sm (fun i => f (n + 1 - (i + 1))) (n + 1) = sm (fun i => f (n - i)) (n + 1) := sm_congr fun i _ => by rw [show n + 1 - (i + 1) = n - i by omega]
    rw [h, sm_rev f n, Nat.sub_zero, sm]
    rw [sm, sm]
    omega
theorem sm_tri (F : Nat → Nat → Int) : ∀ n, sm (fun i => sm (fun j => F i j) (i + 1)) n = sm (fun j => sm (fun l => F (j + l) j) (n - j)) n
  | 0 => rfl
  | n + 1 => by
    have h1 : sm (fun j => sm (fun l => F (j + l) j) (n + 1 - j)) (n + 1) = sm (fun j => sm (fun l => F (j + l) j) (n - j) + F n j) (n + 1) := sm_congr fun j hj => by
      rw [show n + 1 - j = (n - j) + 1 by omega, sm, show j + (n - j) = n by omega]
    rw [h1, sm_add]
    have h2 : sm (fun j => sm (fun l => F (j + l) j) (n - j)) (n + 1) = sm (fun j => sm (fun l => F (j + l) j) (n - j)) n := by
      rw [sm, Nat.sub_self, sm]; simp
    rw [h2, ← sm_tri F n, sm]
theorem sm_swap (F : Nat → Nat → Int) (n : Nat) : ∀ m, sm (fun i => sm (fun j => F i j) n) m = sm (fun j => sm (fun i => F i j) m) n
  | 0 => by simp only [sm]; rw [sm_zero]
  | m + 1 => by
    rw [sm, sm_swap F n m, ← sm_add]
    rfl

abbrev Ser := Nat → Int
/-- the product -/
def cv (a b : Ser) : Ser := fun k => sm (fun i => a i * b (k - i)) (k + 1)
theorem cv_comm (a b : Ser) : cv a b = cv b a := by
  funext k
  unfold cv
  rw [← sm_rev]
  refine sm_congr fun i hi => ?_
  rw [show k - (k - i) = i by omega, Int.mul_comm]
theorem cv_assoc (a b c : Ser) : cv (cv a b) c = cv a (cv b c) := by
  funext k
  unfold cv
  have h1 : sm (fun i => sm (fun i_1 => a i_1 * b (i - i_1)) (i + 1) * c (k - i)) (k + 1) = sm (fun i => sm (fun j => a j * b (i - j) * c (k - i)) (i + 1)) (k + 1) := sm_congr fun i _ => by
    rw [Int.mul_comm, ← sm_mul]
    exact sm_congr fun j _ => by rw [Int.mul_comm]
  rw [h1, sm_tri]
  refine sm_congr fun j hj => ?_
  rw [← sm_mul, show k + 1 - j = k - j + 1 by omega]
  refine sm_congr fun l _ => ?_
  rw [show j + l - j = l by omega, show k - (j + l) = k - j - l by omega, Int.mul_assoc]
def ad (a b : Ser) : Ser := fun k => a k + b k
def sc (c : Int) (a : Ser) : Ser := fun k => c * a k
def ze : Ser := fun _ => 0
def on (c : Int) : Ser := fun k => if k = 0 then c else 0
theorem cv_ad (a b c : Ser) : cv a (ad b c) = ad (cv a b) (cv a c) := by
  funext k
  unfold cv ad
  rw [← sm_add]
  exact sm_congr fun i _ => by rw [Int.mul_add]
theorem cv_sc (d : Int) (a b : Ser) : cv a (sc d b) = sc d (cv a b) := by
  funext k
  unfold cv sc
  rw [← sm_mul]
  exact sm_congr fun i _ => by rw [← Int.mul_assoc, Int.mul_comm (a i), Int.mul_assoc]
theorem ad_cv (a b c : Ser) : cv (ad a b) c = ad (cv a c) (cv b c) := by rw [cv_comm, cv_ad, cv_comm c a, cv_comm c b]
theorem sc_cv (d : Int) (a b : Ser) : cv (sc d a) b = sc d (cv a b) := by rw [cv_comm, cv_sc, cv_comm]
theorem cv_on (c : Int) (a : Ser) : cv (on c) a = sc c a := by
  funext k
  unfold cv sc
  rw [sm_first]
  have : sm (fun i => on c (i + 1) * a (k - (i + 1))) k = sm (fun _ => 0) k := sm_congr fun i _ => by simp [on]
  rw [this, sm_zero]
  simp [on]
theorem cv_ze (a : Ser) : cv ze a = ze := by
  funext k
  unfold cv
  have : sm (fun i => ze i * a (k - i)) (k + 1) = sm (fun _ => 0) (k + 1) := sm_congr fun i _ => by simp [ze]
  rw [this, sm_zero]
  rfl
/-- times the letter -/
def sh (a : Ser) : Ser := fun k => if k = 0 then 0 else a (k - 1)
theorem cv_sh (a b : Ser) : cv (sh a) b = sh (cv a b) := by
  funext k
  cases k with
  | zero => simp [cv, sm, sh]
  | succ k =>
    show sm _ (k + 1 + 1) = sm _ (k + 1)
    rw [sm_first]
    have : sm (fun i => sh a (i + 1) * b (k + 1 - (i + 1))) (k + 1) = sm (fun i => a i * b (k - i)) (k + 1) := sm_congr fun i _ => by
      rw [show k + 1 - (i + 1) = k - i by omega]; rfl
    rw [this]
    simp [sh]
theorem sh_cv (a b : Ser) : cv b (sh a) = sh (cv b a) := by rw [cv_comm, cv_sh, cv_comm]
/-- the derivative -/
def dt (a : Ser) : Ser := fun k => ((k : Int) + 1) * a (k + 1)
theorem dt_ad (a b : Ser) : dt (ad a b) = ad (dt a) (dt b) := by funext k; simp only [dt, ad, Int.mul_add]
theorem dt_sc (c : Int) (a : Ser) : dt (sc c a) = sc c (dt a) := by
  funext k
  simp only [dt, sc]
  rw [← Int.mul_assoc, Int.mul_comm _ c, Int.mul_assoc]
theorem dt_on (c : Int) : dt (on c) = ze := by funext k; simp [dt, on, ze]
theorem dt_cv (a b : Ser) : dt (cv a b) = ad (cv (dt a) b) (cv a (dt b)) := by
  funext k
  show ((k : Int) + 1) * sm (fun i => a i * b (k + 1 - i)) (k + 1 + 1) = sm (fun i => dt a i * b (k - i)) (k + 1) + sm (fun i => a i * dt b (k - i)) (k + 1)
  rw [← sm_mul]
  have h1 : sm (fun i => ((k : Int) + 1) * (a i * b (k + 1 - i))) (k + 1 + 1) = sm (fun i => (i : Int) * (a i * b (k + 1 - i)) + ((k : Int) + 1 - i) * (a i * b (k + 1 - i))) (k + 1 + 1) := sm_congr fun i _ => by
    rw [← Int.add_mul]
    congr 1
    omega
  rw [h1, sm_add]
  have h2 : sm (fun i => (i : Int) * (a i * b (k + 1 - i))) (k + 1 + 1) = sm (fun i => dt a i * b (k - i)) (k + 1) := by
    rw [sm_first]
    simp only [Int.natCast_zero, Int.zero_mul, Int.zero_add]
    refine sm_congr fun i _ => ?_
    rw [show k + 1 - (i + 1) = k - i by omega, dt, Int.mul_assoc]
    rfl
  have h3 : sm (fun i => ((k : Int) + 1 - i) * (a i * b (k + 1 - i))) (k + 1 + 1) = sm (fun i => a i * dt b (k - i)) (k + 1) := by
    rw [sm]
    have : ((k : Int) + 1 - ((k + 1 : Nat) : Int)) = 0 := by omega
    rw [this, Int.zero_mul, Int.add_zero]
    refine sm_congr fun i hi => ?_
    rw [dt, show k + 1 - i = k - i + 1 by omega]
    have : ((k : Int) + 1 - i) = (((k - i : Nat) : Int) + 1) := by omega
    rw [this]
    grind
  rw [h2, h3]

/-- the same modulo the prime, up to a power -/
def Sm (N : Nat) (a b : Ser) : Prop := ∀ k, k < N → resZ (a k) = resZ (b k)
theorem Sm.refl {N : Nat} (a : Ser) : Sm N a a := fun _ _ => rfl
theorem Sm.of_eq {N : Nat} {a b : Ser} (h : a = b) : Sm N a b := h ▸ Sm.refl a
theorem Sm.symm {N : Nat} {a b : Ser} (h : Sm N a b) : Sm N b a := fun k hk => (h k hk).symm
theorem Sm.trans {N : Nat} {a b c : Ser} (h : Sm N a b) (g : Sm N b c) : Sm N a c := fun k hk => (h k hk).trans (g k hk)
theorem Sm.le {N M : Nat} {a b : Ser} (h : Sm N a b) (hm : M ≤ N) : Sm M a b := fun k hk => h k (by omega)
theorem Sm.ad {N : Nat} {a b c d : Ser} (h : Sm N a b) (g : Sm N c d) : Sm N (ad a c) (ad b d) := fun k hk => res_add (h k hk) (g k hk)
theorem Sm.sc {N : Nat} {a b : Ser} (c : Int) (h : Sm N a b) : Sm N (sc c a) (sc c b) := fun k hk => res_mul (h k hk)
theorem res_sm {f g : Nat → Int} : ∀ {n : Nat}, (∀ i, i < n → resZ (f i) = resZ (g i)) → resZ (sm f n) = resZ (sm g n)
  | 0, _ => rfl
  | n + 1, h => res_add (res_sm fun i hi => h i (by omega)) (h n (by omega))
theorem Sm.cv {N : Nat} {a b c d : Ser} (h : Sm N a b) (g : Sm N c d) : Sm N (cv a c) (cv b d) := fun k hk => res_sm fun i hi => res_mul2 (h i (by omega)) (g (k - i) (by omega))
theorem Sm.sh {N : Nat} {a b : Ser} (h : Sm N a b) : Sm (N + 1) (sh a) (sh b) := fun k hk => by
  unfold Go.Proofs.YtbcjhpgkodeoeaaGreatDoor.sh
  split
  · rfl
  · exact h (k - 1) (by omega)
theorem Sm.dt {N : Nat} {a b : Ser} (h : Sm (N + 1) a b) : Sm N (dt a) (dt b) := fun k hk => res_mul (h (k + 1) (by omega))

/-- Vectors of series, and a form of two of them: a sum of products of coordinates. -/
abbrev Vec := Nat → Ser
abbrev Frm := List (Int × Nat × Nat)
def bil (L : Frm) (x y : Vec) : Ser := fun k => sumZ (fun q => q.1 * cv (x q.2.1) (y q.2.2) k) L
def vad (x y : Vec) : Vec := fun i => ad (x i) (y i)
def vsc (c : Int) (x : Vec) : Vec := fun i => sc c (x i)
def vsh (x : Vec) : Vec := fun i => sh (x i)
def VSm (N : Nat) (x y : Vec) : Prop := ∀ i, Sm N (x i) (y i)
theorem bil_ad (L : Frm) (x y z : Vec) : bil L x (vad y z) = ad (bil L x y) (bil L x z) := by
  funext k
  unfold bil
  show _ = sumZ _ L + sumZ _ L
  rw [← sumZ_add]
  refine sumZ_congr fun q _ => ?_
  unfold vad
  rw [cv_ad]
  exact Int.mul_add _ _ _
theorem ad_bil (L : Frm) (x y z : Vec) : bil L (vad x y) z = ad (bil L x z) (bil L y z) := by
  funext k
  unfold bil
  show _ = sumZ _ L + sumZ _ L
  rw [← sumZ_add]
  refine sumZ_congr fun q _ => ?_
  unfold vad
  rw [ad_cv]
  exact Int.mul_add _ _ _
theorem bil_sc (L : Frm) (c : Int) (x y : Vec) : bil L x (vsc c y) = sc c (bil L x y) := by
  funext k
  unfold bil
  show _ = c * sumZ _ L
  rw [← sumZ_mul]
  refine sumZ_congr fun q _ => ?_
  unfold vsc
  rw [cv_sc]
  show q.1 * (c * _) = c * (q.1 * _)
  grind
theorem sc_bil (L : Frm) (c : Int) (x y : Vec) : bil L (vsc c x) y = sc c (bil L x y) := by
  funext k
  unfold bil
  show _ = c * sumZ _ L
  rw [← sumZ_mul]
  refine sumZ_congr fun q _ => ?_
  unfold vsc
  rw [sc_cv]
  show q.1 * (c * _) = c * (q.1 * _)
  grind
theorem sh_sum {α : Type} (f : α → Ser) (L : List α) : (fun k => sumZ (fun q => sh (f q) k) L) = sh (fun k => sumZ (fun q => f q k) L) := by
  funext k
  unfold sh
  split
  · exact sumZ_zero _
  · rfl
theorem bil_sh (L : Frm) (x y : Vec) : bil L x (vsh y) = sh (bil L x y) := by
  unfold bil
  rw [← sh_sum]
  funext k
  refine sumZ_congr fun q _ => ?_
  unfold vsh
  rw [sh_cv]
  unfold sh
  split <;> simp
theorem vsh_bil (L : Frm) (x y : Vec) : bil L (vsh x) y = sh (bil L x y) := by
  unfold bil
  rw [← sh_sum]
  funext k
  refine sumZ_congr fun q _ => ?_
  unfold vsh
  rw [cv_sh]
  unfold sh
  split <;> simp
theorem VSm.bil {N : Nat} (L : Frm) {x y z w : Vec} (h : VSm N x y) (g : VSm N z w) : Sm N (bil L x z) (bil L y w) := fun k hk => res_sum fun q _ => res_mul ((h q.2.1).cv (g q.2.2) k hk)
end Go.Proofs.YtbcjhpgkodeoeaaGreatDoor

/- A form of two stepped vectors is that of the two before: steps of several stages with a symplectic tableau, and solutions of differential equations. Plain: no program's step stands here. -/
namespace Go.Proofs.YtbcjhpgkodeoeaaGreatDoor

/-- a vector moved by some stages: z + h (c 0 F 0 + c 1 F 1 + ..) -/
def stg (z : Vec) (c : Nat → Int) (F : Nat → Vec) : Nat → Vec
  | 0 => z
  | n + 1 => vad (stg z c F n) (vsc (c n) (vsh (F n)))
theorem stg_bil (L : Frm) (z y : Vec) (c : Nat → Int) (F : Nat → Vec) (k : Nat) : ∀ n, bil L (stg z c F n) y k = bil L z y k + sm (fun j => c j * sh (bil L (F j) y) k) n
  | 0 => by simp [stg, sm]
  | n + 1 => by
    rw [stg, ad_bil, sc_bil, vsh_bil, sm]
    show bil L (stg z c F n) y k + c n * sh (bil L (F n) y) k = _
    rw [stg_bil L z y c F k n]
    omega
theorem bil_stg (L : Frm) (z y : Vec) (c : Nat → Int) (F : Nat → Vec) (k : Nat) : ∀ n, bil L y (stg z c F n) k = bil L y z k + sm (fun j => c j * sh (bil L y (F j)) k) n
  | 0 => by simp [stg, sm]
  | n + 1 => by
    rw [stg, bil_ad, bil_sc, bil_sh, sm]
    show bil L y (stg z c F n) k + c n * sh (bil L y (F n)) k = _
    rw [bil_stg L z y c F k n]
    omega
theorem sm_sub (f g : Nat → Int) (n : Nat) : sm (fun i => f i - g i) n = sm f n - sm g n := by
  have h := sm_add f (fun i => (-1) * g i) n
  rw [sm_mul] at h
  have : sm (fun i => f i - g i) n = sm (fun i => f i + -1 * g i) n := sm_congr fun i _ => by omega
  rw [this, h]
  omega
theorem rk_core (b : Nat → Int) (a X : Nat → Nat → Int) (P Q : Nat → Int) (n : Nat) :
    sm (fun j => b j * (P j - sm (fun i => a j i * X i j) n)) n + sm (fun i => b i * ((Q i - sm (fun j => a i j * X i j) n) + sm (fun j => b j * X i j) n)) n
    = sm (fun i => b i * (P i + Q i)) n + sm (fun i => sm (fun j => (b i * b j - (b i * a i j + b j * a j i)) * X i j) n) n := by
  have h1 : sm (fun j => b j * (P j - sm (fun i => a j i * X i j) n)) n = sm (fun j => b j * P j) n - sm (fun j => sm (fun i => b j * a j i * X i j) n) n := by
    rw [← sm_sub]
    refine sm_congr fun j _ => ?_
    rw [Int.mul_sub, ← sm_mul]
    congr 1
    exact sm_congr fun i _ => by rw [Int.mul_assoc]
  have h2 : sm (fun i => b i * ((Q i - sm (fun j => a i j * X i j) n) + sm (fun j => b j * X i j) n)) n = sm (fun i => b i * Q i) n - sm (fun i => sm (fun j => b i * a i j * X i j) n) n + sm (fun i => sm (fun j => b i * b j * X i j) n) n := by
    rw [← sm_sub, ← sm_add]
    refine sm_congr fun i _ => ?_
    rw [Int.mul_add, Int.mul_sub, ← sm_mul, ← sm_mul]
    congr 1
    · congr 1
      exact sm_congr fun j _ => by rw [Int.mul_assoc]
    · exact sm_congr fun j _ => by rw [Int.mul_assoc]
  have h3 : sm (fun i => b i * (P i + Q i)) n = sm (fun i => b i * P i) n + sm (fun i => b i * Q i) n := by
    rw [← sm_add]
    exact sm_congr fun i _ => by rw [Int.mul_add]
  have h4 : sm (fun i => sm (fun j => (b i * b j - (b i * a i j + b j * a j i)) * X i j) n) n = sm (fun i => sm (fun j => b i * b j * X i j) n) n - sm (fun i => sm (fun j => b i * a i j * X i j) n) n - sm (fun i => sm (fun j => b j * a j i * X i j) n) n := by
    rw [← sm_sub, ← sm_sub]
    refine sm_congr fun i _ => ?_
    rw [← sm_sub, ← sm_sub]
    exact sm_congr fun j _ => by grind
  rw [h1, h2, h3, h4, sm_swap (fun i j => b j * a j i * X i j)]
  omega

theorem res_sm_zero {f : Nat → Int} {n : Nat} (h : ∀ i, i < n → resZ (f i) = 0) : resZ (sm f n) = 0 := by
  have := res_sm (f := f) (g := fun _ => 0) (n := n) (fun i hi => by rw [h i hi]; rfl)
  rw [this, sm_zero]
  rfl
/-- Steps with b i a i j + b j a j i = b i b j. -/
theorem rk_form {N st : Nat} {L : Frm} {z w : Vec} {a : Nat → Nat → Int} {b : Nat → Int} {F G Z W : Nat → Vec}
    (hZ : ∀ i, i < st → VSm N (Z i) (stg z (a i) F st)) (hW : ∀ i, i < st → VSm N (W i) (stg w (a i) G st))
    (hB : ∀ i, i < st → Sm N (ad (bil L (F i) (W i)) (bil L (Z i) (G i))) ze)
    (hs : ∀ i j, i < st → j < st → resZ (b i * a i j + b j * a j i) = resZ (b i * b j)) :
    Sm (N + 1) (bil L (stg z b F st) (stg w b G st)) (bil L z w) := by
  intro k hk
  rw [stg_bil, bil_stg]
  cases k with
  | zero =>
    have h1 : sm (fun j => b j * sh (bil L z (G j)) 0) st = 0 := by
      rw [← sm_zero st]
      exact sm_congr fun j _ => by simp [sh]
    have h2 : sm (fun j => b j * sh (bil L (F j) (stg w b G st)) 0) st = 0 := by
      rw [← sm_zero st]
      exact sm_congr fun j _ => by simp [sh]
    rw [h1, h2]
    simp
  | succ m =>
    have hm : m < N := by omega
    have e1 : sm (fun j => b j * sh (bil L z (G j)) (m + 1)) st = sm (fun j => b j * bil L z (G j) m) st := sm_congr fun j _ => by simp [sh]
    have e2 : sm (fun i => b i * sh (bil L (F i) (stg w b G st)) (m + 1)) st = sm (fun i => b i * (bil L (F i) w m + sm (fun j => b j * sh (bil L (F i) (G j)) m) st)) st := sm_congr fun i _ => by
      have : sh (bil L (F i) (stg w b G st)) (m + 1) = bil L (F i) (stg w b G st) m := by simp [sh]
      rw [this, bil_stg]
    rw [e1, e2]
    have hP : ∀ j, j < st → resZ (bil L z (G j) m) = resZ (bil L (Z j) (G j) m - sm (fun i => a j i * sh (bil L (F i) (G j)) m) st) := fun j hj => by
      have h := VSm.bil L (hZ j hj) (z := G j) (w := G j) (fun i => Sm.refl _) m hm
      rw [stg_bil] at h
      unfold resZ at h ⊢
      omega
    have hQ : ∀ i, i < st → resZ (bil L (F i) w m) = resZ (bil L (F i) (W i) m - sm (fun j => a i j * sh (bil L (F i) (G j)) m) st) := fun i hi => by
      have h := VSm.bil L (x := F i) (y := F i) (fun i => Sm.refl _) (hW i hi) m hm
      rw [bil_stg] at h
      unfold resZ at h ⊢
      omega
    have hT : resZ (bil L z w (m + 1) + sm (fun j => b j * bil L z (G j) m) st + sm (fun i => b i * (bil L (F i) w m + sm (fun j => b j * sh (bil L (F i) (G j)) m) st)) st)
        = resZ (bil L z w (m + 1) + sm (fun j => b j * (bil L (Z j) (G j) m - sm (fun i => a j i * sh (bil L (F i) (G j)) m) st)) st + sm (fun i => b i * (bil L (F i) (W i) m - sm (fun j => a i j * sh (bil L (F i) (G j)) m) st + sm (fun j => b j * sh (bil L (F i) (G j)) m) st)) st) :=
      res_add (res_add rfl (res_sm fun j hj => res_mul (hP j hj))) (res_sm fun i hi => res_mul (res_add (hQ i hi) rfl))
    rw [hT, Int.add_assoc, rk_core b a (fun i j => sh (bil L (F i) (G j)) m) (fun j => bil L (Z j) (G j) m) (fun i => bil L (F i) (W i) m) st]
    have z1 : resZ (sm (fun i => b i * (bil L (Z i) (G i) m + bil L (F i) (W i) m)) st) = 0 := res_sm_zero fun i hi => by
      have h := hB i hi m hm
      have : resZ (bil L (Z i) (G i) m + bil L (F i) (W i) m) = resZ 0 := by
        rw [Int.add_comm]
        exact h
      rw [res_mul this]
      simp [resZ]
    have z2 : resZ (sm (fun i => sm (fun j => (b i * b j - (b i * a i j + b j * a j i)) * sh (bil L (F i) (G j)) m) st) st) = 0 := res_sm_zero fun i hi => res_sm_zero fun j hj => by
      have h : resZ (b i * b j - (b i * a i j + b j * a j i)) = resZ 0 := by
        have := hs i j hi hj
        unfold resZ at this ⊢
        omega
      rw [res_mul2 h rfl]
      simp [resZ]
    unfold resZ at z1 z2 ⊢
    omega

theorem res_unit {k : Nat} {v : Int} (h1 : 1 ≤ k) (h2 : k ≤ 1000000270) (h : resZ ((k : Int) * v) = 0) : resZ v = 0 := by
  have hu := inv_one (a := (k : Int)) (by omega)
  have e : resZ ((k : Int) * powZ (k : Int) 1000000269) = 1 := hu
  have h3 : resZ (((k : Int) * powZ (k : Int) 1000000269) * v) = resZ (1 * v) := res_mul2 (by rw [e]; rfl) rfl
  rw [Int.one_mul] at h3
  rw [← h3]
  have h4 : ((k : Int) * powZ (k : Int) 1000000269) * v = powZ (k : Int) 1000000269 * ((k : Int) * v) := by grind
  rw [h4, res_mul (b := 0) (by rw [h]; rfl)]
  simp [resZ]
/-- A series whose derivative is nothing is a number. -/
theorem flow_const {N : Nat} {x : Ser} (h : Sm N (dt x) ze) (hN : N ≤ 1000000270) : ∀ k, 1 ≤ k → k ≤ N → resZ (x k) = 0 := by
  intro k h1 h2
  obtain ⟨m, rfl⟩ : ∃ m, k = m + 1 := ⟨k - 1, by omega⟩
  refine res_unit (k := m + 1) h1 (by omega) ?_
  exact h m (by omega)
end Go.Proofs.YtbcjhpgkodeoeaaGreatDoor
