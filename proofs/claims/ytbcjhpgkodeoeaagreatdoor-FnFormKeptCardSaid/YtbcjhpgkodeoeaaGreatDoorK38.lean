/- The texts ColI, DrwE in one: each says at its head what it proves. Conditions: as said there. -/
import Derived.Deep.RegionLaw
import Derived.Deep.Cut
import Derived.Deep.CutRange
import Derived.Test.YtbcjhpgkodeoeaaGreatDoorK37
import Derived.Test.YtbcjhpgkodeoeaaGreatDoorK04
import Derived.Test.YtbcjhpgkodeoeaaGreatDoorK17
import Derived.Test.YtbcjhpgkodeoeaaGreatDoorK12
import Derived.Test.YtbcjhpgkodeoeaaGreatDoorK18
import Derived.Test.YtbcjhpgkodeoeaaGreatDoorK03
import Derived.Test.YtbcjhpgkodeoeaaGreatDoorK31
set_option linter.unusedSimpArgs false
set_option linter.unusedVariables false
/- The program's CollocationTableau at Gauss's nodes. Conditions: one to three nodes. -/
namespace Go.Proofs.YtbcjhpgkodeoeaaGreatDoor
open Go.RowKit Go.Sort

theorem mk_rowG (n : Nat) (nz : Int) (hz : nz = n) (h7 : n ≤ 100) : ∀ w : World, (Instr.makeSlice 35 (.int .i64 nz) (.int .i64 nz)).run Tryz.prog w = .ok (.slice (some ⟨w.heap.size, 0, none⟩) n n) (w.alloc (.cells (Array.replicate n (.int .i64 0)) 3)) := by
  intro w
  subst hz
  obtain ⟨i0, hi, hz0, hz1, hz2⟩ := info_parts Tryz.info_int
  have hr := run_make (P := Tryz.prog) w 35 3 i0 (.int .i64 0) Tryz.underlying35 hi hz0 .i64 .i64 n n (by omega) (Int.le_refl _) (by rw [hz2]; omega) (by omega)
  simp only [Int.toNat_natCast] at hr
  rw [hr]
  have hm : madeCells (Value.int .i64 0).cells (n * i0.size) = Array.replicate n (Value.int .i64 0) := by
    rw [hz1, Nat.mul_one]
    exact Array.toList_inj.1 ((toList_madeCells_one _ _).trans (by simp))
  rw [hm]
theorem zeros_row (w : World) {n : Nat} (h7 : n ≤ 100) : OwnI 3 (w.alloc (.cells (Array.replicate n (.int .i64 0)) 3)) (.slice (some ⟨w.heap.size, 0, none⟩) n n) (List.replicate n 0) [w.heap.size] := by
  refine ⟨⟨by simp, .inr ⟨w.heap.size, n, Array.replicate n (.int .i64 0), by simp, Nat.zero_le _, heap_alloc_new w _, by simp, by unfold maxLen; omega, by simp, by simp⟩⟩, rfl, fun x hx => ?_⟩
  rw [List.mem_replicate] at hx
  rw [hx.2]
  exact ⟨by decide, by decide⟩
/-- An empty tableau: its rows lie in blocks of their own. -/
def EmptyT (n : Nat) (w : World) : Ending → World → Prop := fun e w' => ∃ gA gB : Nat, e = .returned (.agg #[.int .i64 (n : Int), .slice (some ⟨gA, 0, none⟩) (n * n) (n * n), .slice (some ⟨gB, 0, none⟩) n n]) ∧
  OwnI 3 w' (.slice (some ⟨gA, 0, none⟩) (n * n) (n * n)) (List.replicate (n * n) 0) [gA] ∧ OwnI 3 w' (.slice (some ⟨gB, 0, none⟩) n n) (List.replicate n 0) [gB] ∧ gA ≠ gB ∧ w.heap.size ≤ gA ∧ w.heap.size ≤ gB ∧ Below w.heap.size w w'
set_option maxRecDepth 100000 in
set_option maxHeartbeats 3200000 in
theorem empty_any (n : Nat) (nz : Int) (hnz : nz = n) (hn : n ≤ 8) (w : World) : Calls Tryz.prog 113 #[.int .i64 nz] w (EmptyT n w) := by
  have hsq : (n : Int) * n = ((n * n : Nat) : Int) := by rw [Int.natCast_mul]
  have hsq64 : n * n ≤ 64 := Nat.mul_le_mul hn hn
  obtain ⟨N, hN⟩ : ∃ N, N = n * n := ⟨_, rfl⟩
  obtain ⟨Nz, hNz⟩ : ∃ z : Int, nz * nz = z := ⟨_, rfl⟩
  have hNn : Nz = (N : Int) := by rw [← hNz, hnz, hsq, hN]
  have hwq : IntKind.i64.wrap (nz * nz) = Nz := by rw [hNz]; exact IntWalk.i64_in _ (by omega)
  have hmk1 := mk_rowG N Nz hNn (by omega)
  have hmk2 := mk_rowG n nz hnz (by omega)
  have hs0 : ∀ C : Obj, (w.alloc C).heap.size = w.heap.size + 1 := fun C => by simp
  have hsA : ∀ C o : Obj, ((w.alloc C).alloc o).heap.size = w.heap.size + 1 + 1 := fun C o => by simp
  have hbA : ∀ C o o' : Obj, Below w.heap.size w (((w.alloc C).alloc o).alloc o').drew := fun C o o' =>
    ((((Below.refl w.heap.size w).alloc (Nat.le_refl _) _).alloc (by simp) _).alloc (by simp; omega) _).drew
  have hal : ∀ (W : World) (o : Obj), Below W.heap.size W (W.alloc o) := fun W o => (Below.refl _ _).alloc (Nat.le_refl _) _
  have hdr : ∀ (W : World), Below W.heap.size W W.drew := fun W => (Below.refl _ _).drew
  have H1 := Lib.hid (fun C : Obj => show EmptyT n w (.returned (.agg #[.int .i64 nz, .slice (some ⟨w.heap.size + 1, 0, none⟩) N N, .slice (some ⟨w.heap.size + 1 + 1, 0, none⟩) n n])) (((w.alloc C).alloc (.cells (Array.replicate N (.int .i64 0)) 3)).alloc (.cells (Array.replicate n (.int .i64 0)) 3)).drew from by
    have hz := zeros_row (n := N) (w.alloc C) (by omega)
    have hz3 := zeros_row (n := n) ((w.alloc C).alloc (.cells (Array.replicate N (.int .i64 0)) 3)) (by omega)
    rw [hs0] at hz
    rw [hsA] at hz3
    have hb := hbA C (.cells (Array.replicate N (.int .i64 0)) 3) (.cells (Array.replicate n (.int .i64 0)) 3)
    have hz' := ownI_only (ownI_only hz (Only.of_below (fp := []) (hal _ (.cells (Array.replicate n (.int .i64 0)) 3))) (by simp)) (Only.of_below (fp := []) (hdr _)) (by simp)
    have hz3' := ownI_only hz3 (Only.of_below (fp := []) (hdr _)) (by simp)
    subst hnz
    rw [hN] at hz' hz3' hb ⊢
    exact ⟨_, _, rfl, hz', hz3', by omega, by omega, by omega, hb⟩)
  have H2 := Lib.hid (fun C : Obj => show EmptyT n w (.returned (.agg #[.int .i64 nz, .slice (some ⟨w.heap.size + 1 + 1, 0, none⟩) N N, .slice (some ⟨w.heap.size + 1, 0, none⟩) n n])) (((w.alloc C).alloc (.cells (Array.replicate n (.int .i64 0)) 3)).alloc (.cells (Array.replicate N (.int .i64 0)) 3)).drew from by
    have hz := zeros_row (n := n) (w.alloc C) (by omega)
    have hz3 := zeros_row (n := N) ((w.alloc C).alloc (.cells (Array.replicate n (.int .i64 0)) 3)) (by omega)
    rw [hs0] at hz
    rw [hsA] at hz3
    have hb := hbA C (.cells (Array.replicate n (.int .i64 0)) 3) (.cells (Array.replicate N (.int .i64 0)) 3)
    have hz' := ownI_only (ownI_only hz (Only.of_below (fp := []) (hal _ (.cells (Array.replicate N (.int .i64 0)) 3))) (by simp)) (Only.of_below (fp := []) (hdr _)) (by simp)
    have hz3' := ownI_only hz3 (Only.of_below (fp := []) (hdr _)) (by simp)
    subst hnz
    rw [hN] at hz' hz3' hb ⊢
    exact ⟨_, _, rfl, hz3', hz', by omega, by omega, by omega, hb⟩)
  clear hs0 hsA hbA hal hdr hsq hsq64 hN hNz hNn hnz
  go_enter Tryz.func113, Tryz.ntmps113
  go_wp2
  go_region_law (fail)
  · go_wp2
    refine bodyPost_ret (v := .agg #[.int .i64 nz, .slice (some ⟨w.heap.size + 1, 0, none⟩) N N, .slice (some ⟨w.heap.size + 1 + 1, 0, none⟩) n n]) (by simp [results, Tryz.results113, go_sem]) rfl ?_
    exact H1.out _
  · go_wp2
    refine bodyPost_ret (v := .agg #[.int .i64 nz, .slice (some ⟨w.heap.size + 1 + 1, 0, none⟩) N N, .slice (some ⟨w.heap.size + 1, 0, none⟩) n n]) (by simp [results, Tryz.results113, go_sem]) rfl ?_
    exact H2.out _
set_option maxRecDepth 100000 in
set_option maxHeartbeats 1600000 in
theorem rowI_any (b off len cap : Nat) (vB : Value) (n i : Nat) (nz iz : Int) (w : World) (hnz : nz = (n : Int)) (hiz : iz = (i : Int)) (hn8 : n ≤ 8) (hi : i < n) (hlen : len = n * n) (hlc : len ≤ cap) (hcm : cap ≤ 9223372036854775807) (hvB : ∃ ad l c, vB = .slice ad l c) :
    Calls Tryz.prog 118 #[.agg #[.int .i64 nz, .slice (some ⟨b, off, none⟩) len cap, vB], .int .i64 iz] w fun e w' => e = .returned (.slice (some ⟨b, off + i * n, none⟩) n (cap - i * n)) ∧ Below w.heap.size w w' := by
  subst hlen hnz hiz
  obtain ⟨adb, lb, cb, rfl⟩ := hvB
  obtain ⟨p0, p1, p2, p3, p4, p5, p7⟩ := row_bd hi hn8
  have hb0 : Below w.heap.size w (w.alloc (.cells #[.int .i64 (n : Int), .slice (some ⟨b, off, none⟩) (n * n) cap, .slice adb lb cb] 37)) := (Below.refl _ _).alloc (Nat.le_refl _) _
  have q1 : (i : Int) * n + n ≤ cap := by omega
  have q2 : (i : Int) * n ≤ (i : Int) * n + n := by omega
  have q3 : ((i : Int) * n + n).toNat = i * n + n := by omega
  have q4 : 0 ≤ (i : Int) * n + n := by omega
  have q5 : ¬ cap - i * n = 0 := by omega
  have q6 : (i : Int) * n + n ≤ 72 := by omega
  have HB := Lib.hid hb0
  clear hb0 p7 p4 p5
  go_enter Tryz.func118, Tryz.ntmps118
  go_wp2
  go_ret
  exact ⟨rfl, HB.out⟩
end Go.Proofs.YtbcjhpgkodeoeaaGreatDoor

/- A drawn polynomial and two still starts with the same base. Conditions: none. -/
namespace Go.Proofs.YtbcjhpgkodeoeaaGreatDoor
open Go.RowKit Go.Sort

/-- One row: its blocks, and what another row in its block is. -/
theorem ownII_one {e1 e n : Nat} {w : World} {v : Value} {x : List Int} {fp : List Nat} (h : OwnII e1 e w v [x] fp) (hn : x.length = n) (h0 : 0 < n) :
    ∃ gp cap gx cx, v = .slice (some ⟨gp, 0, none⟩) 1 cap ∧ w.cell? ⟨gp, 0, none⟩ = some (.slice (some ⟨gx, 0, none⟩) n cx) ∧ w.ownsRow 0 e 1 (.slice (some ⟨gx, 0, none⟩) n cx) n (x.map (Value.int .i64)) ∧ (∀ z ∈ x, I64 z) ∧ n ≤ cx ∧ fp = [gp, gx] ∧ gp ≠ gx ∧ 1 ≤ cap ∧
      ∀ (w' : World) (y : List Int), Only [gx] w w' → w'.ownsRow 0 e 1 (.slice (some ⟨gx, 0, none⟩) n cx) n (y.map (Value.int .i64)) → y.length = n → (∀ z ∈ y, I64 z) → OwnII e1 e w' v [y] fp := by
  subst hn
  obtain ⟨us, fs, hown, hone, hels, hfp, hnd⟩ := h
  obtain ⟨u, us', rfl⟩ : ∃ u us', us = u :: us' := by
    cases us with
    | nil => exact absurd hels id
    | cons u us' => exact ⟨u, us', rfl⟩
  obtain ⟨f, fs', rfl, ⟨p, rfl, hp⟩, hrest⟩ := hels
  obtain ⟨rfl, rfl⟩ : us' = [] ∧ fs' = [] := by
    cases us' with
    | nil => exact ⟨rfl, hrest⟩
    | cons _ _ => exact absurd hrest id
  obtain ⟨ad, cap, rfl, hc1, hc2, hg⟩ := row_open hown
  obtain ⟨gp, rfl⟩ := hg (by simp)
  obtain ⟨adp, lp, capp, rfl, hlp, hlc, _, hownp, hgp, hfe⟩ := ownI_open hp
  obtain ⟨gx, rfl, rfl⟩ := hgp (by omega)
  subst hlp
  rw [hfp] at hnd
  have hne : gp ≠ gx := by
    intro e
    simp [Value.ownBlock] at hnd
    exact hnd e
  refine ⟨gp, cap, gx, capp, rfl, ?_, hownp, hp.2.2, hlc, by rw [hfp]; rfl, hne, hc1, fun w' y ho hr hl hI => ?_⟩
  · have := hown.cellAt 0 (by simp)
    rw [this]
    rfl
  · refine ⟨[[.slice (some ⟨gx, 0, none⟩) x.length capp]], [gx], ownsRow_only hown ho (fun b hb => by simp [Value.ownBlock] at hb; simp; omega), hone, ⟨[gx], [], rfl, ⟨_, rfl, ?_, rfl, hI⟩, rfl⟩, by simpa using hfp, by rw [hfp]; exact hnd⟩
    rw [hl]
    exact hr
/-- The length of a slice. -/
def lenW : Value → Nat
  | .slice _ n _ => n
  | _ => 0
theorem still_next (y : List Int) (q : Nat) : still y q ++ [List.replicate 4 0] = still y (q + 1) := by
  rw [still, still, List.replicate_succ' (n := q), List.cons_append]
theorem Only.newer2 {fp f : List Nat} {a b c : World} (h : Only fp a b) (k : Only f b c) (hf : ∀ x ∈ f, x ∈ fp ∨ a.heap.size ≤ x) : Only fp a c :=
  ⟨k.os.trans h.os, k.tape.trans h.tape, k.output.trans h.output, Nat.le_trans h.size k.size, fun x hx hn => (k.block x (Nat.lt_of_lt_of_le hx h.size) (fun hm => by
    rcases hf x hm with h1 | h1
    · exact hn h1
    · omega)).trans (h.block x hx hn)⟩
/-- A polynomial and two still starts with the same base. -/
def DrawsE (w : World) : Ending → World → Prop := fun e w' => ∃ (vh vu vv : Value) (h : List MonZ) (yu yv : List Int) (M : Nat), e = .returned (.tuple #[vh, .int .i64 2, vu, vv]) ∧ RdMs w' vh h ∧ Canon h ∧ h.length ≤ 4 ∧ (∀ m ∈ h, MonIn 2 4 m) ∧
  RdII w' vu (still yu M) ∧ RdII w' vv (still yv M) ∧ NumRow 4 yu ∧ NumRow 4 yv ∧ (∀ i, i < 2 → atZ yu i = atZ yv i) ∧ 1 ≤ M ∧ M ≤ 4 ∧ Below w.heap.size w w'
set_option maxRecDepth 100000 in
set_option maxHeartbeats 3200000 in
theorem drawEnergy_any (v : Value) (bs : List Int) (w : World) (h : RdB w v bs) : Calls Tryz.prog 7 #[v] w (DrawsE w) := by
  obtain ⟨adc, lc, cc, rfl, _, _, _, h'⟩ := rdS_open h
  clear h
  go_enter Tryz.func7, Tryz.ntmps7
  go_wp2_with fail
  refine (new_any _ bs w h').mono ?_
  rintro e w1 ⟨g, rfl, hg, hcu, hb1⟩
  have HB1 := Lib.hid hb1
  clear h' hb1
  go_wp2_with fail
  refine (monomials_any g 2 4 4 2 4 4 rfl rfl rfl (by omega) (by omega) (by omega) (by omega) w1 hcu).mono ?_
  rintro e w2 ⟨vh, Z, rfl, hp, hZ⟩
  have hgl := hcu.lt
  have HP2 := Lib.hid hp
  have HZ := Lib.hid hZ
  have HD2 := Lib.hid hp.drawn
  clear hp hZ hcu
  go_wp2_with fail
  refine (below_any g 4 4 rfl (by omega) (by omega) w2 HD2.out.cur).mono ?_
  rintro e w3 ⟨n, rfl, hn, hd3⟩
  have HP3 := Lib.hid (HP2.out.only hd3 hgl)
  have HD3 := Lib.hid (HD2.out.trans hd3)
  have HPL := Lib.hid (ownMs_lt HP3.out.own)
  have hn2 : IntKind.i64.wrap (2 + (n : Int)) = ((n + 2 : Nat) : Int) := by rw [IntKind.wrap_i64]; omega
  clear HP2 HD2 hd3
  go_wp2_with fail
  refine (path_any g 4 1 4 1 rfl rfl (by omega) (by omega) w3 HD3.out.cur).mono ?_
  rintro e w4 ⟨vu, xu, fu, rfl, hu, hxu, hfu, hd4⟩
  have HP4 := Lib.hid (HP3.out.only hd4 hgl)
  have HD4 := Lib.hid (HD3.out.trans hd4)
  have HU := Lib.hid hu
  have HXU := Lib.hid hxu
  have HFU := Lib.hid hfu
  have hs3 := HD3.out.only.size
  have hs4 := hd4.only.size
  have HLU4 := Lib.hid (ownII_lt hu)
  clear HP3 HD3 hd4 hu hxu hfu
  go_wp2_with fail
  refine (path_any g 4 1 4 1 rfl rfl (by omega) (by omega) w4 HD4.out.cur).mono ?_
  rintro e w5 ⟨vv, xv, fv, rfl, hv, hxv, hfv, hd5⟩
  obtain ⟨yu, rfl⟩ : ∃ y, xu = [y] := by
    have h := HXU.out.1
    match xu, h with
    | [y], _ => exact ⟨y, rfl⟩
  obtain ⟨yv, rfl⟩ : ∃ y, xv = [y] := by
    have h := hxv.1
    match xv, h with
    | [y], _ => exact ⟨y, rfl⟩
  have hnu := HXU.out.2 yu (by simp)
  have hnv := hxv.2 yv (by simp)
  have hu5 := ownII_only HU.out hd5.only (fun b hb => by have := HFU.out b hb; simp; omega)
  obtain ⟨gu, cu, xu, cxu, rfl, ku, hru, hiu, hcu, rfl, hneu, hc1u, hbu⟩ := ownII_one hu5 hnu.1 (by omega)
  obtain ⟨gv, cv, xv, cxv, rfl, kv, hrv, hiv, hcv, rfl, hnev, hc1v, hbv⟩ := ownII_one hv hnv.1 (by omega)
  have hdr : Below w5.heap.size w5 w5.drew := (Below.refl _ _).drew
  have HDR := Lib.hid hdr
  have HRV := Lib.hid (ownsRow_only (fp := []) hrv (Only.of_below hdr) (by simp))
  have hcu2 : (2 : Int) ≤ cxu := by omega
  have hcv2 : (2 : Int) ≤ cxv := by omega
  have HHU := Lib.hid hu5
  have HNW := Lib.hid (fun (j : Nat) u (h : ((yu.take 2).map (Value.int .i64))[j]? = some u) => show w5.drew.cell? ((⟨xu, 0, none⟩ : Addr).add j) = some u from by
    simp only [List.getElem?_map, Option.map_eq_some_iff] at h
    obtain ⟨z, hz, rfl⟩ := h
    rw [List.getElem?_take] at hz
    split at hz
    · have hjl := (List.getElem?_eq_some_iff.1 hz).1
      rw [hnu.1] at hjl
      have := hru.cellAt j (by omega)
      have he : (⟨xu, 0, none⟩ : Addr).add j = ⟨xu, j, none⟩ := by cases j <;> simp [Addr.add]
      rw [he, World.cell?_drew, this]
      simp [hz]
    · cases hz)
  have HNU := Lib.hid hnu
  have HNV := Lib.hid hnv
  have HBV := Lib.hid hbv
  have HP5 := Lib.hid (HP4.out.only hd5 hgl)
  have HD5 := Lib.hid (HD4.out.trans hd5)
  have HH45 := Lib.hid hd5.only.size
  have HFV := Lib.hid hfv
  have HIU := Lib.hid hiu
  have HIV := Lib.hid hiv
  have HSZ := Lib.hid (show (Tryz.prog.info? 3).map (·.size) = some 1 from by kernel_rfl)
  clear hdr hrv hru hu5 hnu hnv hbv hbu hd5 hfv hv hxv HP4 HD4 HU hiu hiv
  have HII := Lib.hid (show ∀ z ∈ yu.take 2 ++ yv.drop 2, I64 z from fun z hz => by
    rcases List.mem_append.1 hz with h | h
    · exact HIU.out z (List.mem_of_mem_take h)
    · exact HIV.out z (List.mem_of_mem_drop h))
  go_wp2_with fail
  go_cut [38] from 28 to 38 (fun _ wx => OwnII 35 3 wx (.slice (some ⟨gv, 0, none⟩) 1 cv) [yu.take 2 ++ yv.drop 2] [gv, xv] ∧ Only [xv] w5 wx)
  case first =>
    go_region_law (refine step_copy_own (o := ⟨some 38, _, _, _, _, _⟩) (by rfl) (.tmp 32) (.tmp 37) 35 35 (by rfl) 3 1 Tryz.underlying35 HSZ.out xv 4 cxv 2 ⟨xu, 0, none⟩ 2 cxu 3 (by simp [go_sem]) (by simp [go_sem]) _ HRV.out ((yu.take 2).map (Value.int .i64)) 2 (by rfl) (by rw [List.length_map, List.length_take, HNU.out.1]; rfl) HNW.out (by rw [List.length_map, List.length_take, HNU.out.1]; decide) (by intro u hu; simp only [List.mem_map] at hu; obtain ⟨z, _, rfl⟩ := hu; rfl) ?_; intro w6 hown6 honl6; have HO6 := Lib.hid (HBV.out w6 (yu.take 2 ++ yv.drop 2) ((Only.of_below HDR.out).trans honl6) (show w6.ownsRow 0 3 1 (.slice (some ⟨xv, 0, none⟩) 4 cxv) 4 ((yu.take 2 ++ yv.drop 2).map (Value.int .i64)) from (by rw [List.map_append, List.map_drop]; rw [List.length_map, List.length_take, HNU.out.1] at hown6; exact hown6)) (by rw [List.length_append, List.length_take, List.length_drop, HNU.out.1, HNV.out.1]; rfl) HII.out); have HON := Lib.hid ((Only.of_below (fp := [xv]) HDR.out).trans honl6); clear hown6 honl6)
    all_goals (
      go_wp2_with fail
      go_meet
      exact ⟨HO6.out, HON.out⟩)
  case rest =>
  obtain ⟨hv6, ho6⟩ := hcut
  have hs5 := HD5.out.only.size
  have hs54 : w4.heap.size ≤ w5.heap.size := HH45.out
  have hxu := HFU.out
  have hxv := HFV.out
  simp only [List.mem_cons, List.not_mem_nil, or_false, forall_eq_or_imp, forall_eq] at hxu hxv
  have HV6 := Lib.hid hv6
  have hlu := HLU4.out
  simp only [List.mem_cons, List.not_mem_nil, or_false, forall_eq_or_imp, forall_eq] at hlu
  have HU6 := Lib.hid (ownII_only HHU.out ho6 (by simp; omega))
  have HO6 := Lib.hid ho6
  have hfr : w3.heap.size ≤ gu ∧ w3.heap.size ≤ xu ∧ w3.heap.size ≤ gv ∧ w3.heap.size ≤ xv := by omega
  obtain ⟨FP, hFP⟩ : ∃ F : List Nat, F = [gu, xu, gv, xv] := ⟨_, rfl⟩
  have hFP3 : ∀ b ∈ FP, w3.heap.size ≤ b := by subst hFP; simp; omega
  have hOF : Only FP w5 wc := ho6.mono (by subst hFP; simp)
  have hFU : ∀ b ∈ [gu, xu], (b ∈ FP ∨ w5.heap.size ≤ b) ∧ b ∉ [gv, xv] := by subst hFP; simp; omega
  have hFV : ∀ b ∈ [gv, xv], b ∈ FP ∨ w5.heap.size ≤ b := by subst hFP; simp
  obtain ⟨zv, hzv⟩ : ∃ z, z = yu.take 2 ++ yv.drop 2 := ⟨_, rfl⟩
  rw [← hzv] at HV6
  have HZV := Lib.hid hzv
  have HFP3 := Lib.hid hFP3
  have HOF := Lib.hid hOF
  have HFU2 := Lib.hid hFU
  have HFV2 := Lib.hid hFV
  obtain ⟨jl, hjl, hjl0, hjl1, hjl2⟩ := info_parts Tryz.info_ints
  clear hv6 ho6 hxu hxv hlu hFP hFP3 hOF hFU hFV hzv HFU HFV HLU4
  go_wp2_with fail
  go_loopw [10, 11] (fun pu pv wq => ∃ (q : Nat) (fu fv : List Nat), q ≤ n + 1 ∧ lenW pu = q + 1 ∧ OwnII 35 3 wq pu (still yu q) fu ∧ OwnII 35 3 wq pv (still zv q) fv ∧ (∀ b ∈ fu, (b ∈ FP ∨ w5.heap.size ≤ b) ∧ b ∉ fv) ∧ (∀ b ∈ fv, b ∈ FP ∨ w5.heap.size ≤ b) ∧ Only FP w5 wq) (fun pu _ _ => n + 2 - lenW pu)
  case atStart => exact ⟨0, _, _, Nat.zero_le _, rfl, HU6.out, HV6.out, HFU2.out, HFV2.out, HOF.out⟩
  case round =>
    obtain ⟨wk, rfl⟩ : ∃ W, W = wr := ⟨_, rfl⟩
    obtain ⟨q, fu, fv, hq, hlq, hu, hv, hfu, hfv, ho⟩ := hrel
    obtain ⟨adu, cpu, us, rfl, hqu, hcpu, hpushu⟩ := ownII_push4 hu (n := q + 1) (still_len _ _)
    obtain ⟨adv, cpv, vs, rfl, hqv, hcpv, hpushv⟩ := ownII_push4 hv (n := q + 1) (still_len _ _)
    by_cases hlt : q < n + 1
    case neg =>
      obtain rfl : q = n + 1 := by omega
      have HHU2 := Lib.hid (ownII_rd hu)
      have HHV2 := Lib.hid (ownII_rd hv)
      have HO := Lib.hid ho
      clear hu hv hfu hfv hpushu hpushv ho
      go_wp2
      refine bodyPost_ret (v := .tuple #[vh, .int .i64 2, .slice adu (n + 1 + 1) cpu, .slice adv (n + 1 + 1) cpv]) (by simp [results, Tryz.results7, go_sem]) rfl ?_
      have hP := HP5.out.newer HO.out (fun b hb hm => by have := HPL.out b hb; have := HFP3.out b hm; omega) (fun b hb => by have := HFP3.out b hb; omega) hgl
      have hzv := HZV.out
      have hnz : NumRow 4 zv := by
        subst hzv
        refine ⟨by rw [List.length_append, List.length_take, List.length_drop, HNU.out.1, HNV.out.1]; rfl, fun x hx => ?_⟩
        rcases List.mem_append.1 hx with h | h
        · exact HNU.out.2 x (List.mem_of_mem_take h)
        · exact HNV.out.2 x (List.mem_of_mem_drop h)
      refine ⟨vh, _, _, Z.map monS, yu, zv, n + 1, rfl, ownMs_rd hP.own, hP.canon, by simpa using HZ.out, fun m hm => ?_, HHU2.out, HHV2.out, HNU.out, hnz, fun i hi => ?_, by omega, by omega, ?_⟩
      · obtain ⟨z, hz, rfl⟩ := List.mem_map.1 hm
        exact hP.mons z hz
      · rw [hzv]
        unfold atZ
        rw [List.getElem?_append_left (by rw [List.length_take, HNU.out.1]; omega), List.getElem?_take_of_lt hi]
      · have hb5 := HB1.out.trans (HD5.out.only.below HB1.out.size (by simpa using hg))
        exact hb5.trans (HO.out.below hb5.size (fun b hb => by have := HFP3.out b hb; have := HB1.out.size; omega))
    have hltI : (q : Int) + 1 < (n : Int) + 2 := by omega
    have hmk := mk_rowG 4 4 rfl (by omega)
    have HZ1 := Lib.hid (fun (W : World) (adx : Option Addr) (cpx : Nat) (us : List Value) (xs : List (List Int)) (fx : List Nat) (hlx : ∀ b ∈ fx, b < W.heap.size)
      (hp : ∀ (wa : World) (fp' : List Nat), Only fp' W wa → (∀ b ∈ fx, b ∉ fp') → wa.ownsRow 0 35 1 (.slice adx (q + 1) cpx) (q + 1) us ∧ ∀ (p : Value) (ys : List Int) (f : List Nat) (w2 : World) (gg capn : Nat), OwnI 3 wa p ys f → (∀ b ∈ f, b ∉ fx) →
        w2.ownsRow 0 35 1 (.slice (some ⟨gg, 0, none⟩) (q + 1 + 1) capn) (q + 1 + 1) (us ++ [p]) → (wa.alloc (.cells #[p] 35)).grownBy w2 (Value.slice adx (q + 1) cpx).ownBlock → ((Value.slice adx (q + 1) cpx).ownBlock = some gg ∨ gg = wa.heap.size + 1) →
        ∃ f', OwnII 35 3 w2 (.slice (some ⟨gg, 0, none⟩) (q + 1 + 1) capn) (xs ++ [ys]) f' ∧ (∀ b ∈ f', b ∈ fx ∨ b ∈ f ∨ wa.heap.size ≤ b) ∧ Only fx wa w2) =>
      show (W.alloc (.cells (Array.replicate 4 (.int .i64 0)) 3)).ownsRow 0 35 1 (.slice adx (q + 1) cpx) (q + 1) us ∧ ∀ (w2 : World) (gg capn : Nat),
        w2.ownsRow 0 35 1 (.slice (some ⟨gg, 0, none⟩) (q + 1 + 1) capn) (q + 1 + 1) (us ++ [.slice (some ⟨W.heap.size, 0, none⟩) 4 4]) → ((W.alloc (.cells (Array.replicate 4 (.int .i64 0)) 3)).alloc (.cells #[.slice (some ⟨W.heap.size, 0, none⟩) 4 4] 35)).grownBy w2 (Value.slice adx (q + 1) cpx).ownBlock → ((Value.slice adx (q + 1) cpx).ownBlock = some gg ∨ gg = W.heap.size + 1 + 1) →
        ∃ f', OwnII 35 3 w2 (.slice (some ⟨gg, 0, none⟩) (q + 1 + 1) capn) (xs ++ [List.replicate 4 0]) f' ∧ (∀ b ∈ f', b ∈ fx ∨ W.heap.size ≤ b) ∧ Only fx W w2 from by
      have hal : Below W.heap.size W (W.alloc (.cells (Array.replicate 4 (.int .i64 0)) 3)) := (Below.refl _ _).alloc (Nat.le_refl _) _
      have hals : (W.alloc (.cells (Array.replicate 4 (.int .i64 0)) 3)).heap.size = W.heap.size + 1 := by simp
      obtain ⟨h1, h2⟩ := hp (W.alloc (.cells (Array.replicate 4 (.int .i64 0)) 3)) [] (Only.of_below hal) (by simp)
      refine ⟨h1, fun w2 gg capn hown hgrow hat => ?_⟩
      obtain ⟨f', k1, k2, k3⟩ := h2 (.slice (some ⟨W.heap.size, 0, none⟩) 4 4) (List.replicate 4 0) [W.heap.size] w2 gg capn (zeros_row W (by omega)) (fun b hb hm => by have := hlx b hm; simp at hb; omega) hown hgrow (by rw [hals]; exact hat)
      refine ⟨f', k1, fun b hb => ?_, (Only.of_below hal).trans k3⟩
      rcases k2 b hb with h | h | h
      · exact .inl h
      · simp at h; omega
      · omega)
    have HNS := Lib.hid (fun (W : World) => show ∀ (j : Nat) u, [Value.slice (some ⟨W.heap.size, 0, none⟩) 4 4][j]? = some u → ((W.alloc (.cells (Array.replicate 4 (.int .i64 0)) 3)).alloc (.cells #[.slice (some ⟨W.heap.size, 0, none⟩) 4 4] 35)).cell? ((⟨W.heap.size + 1, 0, none⟩ : Addr).add j) = some u from by
      have h := World.news_of_block (cs := #[Value.slice (some ⟨W.heap.size, 0, none⟩) 4 4]) (t := 35) (fr := (0, 0)) (heap_alloc_new (W.alloc (.cells (Array.replicate 4 (.int .i64 0)) 3)) _)
      rw [show (W.alloc (.cells (Array.replicate 4 (.int .i64 0)) 3)).heap.size = W.heap.size + 1 from by simp] at h
      exact h)
    have hq1 := HZ1.out wk adu cpu us (still yu q) fu (ownII_lt hu) hpushu
    have HNP := Lib.hid hq1.1
    have HPA := Lib.hid hq1.2
    have HNW1 := Lib.hid (HNS.out wk)
    have HV := Lib.hid hv
    have HFU := Lib.hid hfu
    have HFV := Lib.hid hfv
    have HO := Lib.hid ho
    have HPV := Lib.hid hpushv
    have HLT := Lib.hid (ownII_lt hu)
    have HLV := Lib.hid (ownII_lt hv)
    clear hu hv hfu hfv hpushu hpushv ho hq1
    go_wp2_with (first
      | (at_builtin; refine wpList_append_lies _ rfl _ _ _ rfl 0 35 jl _ 1 24 Tryz.underlying25 hjl hjl0 hjl1 hjl2 rfl (by omega) (.slice adu (q + 1) cpu) (q + 1) _ (by rfl) (HNP.out.alloc _) ⟨wk.heap.size + 1, 0, none⟩ 1 1 [.slice (some ⟨wk.heap.size, 0, none⟩) 4 4] (by rfl) (by rfl) HNW1.out (by simp [Value.oneCell']) (by omega) (by unfold maxLen; omega) (by omega) (by simp) (wk.heap.size + 1 + 1) (by simp) ?_; intro gw7 capw7 w7 hown1 hgrow hat hlt1; obtain ⟨fu7, hP1, hP2, hP3⟩ := HPA.out w7 gw7 capw7 hown1 hgrow hat; have hdj := fun b (hb : b ∈ fv) (hm : b ∈ fu) => (HFU.out b hm).2 hb; have HPP := Lib.hid hP1; have HP2 := Lib.hid hP2; have HP3 := Lib.hid hP3; have hq2 := HZ1.out w7 adv cpv vs (still zv q) fv (fun b hb => Nat.lt_of_lt_of_le (HLV.out b hb) hP3.size) (fun wa fp' ho hd => HPV.out wa (fu ++ fp') ((hP3.mono (by simp; intro b hb; exact .inl hb)).trans (ho.mono (by simp; intro b hb; exact .inr hb))) (fun b hb hm => by { rcases List.mem_append.1 hm with h | h; exact hdj b hb h; exact hd b hb h })); have HNP2 := Lib.hid hq2.1; have HPA2 := Lib.hid hq2.2; have HNW2 := Lib.hid (HNS.out w7); clear hown1 hgrow hat hP1 hP2 hP3 hq2)
      | (at_builtin; refine wpList_append_lies _ rfl _ _ _ rfl 0 35 jl _ 1 24 Tryz.underlying25 hjl hjl0 hjl1 hjl2 rfl (by omega) (.slice adv (q + 1) cpv) (q + 1) _ (by rfl) (HNP2.out.alloc _) ⟨w7.heap.size + 1, 0, none⟩ 1 1 [.slice (some ⟨w7.heap.size, 0, none⟩) 4 4] (by rfl) (by rfl) HNW2.out (by simp [Value.oneCell']) (by omega) (by unfold maxLen; omega) (by omega) (by simp) (w7.heap.size + 1 + 1) (by simp) ?_; intro gw8 capw8 w8 hown1 hgrow hat hlt1; obtain ⟨fv8, hP1, hP2, hP3⟩ := HPA2.out w8 gw8 capw8 hown1 hgrow hat; have HQP := Lib.hid hP1; have HQ2 := Lib.hid hP2; have HQ3 := Lib.hid hP3; clear hown1 hgrow hat hP1 hP2 hP3))
    have hlu7 := ownII_lt HPP.out
    have hso := HO.out.size
    have hs7 := HP3.out.size
    have hfuv : ∀ b ∈ fu7, b ∉ fv := fun b hb hm => by
      rcases HP2.out b hb with h | h
      · exact (HFU.out b h).2 hm
      · have := HLV.out b hm
        omega
    refine ⟨⟨q + 1, fu7, fv8, by omega, rfl, ?_, ?_, fun b hb => ⟨?_, fun hm => ?_⟩, fun b hb => ?_, ?_⟩, by simp only [lenW]; omega⟩
    · rw [← still_next]
      exact ownII_only HPP.out HQ3.out hfuv
    · rw [← still_next]
      exact HQP.out
    · rcases HP2.out b hb with h | h
      · exact (HFU.out b h).1
      · right; omega
    · rcases HQ2.out b hm with h | h
      · exact hfuv b hb h
      · have := hlu7 b hb
        omega
    · rcases HQ2.out b hb with h | h
      · exact HFV.out b h
      · right; omega
    · exact Only.newer2 (Only.newer2 HO.out HP3.out (fun b hb => (HFU.out b hb).1)) HQ3.out HFV.out
end Go.Proofs.YtbcjhpgkodeoeaaGreatDoor
