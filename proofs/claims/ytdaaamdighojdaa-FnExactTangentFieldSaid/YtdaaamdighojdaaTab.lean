/- Tableaus: readings, what is owned, and the laws' copying, comparing, marking. Conditions: none. -/
import Derived.Test.YtdaaamdighojdaaMem
set_option linter.unusedSimpArgs false
set_option linter.unusedVariables false
namespace Go.Proofs.Ytdaaamdighojdaa
open Go.RowKit Go.Sort

/-- A tableau. -/
structure TabZ where
  stages : Int
  A : List Int
  B : List Int
deriving Inhabited
def RdTab (w : World) (v : Value) (t : TabZ) : Prop := ∃ vA vB, v = .agg #[.int .i64 t.stages, vA, vB] ∧ I64 t.stages ∧ RdI w vA t.A ∧ RdI w vB t.B
def OwnTab (e : Nat) (w : World) (v : Value) (t : TabZ) (fp : List Nat) : Prop := ∃ vA vB fA fB, v = .agg #[.int .i64 t.stages, vA, vB] ∧ I64 t.stages ∧ OwnI e w vA t.A fA ∧ OwnI e w vB t.B fB ∧ fp = fA ++ fB ∧ fp.Nodup
theorem rdTab_mono {w w' : World} {v : Value} {t : TabZ} (hb : Below w.heap.size w w') (h : RdTab w v t) : RdTab w' v t := by
  obtain ⟨vA, vB, rfl, hI, hA, hB⟩ := h
  exact ⟨vA, vB, rfl, hI, rdI_mono hb hA, rdI_mono hb hB⟩
theorem ownTab_rd {e : Nat} {w : World} {v : Value} {t : TabZ} {fp : List Nat} (h : OwnTab e w v t fp) : RdTab w v t := by
  obtain ⟨vA, vB, fA, fB, rfl, hI, hA, hB, _, _⟩ := h
  exact ⟨vA, vB, rfl, hI, ownI_rd hA, ownI_rd hB⟩
theorem ownTab_lt {e : Nat} {w : World} {v : Value} {t : TabZ} {fp : List Nat} (h : OwnTab e w v t fp) : ∀ b ∈ fp, b < w.heap.size := by
  obtain ⟨vA, vB, fA, fB, rfl, hI, hA, hB, rfl, _⟩ := h
  intro b hb
  simp at hb
  exact hb.elim (ownI_lt hA b) (ownI_lt hB b)
theorem ownTab_only {e : Nat} {w w' : World} {v : Value} {t : TabZ} {fp fp' : List Nat} (h : OwnTab e w v t fp) (ho : Only fp' w w') (hd : ∀ b ∈ fp, b ∉ fp') : OwnTab e w' v t fp := by
  obtain ⟨vA, vB, fA, fB, rfl, hI, hA, hB, rfl, hn⟩ := h
  exact ⟨vA, vB, fA, fB, rfl, hI, ownI_only hA ho (fun b hb => hd b (by simp [hb])), ownI_only hB ho (fun b hb => hd b (by simp [hb])), rfl, hn⟩
theorem rdI_slice {w : World} {v : Value} {xs : List Int} (h : RdI w v xs) : ∃ ad len cap, v = .slice ad len cap := by
  obtain ⟨ad, len, cap, rfl, _⟩ := rdS_open h
  exact ⟨_, _, _, rfl⟩

def Fit_Tab (t : TabZ) : Prop := t.A.length ≤ 1048576 ∧ t.B.length ≤ 1048576
def mk_Tab (k : Int) (t : TabZ) : TabZ := ⟨t.stages, marks k t.A.length, marks (k + t.A.length) t.B.length⟩
def cnt_Tab (t : TabZ) : Nat := t.A.length + t.B.length

set_option maxHeartbeats 400000 in
theorem sz_Tab (v : Value) (t : TabZ) (left : Int) (w : World) (h : RdTab w v t) (h0 : 0 ≤ left) (h1 : left ≤ 1048576) :
    Calls Try.prog 52 #[v, .int .i64 left] w (Sz (Fit_Tab t) left w) := by
  obtain ⟨vA, vB, rfl, hI, hA, hB⟩ := h
  have hb : Below w.heap.size w (w.alloc (.cells #[.int .i64 t.stages, vA, vB] 65)) := (Below.refl _ _).alloc (Nat.le_refl _) _
  have hA' := rdI_mono hb hA
  have hB' := rdI_mono hb hB
  obtain ⟨ad, len, cap, rfl⟩ := rdI_slice hA
  obtain ⟨ad2, len2, cap2, rfl⟩ := rdI_slice hB
  go_enter Try.func52, Try.ntmps52
  go_wp2_with fail
  refine (szIntS_any _ _ left _ hA' h0 h1).mono ?_
  rintro e w' ⟨r, rfl, hr, hb'⟩
  have hbB := hb.trans (hb'.mono hb.size)
  rcases hr with rfl | ⟨hr0, hr1, hf⟩
  · go_wp2
    go_ret
    exact ⟨_, rfl, .inl rfl, hbB⟩
  · have hB2 := rdI_mono hb' hB'
    obtain ⟨hc1, hf1⟩ := bcell hb'
    go_wp2_with fail
    refine (szIntS_any _ _ r _ hB2 hr0 (by omega)).mono ?_
    rintro e w2 ⟨r2, rfl, hr2, hb2⟩
    have hbC := hbB.trans (hb2.mono hbB.size)
    rcases hr2 with rfl | ⟨hr20, hr21, hf2⟩
    · go_wp2
      go_ret
      exact ⟨_, rfl, .inl rfl, hbC⟩
    · go_wp2
      go_ret
      exact ⟨_, rfl, .inr ⟨hr20, by omega, hf, hf2⟩, hbC⟩

set_option maxHeartbeats 800000 in
theorem to_Tab (v : Value) (t : TabZ) (w : World) (h : RdTab w v t) (hn : Fit_Tab t) :
    Calls Try.prog 54 #[v] w (Gives (fun w' v fp => OwnTab 3 w' v t fp) w) := by
  obtain ⟨vA, vB, rfl, hI, hA, hB⟩ := h
  obtain ⟨ad, len, cap, rfl⟩ := rdI_slice hA
  obtain ⟨ad2, len2, cap2, rfl⟩ := rdI_slice hB
  go_enter Try.func54, Try.ntmps54
  go_wp2_with fail
  have hb0 : Below w.heap.size w (((w.alloc (.cells #[.int .i64 t.stages, .slice ad len cap, .slice ad2 len2 cap2] 65)).alloc (.cells #[.int .i64 0, .slice none 0 0, .slice none 0 0] 68)).alloc (.cells #[.int .i64 t.stages, .slice none 0 0, .slice none 0 0] 68)) :=
    (((Below.refl _ _).alloc (Nat.le_refl _) _).alloc (by simp) _).alloc (by simp; omega) _
  have hA' := rdI_mono hb0 hA
  have hB' := rdI_mono hb0 hB
  refine (toIntS_any _ t.A _ hA' hn.1).mono ?_
  rintro e w1 ⟨v1, fp1, rfl, ho1, hn1, hb1⟩
  obtain ⟨hc1, hf1⟩ := bcell hb1
  have hz1 : w.heap.size + 2 < w1.heap.size := by have := hb1.size; simp at this; omega
  have hn1' : ∀ g ∈ fp1, w.heap.size + 3 ≤ g := by simpa using hn1
  have hbB := hb0.trans (hb1.mono hb0.size)
  have hB1 := rdI_mono hb1 hB'
  obtain ⟨ad1, len1, cap1, rfl, _⟩ := ownI_open ho1
  have HO := Lib.hid ho1
  have HN := Lib.hid hn1'
  -- behind the store of A
  have hO2 : Only [w.heap.size + 1 + 1] w1 (w1.setCell ⟨w.heap.size + 1 + 1, 1, none⟩ (.slice ad1 len1 cap1)) := (Only.refl _ _).setCell (by simp) _
  have hbC := hbB.setCell (p := ⟨w.heap.size + 1 + 1, 1, none⟩) (by simp; omega) (.slice ad1 len1 cap1)
  have hBC := rdI_mono hbC hB
  clear hn1 ho1 hn1' hA hA' hB hB'
  go_wp2_with fail
  refine (toIntS_any _ t.B _ hBC hn.2).mono ?_
  rintro e w2 ⟨v2, fp2, rfl, ho2, hn2, hb2⟩
  have q1 : ∀ j, w1.cell? ⟨w.heap.size + 1 + 1, j, none⟩ = (((w.alloc (.cells #[.int .i64 t.stages, .slice ad len cap, .slice ad2 len2 cap2] 65)).alloc (.cells #[.int .i64 0, .slice none 0 0, .slice none 0 0] 68)).alloc (.cells #[.int .i64 t.stages, .slice none 0 0, .slice none 0 0] 68)).cell? ⟨w.heap.size + 1 + 1, j, none⟩ := fun j => hc1 _ _ (by simp)
  have q2 : ∀ j, w1.cell? ⟨w.heap.size + 1, j, none⟩ = (((w.alloc (.cells #[.int .i64 t.stages, .slice ad len cap, .slice ad2 len2 cap2] 65)).alloc (.cells #[.int .i64 0, .slice none 0 0, .slice none 0 0] 68)).alloc (.cells #[.int .i64 t.stages, .slice none 0 0, .slice none 0 0] 68)).cell? ⟨w.heap.size + 1, j, none⟩ := fun j => hc1 _ _ (by simp)
  have q3 : ∀ j, w1.frozen? ⟨w.heap.size + 1 + 1, j, none⟩ = false := fun j => by rw [hf1 _ _ (by simp)]; go_simp
  have q4 : ∀ j, w1.frozen? ⟨w.heap.size + 1, j, none⟩ = false := fun j => by rw [hf1 _ _ (by simp)]; go_simp
  have hsz1 : (w1.setCell ⟨w.heap.size + 1 + 1, 1, none⟩ (.slice ad1 len1 cap1)).heap.size = w1.heap.size := by simp [World.setCell]
  obtain ⟨hc2, hf2⟩ := bcell hb2
  have p1 : ∀ j, w2.cell? ⟨w.heap.size + 1 + 1, j, none⟩ = (w1.setCell ⟨w.heap.size + 1 + 1, 1, none⟩ (.slice ad1 len1 cap1)).cell? ⟨w.heap.size + 1 + 1, j, none⟩ := fun j => hc2 _ _ (by omega)
  have p2 : ∀ j, w2.cell? ⟨w.heap.size + 1, j, none⟩ = (w1.setCell ⟨w.heap.size + 1 + 1, 1, none⟩ (.slice ad1 len1 cap1)).cell? ⟨w.heap.size + 1, j, none⟩ := fun j => hc2 _ _ (by omega)
  have p3 : ∀ j, w2.frozen? ⟨w.heap.size + 1 + 1, j, none⟩ = false := fun j => by rw [hf2 _ _ (by omega)]; simp [q3]
  have p4 : ∀ j, w2.frozen? ⟨w.heap.size + 1, j, none⟩ = false := fun j => by rw [hf2 _ _ (by omega)]; simp [q4]
  have hz2 : w1.heap.size ≤ w2.heap.size := by have := hb2.size; simpa [World.setCell] using this
  have hn2' : ∀ g ∈ fp2, w1.heap.size ≤ g := by simpa [World.setCell] using hn2
  have hbD := hbC.trans (hb2.mono hbC.size)
  obtain ⟨ad3, len3, cap3, rfl, _⟩ := ownI_open ho2
  have hlt1 : ∀ g ∈ fp1, g < w1.heap.size := ownI_lt HO.out
  have HA := Lib.hid (ownI_only (ownI_only HO.out hO2 (fun g hg hm => by have := HN.out g hg; simp at hm; omega)) (Only.of_below (fp := []) hb2) (by simp))
  have HB := Lib.hid ho2
  have HN2 := Lib.hid hn2'
  have HL1 := Lib.hid hlt1
  clear hn2 ho2 hn2' hlt1 hBC hO2
  clear hc1 hc2 hf1 hf2 hsz1
  go_wp2
  refine bodyPost_ret (v := .agg #[.int .i64 t.stages, .slice ad1 len1 cap1, .slice ad3 len3 cap3]) (by simp [results, Try.results54, go_sem, p1, p2, q1, q2]) rfl ?_
  have hO3 : Only [w.heap.size + 1 + 1, w.heap.size + 1] w2 ((((w2.setCell ⟨w.heap.size + 1 + 1, 2, none⟩ (.slice ad3 len3 cap3)).setCell ⟨w.heap.size + 1, 0, none⟩ (.int .i64 t.stages)).setCell ⟨w.heap.size + 1, 1, none⟩ (.slice ad1 len1 cap1)).setCell ⟨w.heap.size + 1, 2, none⟩ (.slice ad3 len3 cap3)) :=
    ((((Only.refl _ _).setCell (by simp) _).setCell (by simp) _).setCell (by simp) _).setCell (by simp) _
  refine ⟨_, fp1 ++ fp2, rfl, ⟨_, _, fp1, fp2, rfl, hI, ownI_only HA.out hO3 (fun g hg hm => ?_), ownI_only HB.out hO3 (fun g hg hm => ?_), rfl, ?_⟩, fun g hg => ?_, hbD.trans (hO3.below (hbD.size) (by simp; omega))⟩
  · have := HN.out g hg; simp at hm; omega
  · have := HN2.out g hg; simp at hm; omega
  · rw [List.nodup_append]
    exact ⟨ownI_nodup HO.out, ownI_nodup HB.out, fun a ha b hb e => by have := HL1.out a ha; have := HN2.out b hb; omega⟩
  · simp at hg
    rcases hg with hg | hg
    · have := HN.out g hg; omega
    · have := HN2.out g hg; omega

set_option maxHeartbeats 400000 in
theorem eq_Tab (va vb : Value) (t : TabZ) (w : World) (ha : RdTab w va t) (hb : RdTab w vb t) :
    Calls Try.prog 56 #[va, vb] w fun e w' => e = .returned (.bool true) ∧ Below w.heap.size w w' := by
  obtain ⟨vA, vB, rfl, hI, hA, hB⟩ := ha
  obtain ⟨vA2, vB2, rfl, _, hA2, hB2⟩ := hb
  have hb0 : Below w.heap.size w ((w.alloc (.cells #[.int .i64 t.stages, vA, vB] 68)).alloc (.cells #[.int .i64 t.stages, vA2, vB2] 68)) :=
    ((Below.refl _ _).alloc (Nat.le_refl _) _).alloc (by simp) _
  have gA := rdI_mono hb0 hA
  have gB := rdI_mono hb0 hB
  have gA2 := rdI_mono hb0 hA2
  have gB2 := rdI_mono hb0 hB2
  obtain ⟨_, _, _, rfl⟩ := rdI_slice hA
  obtain ⟨_, _, _, rfl⟩ := rdI_slice hB
  obtain ⟨_, _, _, rfl⟩ := rdI_slice hA2
  obtain ⟨_, _, _, rfl⟩ := rdI_slice hB2
  go_enter Try.func56, Try.ntmps56
  go_wp2_with fail
  refine (eqIntS_same _ _ t.A _ gA gA2).mono ?_
  rintro e w1 hq
  obtain ⟨rfl, hb1⟩ := hq.below
  clear hq
  have hbB := hb0.trans (hb1.mono hb0.size)
  have g3 := rdI_mono hb1 gB
  have g4 := rdI_mono hb1 gB2
  obtain ⟨hc1, hf1⟩ := bcell hb1
  have q1 : ∀ j, w1.cell? ⟨w.heap.size + 1, j, none⟩ = _ := fun j => hc1 _ _ (by simp)
  have q2 : ∀ j, w1.cell? ⟨w.heap.size, j, none⟩ = _ := fun j => hc1 _ _ (by simp; omega)
  clear hc1 hf1
  go_wp2_with fail
  refine (eqIntS_same _ _ t.B _ g3 g4).mono ?_
  rintro e w2 hq
  obtain ⟨rfl, hb2⟩ := hq.below
  clear hq
  have hbC := hbB.trans (hb2.mono hbB.size)
  go_wp2
  go_ret
  exact ⟨rfl, hbC⟩

set_option maxHeartbeats 400000 in
theorem mark_Tab (v : Value) (t : TabZ) (fp : List Nat) (k0 : Int) (w : World) (h : OwnTab 3 w v t fp) (h0 : 0 ≤ k0) (h1 : k0 + cnt_Tab t ≤ 1000000000000000) :
    Calls Try.prog 57 #[v, .int .i64 k0] w fun e w' => e = .returned (.int .i64 (k0 + cnt_Tab t)) ∧ OwnTab 3 w' v (mk_Tab k0 t) fp ∧ Only fp w w' := by
  obtain ⟨vA, vB, fA, fB, rfl, hI, hA, hB, rfl, hn⟩ := h
  have hO0 : Only [] w (w.alloc (.cells #[.int .i64 t.stages, vA, vB] 68)) := (Only.refl _ _).alloc _
  have gA := ownI_only hA hO0 (by simp)
  have gB := ownI_only hB hO0 (by simp)
  have hlA := ownI_lt hA
  obtain ⟨ad, len, cap, rfl⟩ := rdI_slice (ownI_rd hA)
  obtain ⟨ad2, len2, cap2, rfl⟩ := rdI_slice (ownI_rd hB)
  have hce : (cnt_Tab t : Int) = (t.A.length : Int) + (t.B.length : Int) := by simp [cnt_Tab]
  rw [hce] at h1 ⊢
  have HN := Lib.hid hn
  have hn2 := hn
  rw [List.nodup_append] at hn2
  have HD := Lib.hid hn2.2.2
  have HLA := Lib.hid hlA
  clear hce hn hn2 hA hB hlA
  go_enter Try.func57, Try.ntmps57
  go_wp2_with fail
  refine (markIntS_any _ t.A fA _ _ gA h0 (by omega)).mono ?_
  rintro e w1 ⟨rfl, ho1, hon1⟩
  have g3 := ownI_only gB hon1 (fun b hb hm => HD.out b hm b hb rfl)
  have q2 : ∀ j, w1.cell? ⟨w.heap.size, j, none⟩ = (w.alloc (.cells #[.int .i64 t.stages, .slice ad len cap, .slice ad2 len2 cap2] 68)).cell? ⟨w.heap.size, j, none⟩ := fun j =>
    World.cell?_of_block (hon1.block w.heap.size (by simp) (fun hm => by have := HLA.out _ hm; omega))
  have HO1 := Lib.hid ho1
  clear ho1 gA gB
  go_wp2_with fail
  refine (markIntS_any _ t.B fB _ _ g3 (by omega) (by omega)).mono ?_
  rintro e w2 ⟨rfl, ho2, hon2⟩
  have hA2 := ownI_only HO1.out hon2 (fun b hb hm => HD.out b hb b hm rfl)
  have hO : Only (fA ++ fB) w w2 := ((hO0.mono (by simp)).trans (hon1.mono (fun b hb => by simp [hb]))).trans (hon2.mono (fun b hb => by simp [hb]))
  have HO2 := Lib.hid ho2
  have HA2 := Lib.hid hA2
  clear ho2 hA2 g3
  go_wp2
  go_ret
  refine ⟨ret_int (by omega), ⟨_, _, fA, fB, rfl, hI, HA2.out, HO2.out, rfl, HN.out⟩, hO⟩
end Go.Proofs.Ytdaaamdighojdaa
