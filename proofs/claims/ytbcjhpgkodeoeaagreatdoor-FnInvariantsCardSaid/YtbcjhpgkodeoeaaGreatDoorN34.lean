/- Sorting monomials in place: merging two sorted neighbours. Conditions: none. -/
import Derived.Deep.Cut
import Derived.Test.YtbcjhpgkodeoeaaGreatDoorN33
set_option linter.unusedSimpArgs false
set_option linter.unusedVariables false

namespace Go.Proofs.YtbcjhpgkodeoeaaGreatDoor
open Go.RowKit Go.Sort

/-- Merging two sorted neighbours of together fewer than so many elements. -/
def MergeIH (N e g n cap : Nat) (w0 : World) : Prop := ∀ (A L R C : List ElS) (za zm zb : Int) (w : World), L.length + R.length < N → SSt e g n cap w0 w (A ++ (L ++ (R ++ C))) → za = (A.length : Nat) → zm = (A.length + L.length : Nat) → zb = (A.length + L.length + R.length : Nat) →
  0 < L.length → 0 < R.length → SrtS L → SrtS R → ReadS g w0 (L ++ R) →
  Calls Tryz.prog 188 #[.slice (some ⟨g, 0, none⟩) n cap, .int .i64 za, .int .i64 zm, .int .i64 zb, .func (.func 109) #[] #[]] w (Sorted1 e g n cap w0 A (L ++ R) C)

theorem srt_join {X Y : List ElS} (h : X = [] ∨ Y = []) (hX : SrtS X) (hY : SrtS Y) : SrtS (X ++ Y) := by
  rcases h with rfl | rfl
  · simpa using hY
  · simpa using hX

/-- Where the search for the cut may run. -/
structure Cuts (a m b mid s0 r0 : Nat) : Prop where
  f1 : a ≤ s0
  f2 : r0 ≤ m
  f3 : r0 ≤ mid
  f4 : mid + m ≤ s0 + b
  f5 : s0 ≤ r0
  e1 : s0 = a ∨ s0 + b = mid + m
  e2 : r0 = m ∨ r0 = mid

set_option maxRecDepth 100000 in
set_option maxHeartbeats 6400000 in
theorem symMergeG_any (N g n cap : Nat) (A L R C : List ElS) (a m b : Nat) (w0 w : World) (IH : MergeIH N 56 g n cap w0) (hN : L.length + R.length ≤ N) (h : SSt 56 g n cap w0 w (A ++ (L ++ (R ++ C)))) (ha : A.length = a) (hm : a + L.length = m) (hb : m + R.length = b)
    (hL2 : 2 ≤ L.length) (hR2 : 2 ≤ R.length) (hn : n ≤ 1048576) (hL : SrtS L) (hR : SrtS R) (HX : ReadS g w0 (L ++ R)) :
    Calls Tryz.prog 188 #[.slice (some ⟨g, 0, none⟩) n cap, .int .i64 a, .int .i64 m, .int .i64 b, .func (.func 109) #[] #[]] w (Sorted1 56 g n cap w0 A (L ++ R) C) := by
  have hln := h.len
  simp only [List.length_append] at hln
  have hbn : b ≤ n := by omega
  have hmb : m + 2 ≤ b := by omega
  have ham : a + 2 ≤ m := by omega
  have hLm : L.length = m - a := by omega
  have hRm : R.length = b - m := by omega
  obtain ⟨mid, hmid⟩ : ∃ mid, mid = (a + b) / 2 := ⟨_, rfl⟩
  have q7 : ((a : Int) + b) / 2 = (mid : Int) := by omega
  have q8 : ((m : Int) - a == 1) = false := by simp; omega
  have q9 : ((b : Int) - m == 1) = false := by simp; omega
  have hmid1 : a < mid := by omega
  have hmid2 : mid < b := by omega
  have HMID := Lib.hid hmid
  have HLM := Lib.hid hLm
  have HRM := Lib.hid hRm
  have HS := Lib.hid h
  have HA := Lib.hid ha
  have HXX := Lib.hid HX
  have HLS := Lib.hid hL
  have HRS := Lib.hid hR
  have HNN := Lib.hid hN
  have HIH := Lib.hid IH
  clear h ha HX hln hLm hRm hm hb hL hR hL2 hR2 hmid hN IH
  go_enter Tryz.func188, Tryz.ntmps188
  go_upto_if 140 with fail
  go_cut [20, 21] from 25 (fun s20 s21 wx => ∃ s0 r0 : Nat, s20 = .int .i64 s0 ∧ s21 = .int .i64 r0 ∧ wx = w ∧ Cuts a m b mid s0 r0)
  case first =>
    by_cases hmm : mid < m
    · go_wp2
      go_meet
      case rel => exact ⟨mid + m - b, mid, by go_num, rfl, rfl, by have := HMID.out; constructor <;> omega⟩
    · go_wp2
      go_meet
      case rel => exact ⟨a, m, rfl, rfl, rfl, by have := HMID.out; constructor <;> omega⟩
  case rest =>
    obtain ⟨s0, r0, rfl, rfl, rfl, hc⟩ := hcut
    have HC := Lib.hid hc
    have f1 := hc.f1
    have f2 := hc.f2
    have f3 := hc.f3
    have f4 := hc.f4
    have f5 := hc.f5
    clear hc
    go_wp2
    go_loopw [20, 21] (fun si sj wr => ∃ (s r : Nat), si = .int .i64 s ∧ sj = .int .i64 r ∧ s0 ≤ s ∧ s ≤ r ∧ r ≤ r0 ∧ (s = s0 ∨ ∃ x y, L[s - 1 - a]? = some x ∧ R[mid - s]? = some y ∧ leS x y ∧ s0 < s) ∧ (r = r0 ∨ ∃ x y, L[r - a]? = some x ∧ R[mid - 1 - r]? = some y ∧ leS y x ∧ r < r0) ∧ Below wc.heap.size wc wr) (fun si sj _ => (intOf sj).toNat - (intOf si).toNat)
    case atStart => exact ⟨s0, r0, rfl, rfl, Nat.le_refl _, f5, Nat.le_refl _, .inl rfl, .inl rfl, Below.refl _ _⟩
    case round =>
      obtain ⟨wk, rfl⟩ : ∃ W, W = wr := ⟨_, rfl⟩
      obtain ⟨s, r, rfl, rfl, hs0, hsr, hr0, h1, h2, hbw⟩ := hrel
      have H1 := Lib.hid h1
      have H2 := Lib.hid h2
      clear h1 h2
      have hsk := HS.out.below hbw
      by_cases hlt : s < r
      case pos =>
        obtain ⟨h, hh⟩ : ∃ h, h = (s + r) / 2 := ⟨_, rfl⟩
        have q1 : ((s : Int) + (r : Int)) / 2 = (h : Int) := by omega
        have q2 : s ≤ h := by omega
        have q3 : h < r := by omega
        have q4 : (h : Int) < n := by omega
        obtain ⟨pc, hpc⟩ : ∃ pc, pc = mid + m - 1 - h := ⟨_, rfl⟩
        have q5 : (mid : Int) + m - 1 - h = (pc : Int) := by omega
        have q5w : IntKind.i64.wrap (pc : Int) = (pc : Int) := IntWalk.i64_in _ (by omega)
        have q6 : (pc : Int) < n := by omega
        obtain ⟨x, hx⟩ : ∃ x, L[h - a]? = some x := ⟨_, List.getElem?_eq_getElem (by rw [HLM.out]; omega)⟩
        obtain ⟨y, hy⟩ : ∃ y, R[mid - 1 - h]? = some y := ⟨_, List.getElem?_eq_getElem (by rw [HRM.out]; omega)⟩
        have e1 : (A ++ (L ++ (R ++ C)))[h]? = some x := by
          have := at_row (C := R ++ C) HA.out hx
          rwa [show a + (h - a) = h by omega] at this
        have e2 : (A ++ (L ++ (R ++ C)))[pc]? = some y := by
          have := at_row (A := A ++ L) (a := m) (C := C) (by rw [List.length_append, HA.out, HLM.out]; omega) hy
          rw [show m + (mid - 1 - h) = pc by omega] at this
          simpa using this
        obtain ⟨hcx0, hcx1, _, _⟩ := hsk.cells e1
        obtain ⟨hcy0, hcy1, _, _⟩ := hsk.cells e2
        have hrx : RdI wk x.v x.ps := HXX.out x (by rw [List.mem_append]; left; exact List.mem_of_getElem? hx) wk hsk.only
        have hry : RdI wk y.v y.ps := HXX.out y (by rw [List.mem_append]; right; exact List.mem_of_getElem? hy) wk hsk.only
        obtain ⟨c, hc⟩ : ∃ c, cmpL x.ps y.ps = c := ⟨_, rfl⟩
        have hls : ltS y x = decide (c < 0) := by
          rw [Bool.eq_iff_iff, decide_eq_true_iff, ← hc, cmpL_neg]
          rfl
        have CMP := Lib.hid (fun (w' : World) (hb : Below wk.heap.size wk w') => cmpS_any y x w' (rdI_mono hb hry) (rdI_mono hb hrx) hc)
        have HLT := Lib.hid hls
        have HX := Lib.hid hx
        have HY := Lib.hid hy
        have hcy0r := cell_regrown hcy0
        have hcy1r := cell_regrown hcy1
        have hcx0r := cell_regrown hcx0
        have hcx1r := cell_regrown hcx1
        clear hry hrx hc hls hx hy e1 e2 hsk hh hpc
        by_cases hneg : c < 0
        · have qd : decide (c < 0) = true := by simpa using hneg
          go_wp2
          (refine wp_region_quiet_below (by kernel_rfl) (by kernel_rfl) ?_; (repeat (go_big_quiet_step ((first | exact Calls.regrown_of (CMP.out _ (below_regrown _ _ _)))))); refine wpQuiet_nil ?_; rintro _ ⟨⟨dq, osq⟩, rfl⟩)
          have hbq := below_regrown wk dq osq
          obtain ⟨wq, hwq⟩ : ∃ wq, wq = grow (redrawn wk dq) osq := ⟨_, rfl⟩
          rw [← hwq] at hbq ⊢
          clear hwq hcy0r hcy1r hcx0r hcx1r hcy0 hcy1 hcx0 hcx1
          go_wp2
          go_roundw
          case rel => exact ⟨s, h, rfl, rfl, hs0, by omega, by omega, H1.out, .inr ⟨x, y, HX.out, HY.out, leS_of_lt (by rw [HLT.out]; simpa using hneg), by omega⟩, hbw.trans (hbq.mono hbw.size)⟩
          case measure => (simp [intOf]; try omega)
        · have qd : decide (c < 0) = false := by simpa using hneg
          go_wp2
          (refine wp_region_quiet_below (by kernel_rfl) (by kernel_rfl) ?_; (repeat (go_big_quiet_step ((first | exact Calls.regrown_of (CMP.out _ (below_regrown _ _ _)))))); refine wpQuiet_nil ?_; rintro _ ⟨⟨dq, osq⟩, rfl⟩)
          have hbq := below_regrown wk dq osq
          obtain ⟨wq, hwq⟩ : ∃ wq, wq = grow (redrawn wk dq) osq := ⟨_, rfl⟩
          rw [← hwq] at hbq ⊢
          clear hwq hcy0r hcy1r hcx0r hcx1r hcy0 hcy1 hcx0 hcx1
          go_wp2
          go_roundw
          case rel => exact ⟨h + 1, r, by go_num, rfl, by omega, by omega, hr0, .inr ⟨x, y, by rw [show h + 1 - 1 - a = h - a by omega]; exact HX.out, by rw [show mid - (h + 1) = mid - 1 - h by omega]; exact HY.out, leS_of_not (by rw [HLT.out]; simpa using hneg), by omega⟩, H2.out, hbw.trans (hbq.mono hbw.size)⟩
          case measure => (simp [intOf]; try omega)
      case neg =>
        obtain rfl : s = r := by omega
        obtain ⟨e, he⟩ : ∃ e, e = mid + m - s := ⟨_, rfl⟩
        have q5 : (mid : Int) + m - s = (e : Int) := by omega
        -- the four parts
        obtain ⟨L1, L2, hL12, hl1, hl2⟩ : ∃ L1 L2, L = L1 ++ L2 ∧ L1.length = s - a ∧ L2.length = m - s := ⟨L.take (s - a), L.drop (s - a), (List.take_append_drop _ _).symm, by rw [List.length_take, HLM.out]; omega, by rw [List.length_drop, HLM.out]; omega⟩
        obtain ⟨R1, R2, hR12, hr1, hr2⟩ : ∃ R1 R2, R = R1 ++ R2 ∧ R1.length = mid - s ∧ R2.length = b - e := ⟨R.take (mid - s), R.drop (mid - s), (List.take_append_drop _ _).symm, by rw [List.length_take, HRM.out]; omega, by rw [List.length_drop, HRM.out]; omega⟩
        have g1 : L1 = [] ∨ R2 = [] ∨ ∃ x y, L1[L1.length - 1]? = some x ∧ R2[0]? = some y ∧ leS x y := by
          rcases H1.out with h | ⟨x, y, hx, hy, hxy, hss⟩
          · rcases HC.out.e1 with h' | h'
            · left; exact List.eq_nil_of_length_eq_zero (by omega)
            · right; left; exact List.eq_nil_of_length_eq_zero (by omega)
          · right; right
            refine ⟨x, y, ?_, ?_, hxy⟩
            · rw [hL12, List.getElem?_append_left (by omega)] at hx
              rw [hl1, show s - a - 1 = s - 1 - a by omega]; exact hx
            · rw [hR12, List.getElem?_append_right (by omega)] at hy
              rw [hr1, show mid - s - (mid - s) = 0 by omega] at hy
              exact hy
        have g2 : L2 = [] ∨ R1 = [] ∨ ∃ x y, R1[R1.length - 1]? = some x ∧ L2[0]? = some y ∧ leS x y := by
          rcases H2.out with h | ⟨x, y, hx, hy, hyx, hss⟩
          · rcases HC.out.e2 with h' | h'
            · left; exact List.eq_nil_of_length_eq_zero (by omega)
            · right; left; exact List.eq_nil_of_length_eq_zero (by omega)
          · right; right
            refine ⟨y, x, ?_, ?_, hyx⟩
            · rw [hR12, List.getElem?_append_left (by omega)] at hy
              rw [hr1, show mid - s - 1 = mid - 1 - s by omega]; exact hy
            · rw [hL12, List.getElem?_append_right (by omega)] at hx
              rw [hl1, show s - a - (s - a) = 0 by omega] at hx
              exact hx
        have HG1 := Lib.hid g1
        have HG2 := Lib.hid g2
        have HL12 := Lib.hid hL12
        have HR12 := Lib.hid hR12
        have HL1 := Lib.hid hl1
        have HL2 := Lib.hid hl2
        have HR1 := Lib.hid hr1
        have HR2 := Lib.hid hr2
        have HSK := Lib.hid (show SSt 56 g n cap w0 wk (A ++ (L1 ++ (L2 ++ (R1 ++ (R2 ++ C))))) from by rw [hL12, hR12] at hsk; simpa using hsk)
        have HE := Lib.hid he
        have hem : m ≤ e := by omega
        have heb : e ≤ b := by omega
        have hsm : s ≤ m := by omega
        have hsi : s ≤ mid := by omega
        have has : a ≤ s := by omega
        clear g1 g2 hL12 hR12 hl1 hl2 hr1 hr2 hsk he
        have HE1 : ¬ (s < m ∧ s < mid) → L2 = [] ∨ R1 = [] := fun h => by
          have h1 := HL2.out
          have h2 := HR1.out
          by_cases hc : s < m
          · right; exact List.eq_nil_of_length_eq_zero (by omega)
          · left; exact List.eq_nil_of_length_eq_zero (by omega)
        have HE2 : ¬ (a < s ∧ s < mid) → L1 = [] ∨ R1 = [] := fun h => by
          have h1 := HL1.out
          have h2 := HR1.out
          by_cases hc : a < s
          · right; exact List.eq_nil_of_length_eq_zero (by omega)
          · left; exact List.eq_nil_of_length_eq_zero (by omega)
        have HE3 : ¬ (s < m ∧ e < b) → L2 = [] ∨ R2 = [] := fun h => by
          have h1 := HL2.out
          have h2 := HR2.out
          by_cases hc : s < m
          · right; exact List.eq_nil_of_length_eq_zero (by omega)
          · left; exact List.eq_nil_of_length_eq_zero (by omega)
        have hee := HE.out
        have HE1' := Lib.hid HE1
        have HE2' := Lib.hid HE2
        have HE3' := Lib.hid HE3
        clear HE1 HE2 HE3
        by_cases c1 : s < m
        · have t2 : mid < e := by omega
          by_cases c2 : s < mid
          · have t1 : m < e := by omega
            have ROT := Lib.hid (rotate_any g n cap (.func (.func 109) #[] #[]) (A ++ L1) L2 R1 (R2 ++ C) s m e w0 wk (by have := HSK.out; simpa using this) (by rw [List.length_append, HA.out, HL1.out]; omega) (by rw [HL2.out]; omega) (by rw [HR1.out]; omega) (by rw [HL2.out]; omega) (by rw [HR1.out]; omega) hn)
            clear hee
            by_cases c3 : a < s
            · by_cases c4 : e < b
              · skip
                go_wp2_with fail
                refine ROT.out.mono ?_
                rintro e' wa ⟨rfl, hra⟩
                have HA1 := Lib.hid (show SSt 56 g n cap w0 wa (A ++ (L1 ++ (R1 ++ (L2 ++ (R2 ++ C))))) from by simpa using hra)
                clear hra
                have IH2 := Lib.hid (HIH.out A L1 R1 (L2 ++ (R2 ++ C)) a s mid wa (by have := HNN.out; rw [HLM.out, HRM.out] at this; rw [HL1.out, HR1.out]; omega) HA1.out (by rw [HA.out]) (by rw [HA.out, HL1.out]; omega) (by rw [HA.out, HL1.out, HR1.out]; omega) (by rw [HL1.out]; omega) (by rw [HR1.out]; omega) (srt_append.1 (HL12.out ▸ HLS.out)).1 (srt_append.1 (HR12.out ▸ HRS.out)).1 (fun z hz => HXX.out z (by
                  rw [HL12.out, HR12.out]
                  simp only [List.mem_append] at hz ⊢
                  exact hz.elim (fun h => .inl (.inl h)) (fun h => .inr (.inl h)))))
                go_wp2_with fail
                refine IH2.out.mono ?_
                rintro e' wb ⟨rfl, S1, hp1, hs1, hb1⟩
                have HS1 := Lib.hid (show S1.Perm (L1 ++ R1) ∧ SrtS S1 from ⟨hp1, hs1⟩)
                have HB1 := Lib.hid hb1
                clear hp1 hs1 hb1
                have hS1l : S1.length = mid - a := by have := HS1.out.1.length_eq; rw [List.length_append, HL1.out, HR1.out] at this; omega
                have IH3 := Lib.hid (HIH.out (A ++ S1) L2 R2 C mid e b wb (by have := HNN.out; rw [HLM.out, HRM.out] at this; rw [HL2.out, HR2.out]; omega) (by have := HB1.out; simpa using this) (by rw [List.length_append, HA.out, hS1l]; omega) (by have := HE.out; rw [List.length_append, HA.out, hS1l, HL2.out]; omega) (by have := HE.out; rw [List.length_append, HA.out, hS1l, HL2.out, HR2.out]; omega) (by rw [HL2.out]; omega) (by rw [HR2.out]; omega) (srt_append.1 (HL12.out ▸ HLS.out)).2.1 (srt_append.1 (HR12.out ▸ HRS.out)).2.1 (fun z hz => HXX.out z (by
                  rw [HL12.out, HR12.out]
                  simp only [List.mem_append] at hz ⊢
                  exact hz.elim (fun h => .inl (.inr h)) (fun h => .inr (.inr h)))))
                clear hS1l
                go_wp2_with fail
                refine IH3.out.mono ?_
                rintro e' wd ⟨rfl, S2, hp2, hs2, hd⟩
                have HS2 := Lib.hid (show S2.Perm (L2 ++ R2) ∧ SrtS S2 from ⟨hp2, hs2⟩)
                have HD := Lib.hid (show SSt 56 g n cap w0 wd (A ++ ((S1 ++ S2) ++ C)) from by simpa using hd)
                clear hp2 hs2 hd
                go_wp2
                go_end0
                exact ⟨rfl, S1 ++ S2, by rw [HL12.out, HR12.out]; exact (merge_done (HL12.out ▸ HLS.out) (HR12.out ▸ HRS.out) HG1.out HG2.out HS1.out.1 HS2.out.1 HS1.out.2 HS2.out.2).2, (merge_done (HL12.out ▸ HLS.out) (HR12.out ▸ HRS.out) HG1.out HG2.out HS1.out.1 HS2.out.1 HS1.out.2 HS2.out.2).1, HD.out⟩
              · skip
                go_wp2_with fail
                refine ROT.out.mono ?_
                rintro e' wa ⟨rfl, hra⟩
                have HA1 := Lib.hid (show SSt 56 g n cap w0 wa (A ++ (L1 ++ (R1 ++ (L2 ++ (R2 ++ C))))) from by simpa using hra)
                clear hra
                have IH2 := Lib.hid (HIH.out A L1 R1 (L2 ++ (R2 ++ C)) a s mid wa (by have := HNN.out; rw [HLM.out, HRM.out] at this; rw [HL1.out, HR1.out]; omega) HA1.out (by rw [HA.out]) (by rw [HA.out, HL1.out]; omega) (by rw [HA.out, HL1.out, HR1.out]; omega) (by rw [HL1.out]; omega) (by rw [HR1.out]; omega) (srt_append.1 (HL12.out ▸ HLS.out)).1 (srt_append.1 (HR12.out ▸ HRS.out)).1 (fun z hz => HXX.out z (by
                  rw [HL12.out, HR12.out]
                  simp only [List.mem_append] at hz ⊢
                  exact hz.elim (fun h => .inl (.inl h)) (fun h => .inr (.inl h)))))
                go_wp2_with fail
                refine IH2.out.mono ?_
                rintro e' wb ⟨rfl, S1, hp1, hs1, hb1⟩
                have HS1 := Lib.hid (show S1.Perm (L1 ++ R1) ∧ SrtS S1 from ⟨hp1, hs1⟩)
                have HB1 := Lib.hid hb1
                clear hp1 hs1 hb1
                obtain ⟨S2, hS2⟩ : ∃ S2, S2 = L2 ++ R2 := ⟨_, rfl⟩
                have HS2 := Lib.hid (show S2.Perm (L2 ++ R2) ∧ SrtS S2 from by rw [hS2]; exact ⟨List.Perm.refl _, srt_join (HE3'.out (by omega)) (srt_append.1 (HL12.out ▸ HLS.out)).2.1 (srt_append.1 (HR12.out ▸ HRS.out)).2.1⟩)
                have HD := Lib.hid (show SSt 56 g n cap w0 wb (A ++ ((S1 ++ S2) ++ C)) from by have := HB1.out; rw [hS2]; simpa using this)
                clear hS2
                go_wp2
                go_end0
                exact ⟨rfl, S1 ++ S2, by rw [HL12.out, HR12.out]; exact (merge_done (HL12.out ▸ HLS.out) (HR12.out ▸ HRS.out) HG1.out HG2.out HS1.out.1 HS2.out.1 HS1.out.2 HS2.out.2).2, (merge_done (HL12.out ▸ HLS.out) (HR12.out ▸ HRS.out) HG1.out HG2.out HS1.out.1 HS2.out.1 HS1.out.2 HS2.out.2).1, HD.out⟩
            · by_cases c4 : e < b
              · skip
                go_wp2_with fail
                refine ROT.out.mono ?_
                rintro e' wa ⟨rfl, hra⟩
                have HA1 := Lib.hid (show SSt 56 g n cap w0 wa (A ++ (L1 ++ (R1 ++ (L2 ++ (R2 ++ C))))) from by simpa using hra)
                clear hra
                obtain ⟨S1, hS1⟩ : ∃ S1, S1 = L1 ++ R1 := ⟨_, rfl⟩
                have HS1 := Lib.hid (show S1.Perm (L1 ++ R1) ∧ SrtS S1 from by rw [hS1]; exact ⟨List.Perm.refl _, srt_join (HE2'.out (by omega)) (srt_append.1 (HL12.out ▸ HLS.out)).1 (srt_append.1 (HR12.out ▸ HRS.out)).1⟩)
                have HB1 := Lib.hid (show SSt 56 g n cap w0 wa (A ++ (S1 ++ (L2 ++ (R2 ++ C)))) from by have := HA1.out; rw [hS1]; simpa using this)
                obtain ⟨wb, rfl⟩ : ∃ W, W = wa := ⟨_, rfl⟩
                clear hS1
                have hS1l : S1.length = mid - a := by have := HS1.out.1.length_eq; rw [List.length_append, HL1.out, HR1.out] at this; omega
                have IH3 := Lib.hid (HIH.out (A ++ S1) L2 R2 C mid e b wb (by have := HNN.out; rw [HLM.out, HRM.out] at this; rw [HL2.out, HR2.out]; omega) (by have := HB1.out; simpa using this) (by rw [List.length_append, HA.out, hS1l]; omega) (by have := HE.out; rw [List.length_append, HA.out, hS1l, HL2.out]; omega) (by have := HE.out; rw [List.length_append, HA.out, hS1l, HL2.out, HR2.out]; omega) (by rw [HL2.out]; omega) (by rw [HR2.out]; omega) (srt_append.1 (HL12.out ▸ HLS.out)).2.1 (srt_append.1 (HR12.out ▸ HRS.out)).2.1 (fun z hz => HXX.out z (by
                  rw [HL12.out, HR12.out]
                  simp only [List.mem_append] at hz ⊢
                  exact hz.elim (fun h => .inl (.inr h)) (fun h => .inr (.inr h)))))
                clear hS1l
                go_wp2_with fail
                refine IH3.out.mono ?_
                rintro e' wd ⟨rfl, S2, hp2, hs2, hd⟩
                have HS2 := Lib.hid (show S2.Perm (L2 ++ R2) ∧ SrtS S2 from ⟨hp2, hs2⟩)
                have HD := Lib.hid (show SSt 56 g n cap w0 wd (A ++ ((S1 ++ S2) ++ C)) from by simpa using hd)
                clear hp2 hs2 hd
                go_wp2
                go_end0
                exact ⟨rfl, S1 ++ S2, by rw [HL12.out, HR12.out]; exact (merge_done (HL12.out ▸ HLS.out) (HR12.out ▸ HRS.out) HG1.out HG2.out HS1.out.1 HS2.out.1 HS1.out.2 HS2.out.2).2, (merge_done (HL12.out ▸ HLS.out) (HR12.out ▸ HRS.out) HG1.out HG2.out HS1.out.1 HS2.out.1 HS1.out.2 HS2.out.2).1, HD.out⟩
              · skip
                go_wp2_with fail
                refine ROT.out.mono ?_
                rintro e' wa ⟨rfl, hra⟩
                have HA1 := Lib.hid (show SSt 56 g n cap w0 wa (A ++ (L1 ++ (R1 ++ (L2 ++ (R2 ++ C))))) from by simpa using hra)
                clear hra
                obtain ⟨S1, hS1⟩ : ∃ S1, S1 = L1 ++ R1 := ⟨_, rfl⟩
                have HS1 := Lib.hid (show S1.Perm (L1 ++ R1) ∧ SrtS S1 from by rw [hS1]; exact ⟨List.Perm.refl _, srt_join (HE2'.out (by omega)) (srt_append.1 (HL12.out ▸ HLS.out)).1 (srt_append.1 (HR12.out ▸ HRS.out)).1⟩)
                have HB1 := Lib.hid (show SSt 56 g n cap w0 wa (A ++ (S1 ++ (L2 ++ (R2 ++ C)))) from by have := HA1.out; rw [hS1]; simpa using this)
                obtain ⟨wb, rfl⟩ : ∃ W, W = wa := ⟨_, rfl⟩
                clear hS1
                obtain ⟨S2, hS2⟩ : ∃ S2, S2 = L2 ++ R2 := ⟨_, rfl⟩
                have HS2 := Lib.hid (show S2.Perm (L2 ++ R2) ∧ SrtS S2 from by rw [hS2]; exact ⟨List.Perm.refl _, srt_join (HE3'.out (by omega)) (srt_append.1 (HL12.out ▸ HLS.out)).2.1 (srt_append.1 (HR12.out ▸ HRS.out)).2.1⟩)
                have HD := Lib.hid (show SSt 56 g n cap w0 wb (A ++ ((S1 ++ S2) ++ C)) from by have := HB1.out; rw [hS2]; simpa using this)
                clear hS2
                go_wp2
                go_end0
                exact ⟨rfl, S1 ++ S2, by rw [HL12.out, HR12.out]; exact (merge_done (HL12.out ▸ HLS.out) (HR12.out ▸ HRS.out) HG1.out HG2.out HS1.out.1 HS2.out.1 HS1.out.2 HS2.out.2).2, (merge_done (HL12.out ▸ HLS.out) (HR12.out ▸ HRS.out) HG1.out HG2.out HS1.out.1 HS2.out.1 HS1.out.2 HS2.out.2).1, HD.out⟩
          · have t1 : ¬ m < e := by omega
            clear hee
            by_cases c4 : e < b
            · skip
              obtain ⟨wa, hwa⟩ : ∃ W, W = wk := ⟨_, rfl⟩
              have HA1 := Lib.hid (show SSt 56 g n cap w0 wa (A ++ (L1 ++ (R1 ++ (L2 ++ (R2 ++ C))))) from by
                have := HSK.out
                rcases HE1'.out (by omega) with h | h
                · rw [hwa, h]; rw [h] at this; simpa using this
                · rw [hwa, h]; rw [h] at this; simpa using this)
              subst hwa
              obtain ⟨S1, hS1⟩ : ∃ S1, S1 = L1 ++ R1 := ⟨_, rfl⟩
              have HS1 := Lib.hid (show S1.Perm (L1 ++ R1) ∧ SrtS S1 from by rw [hS1]; exact ⟨List.Perm.refl _, srt_join (HE2'.out (by omega)) (srt_append.1 (HL12.out ▸ HLS.out)).1 (srt_append.1 (HR12.out ▸ HRS.out)).1⟩)
              have HB1 := Lib.hid (show SSt 56 g n cap w0 wa (A ++ (S1 ++ (L2 ++ (R2 ++ C)))) from by have := HA1.out; rw [hS1]; simpa using this)
              obtain ⟨wb, rfl⟩ : ∃ W, W = wa := ⟨_, rfl⟩
              clear hS1
              have hS1l : S1.length = mid - a := by have := HS1.out.1.length_eq; rw [List.length_append, HL1.out, HR1.out] at this; omega
              have IH3 := Lib.hid (HIH.out (A ++ S1) L2 R2 C mid e b wb (by have := HNN.out; rw [HLM.out, HRM.out] at this; rw [HL2.out, HR2.out]; omega) (by have := HB1.out; simpa using this) (by rw [List.length_append, HA.out, hS1l]; omega) (by have := HE.out; rw [List.length_append, HA.out, hS1l, HL2.out]; omega) (by have := HE.out; rw [List.length_append, HA.out, hS1l, HL2.out, HR2.out]; omega) (by rw [HL2.out]; omega) (by rw [HR2.out]; omega) (srt_append.1 (HL12.out ▸ HLS.out)).2.1 (srt_append.1 (HR12.out ▸ HRS.out)).2.1 (fun z hz => HXX.out z (by
                rw [HL12.out, HR12.out]
                simp only [List.mem_append] at hz ⊢
                exact hz.elim (fun h => .inl (.inr h)) (fun h => .inr (.inr h)))))
              clear hS1l
              go_wp2_with fail
              refine IH3.out.mono ?_
              rintro e' wd ⟨rfl, S2, hp2, hs2, hd⟩
              have HS2 := Lib.hid (show S2.Perm (L2 ++ R2) ∧ SrtS S2 from ⟨hp2, hs2⟩)
              have HD := Lib.hid (show SSt 56 g n cap w0 wd (A ++ ((S1 ++ S2) ++ C)) from by simpa using hd)
              clear hp2 hs2 hd
              go_wp2
              go_end0
              exact ⟨rfl, S1 ++ S2, by rw [HL12.out, HR12.out]; exact (merge_done (HL12.out ▸ HLS.out) (HR12.out ▸ HRS.out) HG1.out HG2.out HS1.out.1 HS2.out.1 HS1.out.2 HS2.out.2).2, (merge_done (HL12.out ▸ HLS.out) (HR12.out ▸ HRS.out) HG1.out HG2.out HS1.out.1 HS2.out.1 HS1.out.2 HS2.out.2).1, HD.out⟩
            · exfalso
              have := HE.out
              omega
        · have t2 : ¬ mid < e := by omega
          clear hee
          by_cases c2 : s < mid
          · by_cases c3 : a < s
            · skip
              obtain ⟨wa, hwa⟩ : ∃ W, W = wk := ⟨_, rfl⟩
              have HA1 := Lib.hid (show SSt 56 g n cap w0 wa (A ++ (L1 ++ (R1 ++ (L2 ++ (R2 ++ C))))) from by
                have := HSK.out
                rcases HE1'.out (by omega) with h | h
                · rw [hwa, h]; rw [h] at this; simpa using this
                · rw [hwa, h]; rw [h] at this; simpa using this)
              subst hwa
              have IH2 := Lib.hid (HIH.out A L1 R1 (L2 ++ (R2 ++ C)) a s mid wa (by have := HNN.out; rw [HLM.out, HRM.out] at this; rw [HL1.out, HR1.out]; omega) HA1.out (by rw [HA.out]) (by rw [HA.out, HL1.out]; omega) (by rw [HA.out, HL1.out, HR1.out]; omega) (by rw [HL1.out]; omega) (by rw [HR1.out]; omega) (srt_append.1 (HL12.out ▸ HLS.out)).1 (srt_append.1 (HR12.out ▸ HRS.out)).1 (fun z hz => HXX.out z (by
                rw [HL12.out, HR12.out]
                simp only [List.mem_append] at hz ⊢
                exact hz.elim (fun h => .inl (.inl h)) (fun h => .inr (.inl h)))))
              go_wp2_with fail
              refine IH2.out.mono ?_
              rintro e' wb ⟨rfl, S1, hp1, hs1, hb1⟩
              have HS1 := Lib.hid (show S1.Perm (L1 ++ R1) ∧ SrtS S1 from ⟨hp1, hs1⟩)
              have HB1 := Lib.hid hb1
              clear hp1 hs1 hb1
              obtain ⟨S2, hS2⟩ : ∃ S2, S2 = L2 ++ R2 := ⟨_, rfl⟩
              have HS2 := Lib.hid (show S2.Perm (L2 ++ R2) ∧ SrtS S2 from by rw [hS2]; exact ⟨List.Perm.refl _, srt_join (HE3'.out (by omega)) (srt_append.1 (HL12.out ▸ HLS.out)).2.1 (srt_append.1 (HR12.out ▸ HRS.out)).2.1⟩)
              have HD := Lib.hid (show SSt 56 g n cap w0 wb (A ++ ((S1 ++ S2) ++ C)) from by have := HB1.out; rw [hS2]; simpa using this)
              clear hS2
              go_wp2
              go_end0
              exact ⟨rfl, S1 ++ S2, by rw [HL12.out, HR12.out]; exact (merge_done (HL12.out ▸ HLS.out) (HR12.out ▸ HRS.out) HG1.out HG2.out HS1.out.1 HS2.out.1 HS1.out.2 HS2.out.2).2, (merge_done (HL12.out ▸ HLS.out) (HR12.out ▸ HRS.out) HG1.out HG2.out HS1.out.1 HS2.out.1 HS1.out.2 HS2.out.2).1, HD.out⟩
            · skip
              obtain ⟨wa, hwa⟩ : ∃ W, W = wk := ⟨_, rfl⟩
              have HA1 := Lib.hid (show SSt 56 g n cap w0 wa (A ++ (L1 ++ (R1 ++ (L2 ++ (R2 ++ C))))) from by
                have := HSK.out
                rcases HE1'.out (by omega) with h | h
                · rw [hwa, h]; rw [h] at this; simpa using this
                · rw [hwa, h]; rw [h] at this; simpa using this)
              subst hwa
              obtain ⟨S1, hS1⟩ : ∃ S1, S1 = L1 ++ R1 := ⟨_, rfl⟩
              have HS1 := Lib.hid (show S1.Perm (L1 ++ R1) ∧ SrtS S1 from by rw [hS1]; exact ⟨List.Perm.refl _, srt_join (HE2'.out (by omega)) (srt_append.1 (HL12.out ▸ HLS.out)).1 (srt_append.1 (HR12.out ▸ HRS.out)).1⟩)
              have HB1 := Lib.hid (show SSt 56 g n cap w0 wa (A ++ (S1 ++ (L2 ++ (R2 ++ C)))) from by have := HA1.out; rw [hS1]; simpa using this)
              obtain ⟨wb, rfl⟩ : ∃ W, W = wa := ⟨_, rfl⟩
              clear hS1
              obtain ⟨S2, hS2⟩ : ∃ S2, S2 = L2 ++ R2 := ⟨_, rfl⟩
              have HS2 := Lib.hid (show S2.Perm (L2 ++ R2) ∧ SrtS S2 from by rw [hS2]; exact ⟨List.Perm.refl _, srt_join (HE3'.out (by omega)) (srt_append.1 (HL12.out ▸ HLS.out)).2.1 (srt_append.1 (HR12.out ▸ HRS.out)).2.1⟩)
              have HD := Lib.hid (show SSt 56 g n cap w0 wb (A ++ ((S1 ++ S2) ++ C)) from by have := HB1.out; rw [hS2]; simpa using this)
              clear hS2
              go_wp2
              go_end0
              exact ⟨rfl, S1 ++ S2, by rw [HL12.out, HR12.out]; exact (merge_done (HL12.out ▸ HLS.out) (HR12.out ▸ HRS.out) HG1.out HG2.out HS1.out.1 HS2.out.1 HS1.out.2 HS2.out.2).2, (merge_done (HL12.out ▸ HLS.out) (HR12.out ▸ HRS.out) HG1.out HG2.out HS1.out.1 HS2.out.1 HS1.out.2 HS2.out.2).1, HD.out⟩
          · skip
            obtain ⟨wa, hwa⟩ : ∃ W, W = wk := ⟨_, rfl⟩
            have HA1 := Lib.hid (show SSt 56 g n cap w0 wa (A ++ (L1 ++ (R1 ++ (L2 ++ (R2 ++ C))))) from by
              have := HSK.out
              rcases HE1'.out (by omega) with h | h
              · rw [hwa, h]; rw [h] at this; simpa using this
              · rw [hwa, h]; rw [h] at this; simpa using this)
            subst hwa
            obtain ⟨S1, hS1⟩ : ∃ S1, S1 = L1 ++ R1 := ⟨_, rfl⟩
            have HS1 := Lib.hid (show S1.Perm (L1 ++ R1) ∧ SrtS S1 from by rw [hS1]; exact ⟨List.Perm.refl _, srt_join (HE2'.out (by omega)) (srt_append.1 (HL12.out ▸ HLS.out)).1 (srt_append.1 (HR12.out ▸ HRS.out)).1⟩)
            have HB1 := Lib.hid (show SSt 56 g n cap w0 wa (A ++ (S1 ++ (L2 ++ (R2 ++ C)))) from by have := HA1.out; rw [hS1]; simpa using this)
            obtain ⟨wb, rfl⟩ : ∃ W, W = wa := ⟨_, rfl⟩
            clear hS1
            obtain ⟨S2, hS2⟩ : ∃ S2, S2 = L2 ++ R2 := ⟨_, rfl⟩
            have HS2 := Lib.hid (show S2.Perm (L2 ++ R2) ∧ SrtS S2 from by rw [hS2]; exact ⟨List.Perm.refl _, srt_join (HE3'.out (by omega)) (srt_append.1 (HL12.out ▸ HLS.out)).2.1 (srt_append.1 (HR12.out ▸ HRS.out)).2.1⟩)
            have HD := Lib.hid (show SSt 56 g n cap w0 wb (A ++ ((S1 ++ S2) ++ C)) from by have := HB1.out; rw [hS2]; simpa using this)
            clear hS2
            go_wp2
            go_end0
            exact ⟨rfl, S1 ++ S2, by rw [HL12.out, HR12.out]; exact (merge_done (HL12.out ▸ HLS.out) (HR12.out ▸ HRS.out) HG1.out HG2.out HS1.out.1 HS2.out.1 HS1.out.2 HS2.out.2).2, (merge_done (HL12.out ▸ HLS.out) (HR12.out ▸ HRS.out) HG1.out HG2.out HS1.out.1 HS2.out.1 HS1.out.2 HS2.out.2).1, HD.out⟩

theorem sorted1_perm {e g n cap : Nat} {w0 : World} {A L L' C : List ElS} {en : Ending} {w' : World} (h : Sorted1 e g n cap w0 A L C en w') (hp : L.Perm L') : Sorted1 e g n cap w0 A L' C en w' := by
  obtain ⟨he, S, h1, h2, h3⟩ := h
  exact ⟨he, S, h1.trans hp, h2, h3⟩
theorem mergeIH_all (g n cap : Nat) (w0 : World) (hn : n ≤ 1048576) : ∀ N : Nat, MergeIH N 56 g n cap w0
  | 0 => fun _ _ _ _ _ _ _ _ h => by omega
  | N + 1 => fun A L R C za zm zb w hl hs hza hzm hzb hL hR hsL hsR hX => by
    subst hza hzm hzb
    have ih := mergeIH_all g n cap w0 hn N
    match L, hL with
    | [x], _ => exact symMergeL_any g n cap A x R C _ _ _ w0 w hs rfl rfl rfl hn hsR hX
    | x :: x2 :: L, _ =>
      match R, hR with
      | [y], _ =>
        refine (symMergeR_any g n cap A (x :: x2 :: L) y C _ _ _ w0 w hs rfl rfl rfl (by simp) hn hsL (hX.perm (List.perm_append_singleton y (x :: x2 :: L)).symm)).mono fun _ _ h => sorted1_perm h (List.perm_append_singleton y (x :: x2 :: L)).symm
      | y :: y2 :: R, _ => exact symMergeG_any N g n cap A (x :: x2 :: L) (y :: y2 :: R) C _ _ _ w0 w ih (by omega) hs rfl rfl rfl (by simp) (by simp) hn hsL hsR hX
/-- Merging two sorted neighbours. -/
theorem symMerge_any (g n cap : Nat) (A L R C : List ElS) {za zm zb : Int} (w0 w : World) (h : SSt 56 g n cap w0 w (A ++ (L ++ (R ++ C)))) (ha : za = (A.length : Nat)) (hm : zm = (A.length + L.length : Nat)) (hb : zb = (A.length + L.length + R.length : Nat)) (hL : 0 < L.length) (hR : 0 < R.length) (hn : n ≤ 1048576) (hsL : SrtS L) (hsR : SrtS R) (HX : ReadS g w0 (L ++ R)) :
    Calls Tryz.prog 188 #[.slice (some ⟨g, 0, none⟩) n cap, .int .i64 za, .int .i64 zm, .int .i64 zb, .func (.func 109) #[] #[]] w (Sorted1 56 g n cap w0 A (L ++ R) C) :=
  mergeIH_all g n cap w0 hn (L.length + R.length + 1) A L R C za zm zb w (by omega) h ha hm hb hL hR hsL hsR HX
end Go.Proofs.YtbcjhpgkodeoeaaGreatDoor
