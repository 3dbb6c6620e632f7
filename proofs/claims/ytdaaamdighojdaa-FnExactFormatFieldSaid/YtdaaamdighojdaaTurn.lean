/- The reference's turning of a path. Conditions: lengths of a few. -/
import Derived.Test.YtdaaamdighojdaaJet2
set_option linter.unusedSimpArgs false
set_option linter.unusedVariables false
namespace Go.Proofs.Ytdaaamdighojdaa
open Go.RowKit Go.Sort

/-- A row is appended onto rows of the call's own. -/
theorem ownII_push {e1 e : Nat} {W wr wq w1 w2 : World} {v v' p : Value} {xs : List (List Int)} {ys : List Int} {f : List Nat} {us : List (List Value)} {fs : List Nat} {n : Nat}
    (hone : ∀ u ∈ us, u.length = 1) (hels : OwnEls (OElII e) wr us xs fs) (hnd : (v.ownBlock.toList ++ fs).Nodup) (hown0 : wr.ownsRow 0 e1 1 v xs.length us.flatten) (hn : xs.length = n)
    (hp : OwnI e wq p ys f) (hf : ∀ b ∈ f, wr.heap.size ≤ b) (hfp : ∀ b ∈ v.ownBlock.toList ++ fs, W.heap.size ≤ b) (hW : Below W.heap.size W wr) (hq : Below wr.heap.size wr wq)
    (h1 : Below wq.heap.size wq w1) (hown : w2.ownsRow 0 e1 1 v' (n + 1) (us.flatten ++ [p])) (hg : w1.grownBy w2 v.ownBlock) (hv : ∀ b, v'.ownBlock = some b → v.ownBlock = some b ∨ w1.heap.size ≤ b) :
    ∃ fp', OwnII e1 e w2 v' (xs ++ [ys]) fp' ∧ (∀ b ∈ fp', W.heap.size ≤ b) ∧ Below W.heap.size W w2 := by
  have hlt : ∀ b ∈ v.ownBlock.toList ++ fs, b < wr.heap.size := fun b hb => by
    simp only [List.mem_append, Option.mem_toList] at hb
    rcases hb with hb | hb
    · exact (hown0.lt b hb).2
    · exact ownEls_lt (fun _ _ _ h => oelII_lt h) hels b hb
  have hfn : f.Nodup := by rw [hp.2.1]; cases p.ownBlock <;> simp
  refine ownS_push (El := OElII e) (W := W) (w := wq) (w1 := w1) (f := f) (fs := fs) (fun w w' u x f g h ho hd => oelII_only h ho hd) hone (ownEls_only (fun u x f' h hd => oelII_only h (Only.of_below (fp := []) hq) hd) hels (by simp)) hnd ⟨p, rfl, hp⟩ rfl
    (fun b hb hm => by have := hf b hb; have := hlt b hm; omega) hfn (ownI_lt hp) (fun b hb => by have := hlt b (by simp [hb]); have := hq.size; omega) hn (fun b hb => ?_) (hW.trans (hq.mono hW.size)) h1 hown hg hv
  rw [List.mem_append] at hb
  rcases hb with hb | hb
  · exact hfp b hb
  · have := hf b hb
    have := hW.size
    omega

set_option maxRecDepth 100000 in
set_option maxHeartbeats 1600000 in
theorem l8Turn_any (v : Value) (xs : List (List Int)) (n : Nat) (w : World) (h : RdII w v xs) (h0 : 0 < xs.length) (hn : n ≤ 2097152) (hx7 : xs.length ≤ 7) (hrow : ∀ y ∈ xs, y.length = n) :
    Calls Try.prog 60 #[v] w (Gives (fun w' v fp => OwnII 24 3 w' v (turnZ xs n) fp) w) := by
  obtain ⟨ad, len, cap, rfl, hl, hlc, hcm, h'⟩ := rdS_open h
  have HL := Lib.hid hl
  have HR := Lib.hid hrow
  rw [hl] at hx7 h0
  obtain ⟨b0, off0, ad0, len0, cap0, y0, rfl, hy0, hc0, h60, h70, h80, h90, hbs0⟩ := rdII_get h' h0
  obtain rfl : len0 = n := by rw [← h60]; exact HR.out y0 (List.mem_of_getElem? hy0)
  have HC0 := Lib.hid hc0
  clear h hl hrow hy0 h60 h70 h80 h90 hc0
  obtain ⟨j0, hj, hz0, hz1, hz2⟩ := info_parts Try.info_int
  obtain ⟨j1, hj1, hw0, hw1, hw2⟩ := info_parts Try.info_ints
  go_enter Try.func60, Try.ntmps60
  go_wp2
  have HO0 := Lib.hid (show OwnII 24 3 (w.alloc (.cells #[] 24)) (.slice (some ⟨w.heap.size, 0, none⟩) 0 0) [] [w.heap.size] from ⟨[], [], by simpa using World.ownsRow_lit (base := 0) (e := 24) (size := 1) w #[] 0 (Nat.zero_le _) (Nat.zero_le _) rfl, by simp, rfl, rfl, by simp⟩)
  have hb0 := Lib.hid (show Below w.heap.size w (w.alloc (.cells #[] 24)) from (Below.refl _ _).alloc (Nat.le_refl _) _)
  go_loopw [3, 4] (fun u i wr => ∃ (k : Nat) (f : List Nat), k ≤ len0 ∧ i = .int .i64 k ∧ OwnII 24 3 wr u ((turnZ xs len0).take k) f ∧ (∀ b ∈ f, w.heap.size ≤ b) ∧ Below w.heap.size w wr) (fun _ i _ => len0 - (intOf i).toNat)
  case atStart => exact ⟨0, [w.heap.size], Nat.zero_le _, rfl, by simpa using HO0.out, by simp, hb0.out⟩
  case round =>
    obtain ⟨k, f, hk, rfl, ho, hf, hb⟩ := hrel
    clear HO0 hb0
    have htl : (turnZ xs len0).length = len0 := by simp [turnZ]
    have hc0 := cell_below hb HC0.out
    simp only [Nat.zero_mul, Nat.add_zero] at hc0
    have hoff : off0 + 0 = off0 := rfl
    by_cases hlt : k < len0
    case neg =>
      obtain rfl : k = len0 := by omega
      rw [List.take_of_length_le (by omega)] at ho
      go_wp2
      go_ret
      exact ⟨_, f, rfl, ho, hf, hb⟩
    have hkl : ((turnZ xs len0).take k).length = k := by rw [List.length_take]; omega
    obtain ⟨us, fs, hown, hone, hels, rfl, hnd⟩ := ho
    have HOWN := Lib.hid hown
    rw [hkl] at hown
    obtain ⟨adu, capu, rfl, hluc, hcum, _⟩ := row_open hown
    have HNU := Lib.hid hown
    have HONE := Lib.hid hone
    have HELS := Lib.hid hels
    have HND := Lib.hid hnd
    have HF := Lib.hid hf
    have HKL := Lib.hid hkl
    clear hown hone hels hnd hf hkl htl
    go_wp2
    have hi0 := Lib.hid (show OwnI 3 (wr.alloc (.cells #[] 3)) (.slice (some ⟨wr.heap.size, 0, none⟩) 0 0) [] [wr.heap.size] from ⟨by simpa using World.ownsRow_lit (base := 0) (e := 3) (size := 1) wr #[] 0 (Nat.zero_le _) (Nat.zero_le _) rfl, rfl, by simp⟩)
    have hbi := Lib.hid (show Below wr.heap.size wr (wr.alloc (.cells #[] 3)) from (Below.refl _ _).alloc (Nat.le_refl _) _)
    go_loopw [5, 6] (fun p j wq => ∃ (q : Nat) (f2 : List Nat), q ≤ len ∧ j = .int .i64 q ∧ OwnI 3 wq p ((colZ xs k).take q) f2 ∧ (∀ b ∈ f2, wr.heap.size ≤ b) ∧ Below wr.heap.size wr wq) (fun _ j _ => len - (intOf j).toNat)
    case atStart => exact ⟨0, [wr.heap.size], Nat.zero_le _, rfl, by simpa using hi0.out, by simp, hbi.out⟩
    case round =>
      obtain ⟨q, f2, hq, rfl, hp, hf2, hbq⟩ := hrel
      clear hi0 hbi hc0
      have hcl : (colZ xs k).length = len := by rw [colZ, List.length_map, HL.out]
      by_cases hql : q < len
      case neg =>
        obtain rfl : q = len := by omega
        rw [List.take_of_length_le (l := colZ xs k) (by omega)] at hp
        obtain ⟨adp, lenp, capp, rfl, hlp, hlpc, hcpm, hownp, _, hfe⟩ := ownI_open hp
        have hal : Below wr.heap.size wr (wr.alloc (.cells #[.slice adp lenp capp] 24)) := (Below.refl _ _).alloc (Nat.le_refl _) _
        have hsub : ∀ b, (Value.slice adu k capu).ownBlock = some b → b < wr.heap.size := fun b hb => by
          have h1 := (HNU.out.lt b hb).2
          have h2 := hbq.size
          omega
        have HNQ := Lib.hid (ownsRow_only HNU.out (Only.of_below (fp := []) hbq) (by simp))
        have HS := Lib.hid (fun (w1 : World) (gg capn : Nat) (hown1 : w1.ownsRow 0 24 1 (.slice (some ⟨gg, 0, none⟩) (k + 1) capn) (k + 1) (us.flatten ++ [.slice adp lenp capp]))
            (hgrow : (wr.alloc (.cells #[.slice adp lenp capp] 24)).grownBy w1 (Value.slice adu k capu).ownBlock) (hat : (Value.slice adu k capu).ownBlock = some gg ∨ gg = wr.heap.size + 1) =>
          ownII_push (W := w) HONE.out HELS.out HND.out HOWN.out HKL.out hp hf2 HF.out hb hbq hal hown1 hgrow (fun b hb => by
            simp [Value.ownBlock] at hb
            subst hb
            rcases hat with hat | hat
            · left; exact hat
            · right; rw [hat]; simp))
        have hsn : (turnZ xs len0).take (k + 1) = (turnZ xs len0).take k ++ [colZ xs k] := take_snoc (by simp [turnZ, hlt])
        have HSN := Lib.hid hsn
        clear hp hlp hfe hownp hal hcl hsn
        go_wp2_with (first | (at_builtin; refine wpList_append_lies _ rfl _ _ _ rfl 0 24 j1 _ 1 24 Try.underlying22 hj1 hw0 hw1 hw2 rfl (by omega) (.slice adu k capu) k _ (by rfl) (HNQ.out.alloc _) ⟨wr.heap.size, 0, none⟩ 1 1 [.slice adp lenp capp] (by rfl) (by rfl) (World.news_of_block (cs := #[.slice adp lenp capp]) (t := 24) (fr := (0, 0)) (heap_alloc_new wr _)) (by simp [Value.oneCell']) (by omega) (by unfold maxLen; omega) (by omega) (by simp) (wr.heap.size + 1) (by simp) ?_; intro gg capn w1 hown1 hgrow hat hlt1; obtain ⟨f', hP1, hP2, hP3⟩ := HS.out w1 gg capn hown1 hgrow hat; have HPP := Lib.hid hP1))
        all_goals (
          go_roundw
          case rel => exact ⟨k + 1, f', by omega, by go_num, by rw [HSN.out]; exact HPP.out, hP2, hP3⟩
          case measure => simp [intOf]; omega)
      obtain ⟨b, off, ad2, len2, cap2, y, hbo, hy, hcc0, h6, h7, h8, h9, hbs⟩ := rdII_get (rdII_mono (hb.trans (hbq.mono hb.size)) h') hql
      obtain ⟨rfl, rfl⟩ : b0 = b ∧ off0 = off := by simpa using hbo
      clear hbo
      have hyn : y.length = len0 := HR.out y (List.mem_of_getElem? hy)
      obtain ⟨b3, off3, z, rfl, hz, hcz0, hIz, hb3⟩ := rdI_get h9 (k := k) (by omega)
      have hcol : (colZ xs k)[q]? = some z := by simp [colZ, hy, hz]
      have hk2 : k < len2 := by omega
      have hyl : ((colZ xs k).take q).length = q := by rw [List.length_take, hcl]; omega
      obtain ⟨adp, lenp, capp, rfl, hlp, hlpc, hcpm, hownp, _, hfe⟩ := ownI_open hp
      obtain rfl : lenp = q := by omega
      have hal : Below wr.heap.size wr (wr.alloc (.cells #[.int .i64 z] 3)) := (Below.refl _ _).alloc (Nat.le_refl _) _
      have HP := Lib.hid (fun (w1 : World) (gg capn : Nat) (hown1 : w1.ownsRow 0 3 1 (.slice (some ⟨gg, 0, none⟩) (lenp + 1) capn) (lenp + 1) (((colZ xs k).take lenp).map (Value.int .i64) ++ [.int .i64 z]))
          (hgrow : (wr.alloc (.cells #[.int .i64 z] 3)).grownBy w1 (Value.slice adp lenp capp).ownBlock) (hat : (Value.slice adp lenp capp).ownBlock = some gg ∨ gg = wr.heap.size + 1) =>
        ownI_push hp hyl hIz hf2 hbq hal hown1 hgrow (fun b hb => by
          simp [Value.ownBlock] at hb
          subst hb
          rcases hat with hat | hat
          · left; exact hat
          · right; rw [hat]; simp))
      have HCOL := Lib.hid hcol
      have HNP := Lib.hid hownp
      clear hy hz h6 h7 h8 h9 hyn hcol hyl hp hlp hfe hal hownp hcl
      go_wp2_with (first | (at_builtin; refine wpList_append_lies _ rfl _ _ _ rfl 0 3 j0 _ 1 8 Try.underlying24 hj hz0 hz1 hz2 rfl (by omega) (.slice adp lenp capp) lenp _ (by rfl) (HNP.out.alloc _) ⟨wr.heap.size, 0, none⟩ 1 1 [.int .i64 z] (by rfl) (by rfl) (World.news_of_block (cs := #[.int .i64 z]) (t := 3) (fr := (0, 0)) (heap_alloc_new wr _)) (by simp [Value.oneCell']) (by omega) (by unfold maxLen; omega) (by omega) (by simp) (wr.heap.size + 1) (by simp) ?_; intro gg capn w1 hown1 hgrow hat hlt1; obtain ⟨f', hP1, hP2, hP3, _⟩ := HP.out w1 gg capn hown1 hgrow hat; have HPP := Lib.hid hP1))
      all_goals (
        go_roundw
        case rel => exact ⟨lenp + 1, f', by omega, by go_num, by rw [take_snoc HCOL.out]; exact HPP.out, hP2, hP3⟩
        case measure => simp [intOf]; omega)
end Go.Proofs.Ytdaaamdighojdaa
