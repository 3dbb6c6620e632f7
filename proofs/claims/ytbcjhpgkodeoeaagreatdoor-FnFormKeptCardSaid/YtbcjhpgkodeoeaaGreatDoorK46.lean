/- SymplecticForm of the program. Conditions: lengths of slices up to 2^20. -/
import Derived.Test.YtbcjhpgkodeoeaaGreatDoorK13
import Derived.Test.YtbcjhpgkodeoeaaGreatDoorK16
set_option linter.unusedSimpArgs false
set_option linter.unusedVariables false

namespace Go.Proofs.YtbcjhpgkodeoeaaGreatDoor
open Go.RowKit Go.Sort

set_option maxRecDepth 100000 in
set_option maxHeartbeats 6400000 in
theorem iForm_any (va vb : Value) (xs ys : List (List Int)) (w : World) (ha : RdII w va xs) (hb : RdII w vb ys) (hfit : hdL xs ≤ 1048576) :
    Calls Tryz.prog 15 #[va, vb] w (Gives (fun w' v fp => OwnI 3 w' v (sympFormL xs ys) fp) w) := by
  have hnone : sfOkB xs ys = false → Gives (fun w' v fp => OwnI 3 w' v (sympFormL xs ys) fp) w (.returned (.slice none 0 0)) w := by
    intro hd
    refine ⟨_, [], rfl, ?_, by simp, Below.refl _ _⟩
    rw [sympFormL, hd]
    exact ⟨World.ownsRow_nil _ _ _ _, rfl, by simp⟩
  obtain ⟨ad, len, cap, rfl, hl, hlc, hcm, h'⟩ := rdS_open ha
  obtain ⟨ad2, len2, cap2, rfl, hl2, hlc2, hcm2, h2'⟩ := rdS_open hb
  clear ha hb
  by_cases hz : len = 0
  · subst hz
    have HN := Lib.hid (hnone (by rw [List.eq_nil_of_length_eq_zero hl]; rfl))
    clear hnone hl hl2
    go_enter Tryz.func15, Tryz.ntmps15
    go_wp2
    go_ret
    exact HN.out
  by_cases hll : len = len2
  case neg =>
    have HN := Lib.hid (hnone (by simp [sfOkB, hl, hl2, hll]))
    have hlb : ((len : Int) == len2) = false := by simp; omega
    have hzb : ((len : Int) == 0) = false := by simp; omega
    clear hnone hl hl2
    go_enter Tryz.func15, Tryz.ntmps15
    go_wp2
    go_ret
    exact HN.out
  subst hll
  obtain ⟨b, off, ad', n, cap', x0, rfl, hx0, hcc, h6, h7, h8, h9, hbs⟩ := rdII_get h' (k := 0) (by omega)
  have hhd : hdL xs = n := by
    cases xs with
    | nil => simp at hx0
    | cons y ys =>
      simp only [List.getElem?_cons_zero, Option.some.injEq] at hx0
      subst hx0
      exact h6
  have hdd : sfOkB xs ys = (decide (n % 2 = 0) && (pathOkB xs n && pathOkB ys n)) := by
    simp [sfOkB, hl, hl2, hz, hhd]
  have hzb : ((len : Int) == 0) = false := by simp; omega
  have hzp : (0 : Int) < len := by omega
  simp only [Nat.add_zero] at hcc
  rw [hhd] at hfit
  have HL := Lib.hid hl
  have HL2 := Lib.hid hl2
  have HDD := Lib.hid hdd
  have HHD := Lib.hid hhd
  clear hl hl2 hdd hhd hx0 h6
  rcases Nat.mod_two_eq_zero_or_one n with hpar | hpar
  case inr =>
    have HN := Lib.hid (hnone (by rw [HDD.out]; simp [hpar]))
    have hpb : ((n : Int).tmod 2 == 0) = false := by
      have : (n : Int).tmod 2 = 1 := by rw [Int.tmod_eq_emod_of_nonneg (by omega)]; omega
      rw [this]; rfl
    clear hnone
    go_enter Tryz.func15, Tryz.ntmps15
    go_wp2
    go_ret
    exact HN.out
  have hpb : ((n : Int).tmod 2 == 0) = true := by
    have : (n : Int).tmod 2 = 0 := by rw [Int.tmod_eq_emod_of_nonneg (by omega)]; omega
    rw [this]; rfl
  cases hok : pathOkB xs n with
  | false =>
    have HN := Lib.hid (hnone (by rw [HDD.out, hok]; simp))
    clear hnone
    go_enter Tryz.func15, Tryz.ntmps15
    go_wp2_with (go_at_call 67; ((with_reducible refine (pathOk_any _ xs _ _ h').mono ?_); rintro e w' ⟨rfl, rfl⟩; rw [hok]))
    go_ret
    exact HN.out
  | true =>
  cases hok2 : pathOkB ys n with
  | false =>
    have HN := Lib.hid (hnone (by rw [HDD.out, hok2]; simp))
    clear hnone
    go_enter Tryz.func15, Tryz.ntmps15
    go_wp2_with (first
      | (go_at_call 67; ((with_reducible refine (pathOk_any _ xs _ _ h').mono ?_); rintro e w' ⟨rfl, rfl⟩; rw [hok]))
      | (go_at_call 67; ((with_reducible refine (pathOk_any _ ys _ _ h2').mono ?_); rintro e w' ⟨rfl, rfl⟩; rw [hok2])))
    go_ret
    exact HN.out
  | true =>
  obtain ⟨m, rfl⟩ : ∃ m, n = 2 * m := ⟨n / 2, by omega⟩
  have hsf : sympFormL xs ys = sfZ xs ys m m := by
    rw [sympFormL, HDD.out, hok, hok2, HHD.out, Nat.mul_mod_right, Nat.mul_div_cancel_left _ (by omega)]
    rfl
  obtain ⟨q1, q2, q3, q4⟩ := pathOk_facts hok
  obtain ⟨_, _, q5, q6⟩ := pathOk_facts hok2
  rw [HL.out] at q1 q2
  have hquo : ((2 * m : Nat) : Int).tdiv 2 = m := by rw [Int.tdiv_eq_ediv_of_nonneg (by omega)]; omega
  have HSF := Lib.hid hsf
  have Q3 := Lib.hid q3
  have Q4 := Lib.hid q4
  have Q5 := Lib.hid q5
  have Q6 := Lib.hid q6
  have em : ((2 * m : Nat) : Int) = 2 * (m : Int) := by omega
  have hok' : pathOkB xs (2 * (m : Int)) = true := em ▸ hok
  have hok2' : pathOkB ys (2 * (m : Int)) = true := em ▸ hok2
  rw [em] at hquo hpb
  have uw : IntKind.i64.wrap (2 * (m : Int)) = 2 * (m : Int) := IntWalk.i64_in _ (by omega)
  clear em
  clear hsf q3 q4 q5 q6 hnone
  obtain ⟨i0, hi, hz0, hz1, hz2⟩ := info_parts Tryz.info_int
  have hib : i0.bytes * len ≤ 281474976710656 := by rw [hz2]; omega
  go_enter Tryz.func15, Tryz.ntmps15
  go_wp2_with (first
    | (go_at_call 67; ((with_reducible refine (pathOk_any _ xs _ _ h').mono ?_); rintro e w' ⟨rfl, rfl⟩; rw [hok']))
    | (go_at_call 67; ((with_reducible refine (pathOk_any _ ys _ _ h2').mono ?_); rintro e w' ⟨rfl, rfl⟩; rw [hok2']))
    | (go_at_call 61; ((with_reducible refine (jets_at _ xs (2 * m) _ _ (by omega) h' (by omega) (by have := HL.out; omega) Q3.out).mono ?_); rintro e w1 ⟨vx, fx, rfl, hox, hfx, hbx⟩))
    | (at_make; refine wpList_make_full _ rfl _ _ 89 rfl 0 3 i0 (.int .i64 0) 1 Tryz.underlying89 hi hz0 hz1 .i64 .i64 _ _ len rfl rfl rfl rfl hib (by unfold maxLen; omega) (Nat.zero_le _) ?_; intro w3 hown3 hgrow3)
    | (go_at_call 61; ((with_reducible refine (jets_at _ ys (2 * m) _ _ (by omega) (rdII_mono hbx h2') (by omega) (by have := HL2.out; omega) Q5.out).mono ?_); rintro e w2 ⟨vy, fy, rfl, hoy, hfy, hby⟩)))
  have hm0 : (madeCells (Value.int .i64 0).cells (len * 1)).toList = (List.replicate len (0 : Int)).map (Value.int .i64) := by
    rw [Nat.mul_one, List.map_replicate]; exact toList_madeCells_one _ _
  rw [hm0] at hown3
  have hb3 : Below w2.heap.size w2 w3 := (Below.refl _ _).grown hgrow3 (Nat.le_refl _) (fun k hk => by cases hk)
  have hxr : RdII w3 vx (turnZ xs (2 * m)) := rdII_mono hb3 (rdII_mono hby (ownII_rd hox))
  have hyr : RdII w3 vy (turnZ ys (2 * m)) := rdII_mono hb3 (ownII_rd hoy)
  have hbw : Below w.heap.size w w3 := hbx.trans ((hby.trans (hb3.mono hby.size)).mono hbx.size)
  have hout : OwnI 3 w3 (.slice (some ⟨w2.heap.size, 0, none⟩) len len) (sfZ xs ys m 0) [w2.heap.size] := ⟨by rw [sfZ, List.length_replicate, HL.out]; exact hown3, rfl, fun x hx => i64_of_bd (sfZ_nums xs ys m 0 x hx)⟩
  have hwz : w.heap.size ≤ w2.heap.size := Nat.le_trans hbx.size hby.size
  obtain ⟨adx, lx, capx, rfl, hlx, hlcx, hcmx, hrx⟩ := rdS_open hxr
  obtain ⟨ady, ly, capy, rfl, hly, hlcy, hcmy, hry⟩ := rdS_open hyr
  rw [turnZ_len] at hlx hly
  subst hlx hly
  have HXR := Lib.hid hxr
  have HYR := Lib.hid hyr
  have HBW := Lib.hid hbw
  have HOUT := Lib.hid hout
  clear hox hoy hxr hyr hbw hout hrx hry hown3 hm0 hb3 hbx hby hgrow3 hfx hfy hi hz0 hz1 hz2 hib
  go_loopw [8, 63] (fun u i wr => ∃ (k : Nat) (f : List Nat), k ≤ m ∧ i = .int .i64 k ∧ OwnI 3 wr u (sfZ xs ys m k) f ∧ (∀ b ∈ f, w.heap.size ≤ b) ∧ Below w.heap.size w wr ∧ RdII wr (.slice adx (2 * m) capx) (turnZ xs (2 * m)) ∧ RdII wr (.slice ady (2 * m) capy) (turnZ ys (2 * m))) (fun _ i _ => m - (intOf i).toNat)
  case atStart => exact ⟨0, _, Nat.zero_le _, rfl, HOUT.out, by simpa using hwz, HBW.out, HXR.out, HYR.out⟩
  case round =>
    obtain ⟨k, f, hk, rfl, ho, hf, hb, hxr, hyr⟩ := hrel
    clear HXR HYR HBW HOUT
    by_cases hlt : k < m
    case neg =>
      obtain rfl : k = m := by omega
      go_wp2
      go_ret
      exact ⟨_, f, rfl, by rw [HSF.out]; exact ho, hf, hb⟩
    obtain ⟨bX, oX, ax1, lx1, cx1, rfl, hcx1, hlx1, hrx1⟩ := turn_get hxr (i := k) (by omega)
    obtain ⟨bY, oY, ay1, ly1, cy1, rfl, hcy1, hly1, hry1⟩ := turn_get hyr (i := m + k) (by omega)
    obtain ⟨bX', oX', ax2, lx2, cx2, he1, hcx2, hlx2, hrx2⟩ := turn_get hxr (i := m + k) (by omega)
    obtain ⟨bY', oY', ay2, ly2, cy2, he2, hcy2, hly2, hry2⟩ := turn_get hyr (i := k) (by omega)
    simp only [Option.some.injEq, Addr.mk.injEq] at he1 he2
    obtain ⟨rfl, rfl, _⟩ := he1
    obtain ⟨rfl, rfl, _⟩ := he2
    obtain ⟨adu, lenu, capu, rfl, hlu, hluc, hcum, _, _, hfe⟩ := ownI_open ho
    have u1 : IntKind.i64.wrap ((m : Int) + k) = (m : Int) + k := IntWalk.i64_in _ (by omega)
    have u4 : ((m : Int) + k).toNat = m + k := by omega
    have u5 : 0 ≤ (m : Int) + k := by omega
    have u6 : (m : Int) + k < 2 * m := by omega
    have u7 : (k : Int) < 2 * m := by omega
    have u8 : k < 2 * m := by omega
    have u9 : m + k < 2 * m := by omega
    have hdr : Below wr.heap.size wr wr.drew := (Below.refl _ _).drew
    have M1 := Lib.hid (timesJ_any _ _ _ _ _ (rdI_mono hdr hrx1) (rdI_mono hdr hry1) (by rw [colZ_len, colZ_len, HL.out, HL2.out]; exact Nat.le_refl _) (by rw [colZ_len, HL.out]; exact q2) (colZ_nums Q4.out _) (colZ_nums Q6.out _))
    have M2 := Lib.hid (fun (wz : World) (hz : Below wr.heap.size wr wz) => timesJ_any _ _ _ _ wz (rdI_mono hz hrx2) (rdI_mono hz hry2) (by rw [colZ_len, colZ_len, HL.out, HL2.out]; exact Nat.le_refl _) (by rw [colZ_len, HL.out]; exact q2) (colZ_nums Q4.out _) (colZ_nums Q6.out _))
    have HO := Lib.hid ho
    clear ho hrx1 hry1 hrx2 hry2 hlx1 hly1 hlx2 hly2 hlu
    go_wp2
    go_region_law (go_simp; first | (go_at_call 69; (with_reducible refine (M1.out).mono ?_); rintro e wa ⟨p, fp, rfl, hop, hfp, hba⟩; have hra := hdr.trans (hba.mono hdr.size); have hxa := cell_below hra hcx2; have hya := cell_below hra hcy2) | (go_at_call 68; have A1 := plusJ_any _ _ (sfZ xs ys m k) (mulZ (colZ xs k) (colZ ys (m + k))) 1 _ (ownI_rd (ownI_only HO.out (Only.of_below (fp := []) hra) (by simp))) (ownI_rd hop) (by rw [sfZ_len, mulZ_len, colZ_len]; exact Nat.le_refl _) (by rw [sfZ_len, HL.out]; omega); (with_reducible refine A1.mono ?_); rintro e wb ⟨p2, fp2, rfl, hop2, hfp2, hbb⟩; have hrb := hra.trans (hbb.mono hra.size); have hxb := cell_below hrb hcx2; have hyb := cell_below hrb hcy2) | (go_at_call 69; (with_reducible refine (M2.out _ hrb).mono ?_); rintro e wc ⟨p3, fp3, rfl, hop3, hfp3, hbc⟩; have hrc := hrb.trans (hbc.mono hrb.size)) | (go_at_call 68; have A2 := plusJ_any _ _ (addJ (sfZ xs ys m k) (mulZ (colZ xs k) (colZ ys (m + k))) 1) (mulZ (colZ xs (m + k)) (colZ ys k)) (-1) _ (ownI_rd (ownI_only hop2 (Only.of_below (fp := []) hbc) (by simp))) (ownI_rd hop3) (by rw [addJ_len, sfZ_len, mulZ_len, colZ_len]; exact Nat.le_refl _) (by rw [addJ_len, sfZ_len, HL.out]; omega); (with_reducible refine A2.mono ?_); rintro e wd ⟨p4, fp4, rfl, hop4, hfp4, hbd⟩; have hrd := hrc.trans (hbd.mono hrc.size)))
    all_goals (
      have hn4 : ∀ b ∈ fp4, w.heap.size ≤ b := fun b' hb' => by
        have h1 := hfp4 b' hb'
        have h2 := hrc.size
        have h4 := hb.size
        omega
      have HR4 := Lib.hid hrd
      have HO4 := Lib.hid hop4
      clear hop hop2 hop3 hop4 hrd hrc hrb hra hba hbb hbc hbd hfp hfp2 hfp3 hfp4 M1 M2 A1 A2 HO hxa hya hxb hyb hcx1 hcy1 hcx2 hcy2
      go_wp2
      go_roundw
      case rel => exact ⟨k + 1, fp4, by omega, by go_num, HO4.out, hn4, hb.trans (HR4.out.mono hb.size), rdII_mono HR4.out hxr, rdII_mono HR4.out hyr⟩
      case measure => simp [intOf]; omega)
end Go.Proofs.YtbcjhpgkodeoeaaGreatDoor
