/- The texts Lay4, ParI in one: each says at its head what it proves. Conditions: as said there. -/
import Derived.Shelf.Strings.Prefix
import Derived.Shelf.Strings.Cut
import Derived.Shelf.Strings.Split
import Derived.Test.YtbcjhpgkodeoeaaGreatDoorN41
set_option linter.unusedSimpArgs false
set_option linter.unusedVariables false
/- strings.HasPrefix, TrimPrefix, Cut and Split, laid at this program. Conditions: none. -/
namespace Go.Proofs.YtbcjhpgkodeoeaaGreatDoor
open Go.RowKit Go.Sort Go.Shelf

def strRen : Go.Shelf.Ren := ⟨fun | 99 => 179 | 101 => 180 | 138 => 177 | 143 => 178 | 145 => 181 | 146 => 87 | 195 => 203 | 197 => 204 | 206 => 158 | 208 => 207 | 217 => 216 | 218 => 205 | 219 => 206 | 220 => 208 | 221 => 140 | 224 => 218 | 225 => 217 | 260 => 215 | 266 => 221 | 267 => 219 | 268 => 176 | 314 => 222 | n => n, fun | 0 => 0 | 3 => 3 | 4 => 4 | 5 => 5 | 9 => 9 | 21 => 21 | 31 => 34 | 46 => 133 | 51 => 166 | 59 => 178 | 105 => 186 | 119 => 194 | 138 => 196 | 139 => 197 | 146 => 167 | n => n, fun | 1 => 0 | 3 => 1 | 4 => 2 | n => n⟩
theorem strLays99 : Lays.n99 Tryz.prog strRen := {
  mixed := by kernel_rfl
  f99 := Tryz.func179.trans (congrArg some (by kernel_rfl))
  f206 := Tryz.func158.trans (congrArg some (by kernel_rfl))
  t3 := Tryz.underlying3
  a3 := Tryz.isAgg3
  z3 := Tryz.sizeOf3
  v3 := Tryz.zeroValue3
  t4 := Tryz.underlying4
  a4 := Tryz.isAgg4
  z4 := Tryz.sizeOf4
  v4 := Tryz.zeroValue4
  t9 := Tryz.underlying9
  a9 := Tryz.isAgg9
  z9 := Tryz.sizeOf9
  v9 := Tryz.zeroValue9 }
theorem strLays101 : Lays.n101 Tryz.prog strRen := {
  mixed := by kernel_rfl
  f101 := Tryz.func180.trans (congrArg some (by kernel_rfl))
  f206 := Tryz.func158.trans (congrArg some (by kernel_rfl))
  f208 := Tryz.func207.trans (congrArg some (by kernel_rfl))
  t3 := Tryz.underlying3
  a3 := Tryz.isAgg3
  z3 := Tryz.sizeOf3
  v3 := Tryz.zeroValue3
  t4 := Tryz.underlying4
  a4 := Tryz.isAgg4
  z4 := Tryz.sizeOf4
  v4 := Tryz.zeroValue4
  t9 := Tryz.underlying9
  a9 := Tryz.isAgg9
  z9 := Tryz.sizeOf9
  v9 := Tryz.zeroValue9 }
theorem strLays145 : Lays.n145 Tryz.prog strRen := {
  mixed := by kernel_rfl
  f145 := Tryz.func181.trans (congrArg some (by kernel_rfl))
  f217 := Tryz.func216.trans (congrArg some (by kernel_rfl))
  f219 := Tryz.func206.trans (congrArg some (by kernel_rfl))
  f220 := Tryz.func208.trans (congrArg some (by kernel_rfl))
  f224 := Tryz.func218.trans (congrArg some (by kernel_rfl))
  f225 := Tryz.func217.trans (congrArg some (by kernel_rfl))
  f266 := Tryz.func221.trans (congrArg some (by kernel_rfl))
  f267 := Tryz.func219.trans (congrArg some (by kernel_rfl))
  f314 := Tryz.func222.trans (congrArg some (by kernel_rfl))
  t3 := Tryz.underlying3
  a3 := Tryz.isAgg3
  z3 := Tryz.sizeOf3
  v3 := Tryz.zeroValue3
  t4 := Tryz.underlying4
  a4 := Tryz.isAgg4
  z4 := Tryz.sizeOf4
  v4 := Tryz.zeroValue4
  t5 := Tryz.underlying5
  a5 := Tryz.isAgg5
  z5 := Tryz.sizeOf5
  v5 := Tryz.zeroValue5
  t9 := Tryz.underlying9
  a9 := Tryz.isAgg9
  z9 := Tryz.sizeOf9
  v9 := Tryz.zeroValue9
  t46 := Tryz.underlying133
  a46 := Tryz.isAgg133
  z46 := Tryz.sizeOf133
  v46 := Tryz.zeroValue133
  t51 := Tryz.underlying166
  a51 := Tryz.isAgg166
  z51 := Tryz.sizeOf166
  v51 := Tryz.zeroValue166
  t59 := Tryz.underlying178
  a59 := Tryz.isAgg178
  z59 := Tryz.sizeOf178
  v59 := Tryz.zeroValue178
  t146 := Tryz.underlying167
  a146 := Tryz.isAgg167
  z146 := Tryz.sizeOf167
  v146 := Tryz.zeroValue167
  g1 := by kernel_rfl }
theorem strLays146 : Lays.n146 Tryz.prog strRen := {
  mixed := by kernel_rfl
  f138 := Tryz.func177.trans (congrArg some (by kernel_rfl))
  f143 := Tryz.func178.trans (congrArg some (by kernel_rfl))
  f146 := Tryz.func87.trans (congrArg some (by kernel_rfl))
  f195 := Tryz.func203.trans (congrArg some (by kernel_rfl))
  f197 := Tryz.func204.trans (congrArg some (by kernel_rfl))
  f217 := Tryz.func216.trans (congrArg some (by kernel_rfl))
  f218 := Tryz.func205.trans (congrArg some (by kernel_rfl))
  f219 := Tryz.func206.trans (congrArg some (by kernel_rfl))
  f221 := Tryz.func140.trans (congrArg some (by kernel_rfl))
  f224 := Tryz.func218.trans (congrArg some (by kernel_rfl))
  f225 := Tryz.func217.trans (congrArg some (by kernel_rfl))
  f260 := Tryz.func215.trans (congrArg some (by kernel_rfl))
  f266 := Tryz.func221.trans (congrArg some (by kernel_rfl))
  f267 := Tryz.func219.trans (congrArg some (by kernel_rfl))
  f268 := Tryz.func176.trans (congrArg some (by kernel_rfl))
  f314 := Tryz.func222.trans (congrArg some (by kernel_rfl))
  t0 := Tryz.underlying0
  a0 := Tryz.isAgg0
  z0 := Tryz.sizeOf0
  v0 := Tryz.zeroValue0
  t3 := Tryz.underlying3
  a3 := Tryz.isAgg3
  z3 := Tryz.sizeOf3
  v3 := Tryz.zeroValue3
  t4 := Tryz.underlying4
  a4 := Tryz.isAgg4
  z4 := Tryz.sizeOf4
  v4 := Tryz.zeroValue4
  t5 := Tryz.underlying5
  a5 := Tryz.isAgg5
  z5 := Tryz.sizeOf5
  v5 := Tryz.zeroValue5
  t9 := Tryz.underlying9
  a9 := Tryz.isAgg9
  z9 := Tryz.sizeOf9
  v9 := Tryz.zeroValue9
  t21 := Tryz.underlying21
  a21 := Tryz.isAgg21
  z21 := Tryz.sizeOf21
  v21 := Tryz.zeroValue21
  t31 := Tryz.underlying34
  a31 := Tryz.isAgg34
  z31 := Tryz.sizeOf34
  v31 := Tryz.zeroValue34
  t46 := Tryz.underlying133
  a46 := Tryz.isAgg133
  z46 := Tryz.sizeOf133
  v46 := Tryz.zeroValue133
  t51 := Tryz.underlying166
  a51 := Tryz.isAgg166
  z51 := Tryz.sizeOf166
  v51 := Tryz.zeroValue166
  t105 := Tryz.underlying186
  a105 := Tryz.isAgg186
  z105 := Tryz.sizeOf186
  v105 := Tryz.zeroValue186
  t119 := Tryz.underlying194
  a119 := Tryz.isAgg194
  z119 := Tryz.sizeOf194
  t138 := Tryz.underlying196
  a138 := Tryz.isAgg196
  z138 := Tryz.sizeOf196
  v138 := Tryz.zeroValue196
  t139 := Tryz.underlying197
  a139 := Tryz.isAgg197
  z139 := Tryz.sizeOf197
  v139 := Tryz.zeroValue197
  t146 := Tryz.underlying167
  a146 := Tryz.isAgg167
  z146 := Tryz.sizeOf167
  v146 := Tryz.zeroValue167
  g1 := by kernel_rfl
  g3 := by kernel_rfl
  g4 := by kernel_rfl }
theorem str_list {s : ByteArray} {l : List UInt8} (hs : s = ByteArray.mk l.toArray) : s.data.toList = l := by subst hs; simp
theorem hasPrefix_any (l p : List UInt8) (s sp : ByteArray) (hs : s = ByteArray.mk l.toArray) (hp : sp = ByteArray.mk p.toArray) (w : World) :
    Calls Tryz.prog 179 #[.string s, .string sp] w fun e w' => e = .returned (.bool (Lib.hasPrefix l p)) ∧ w = w' := by
  refine (Any.strings_HasPrefix strLays99 s sp w).mono ?_
  rintro e w' ⟨he, hw⟩
  rw [str_list hs, str_list hp] at he
  exact ⟨he, hw.symm⟩
theorem trimPrefix_any (l p : List UInt8) (s sp : ByteArray) (hs : s = ByteArray.mk l.toArray) (hp : sp = ByteArray.mk p.toArray) (w : World) :
    Calls Tryz.prog 180 #[.string s, .string sp] w fun e w' => e = .returned (txt (Lib.trimPrefix l p)) ∧ w = w' := by
  refine (Any.strings_TrimPrefix strLays101 s sp w).mono ?_
  rintro e w' ⟨he, hw⟩
  rw [str_list hs, str_list hp] at he
  exact ⟨he, hw.symm⟩
/-- The cell of internal/bytealg.MaxLen. -/
def MaxCell (w : World) : Prop := ∃ m : Int, w.cell? ⟨0, 0, none⟩ = some (.int .i64 m)
theorem maxCell_mono {w w' : World} (hb : Below w.heap.size w w') (h : MaxCell w) : MaxCell w' := by
  obtain ⟨m, hm⟩ := h
  exact ⟨m, cell_below hb hm⟩
theorem cut_any (l p : List UInt8) (s sp : ByteArray) (hs : s = ByteArray.mk l.toArray) (hp : sp = ByteArray.mk p.toArray) (hl : l.length ≤ 1048576) (w : World) (hm : MaxCell w) :
    Calls Tryz.prog 181 #[.string s, .string sp] w fun e w' => e = .returned (.tuple #[txt (Lib.cut l p).1, txt (Lib.cut l p).2.1, .bool (Lib.cut l p).2.2]) ∧ Below w.heap.size w w' := by
  obtain ⟨m, hm⟩ := hm
  refine (Any.strings_Cut strLays145 s sp m w (by rw [str_size hs]; omega) hm).mono ?_
  rintro e w' ⟨he, n, hw⟩
  rw [str_list hs, str_list hp] at he
  exact ⟨he, hw ▸ blw_drewN (Below.refl _ _) n⟩
theorem splitB_txt (sp : ByteArray) (k : Nat) (s : ByteArray) : (Lib.splitB sp 0 k s).map Value.string = (Lib.splitK sp.data.toList 0 k s.data.toList).map txt := by
  rw [← Lib.splitB_data, List.map_map]
  refine List.map_congr_left fun x _ => ?_
  unfold txt
  simp
theorem split_any (l p : List UInt8) (s sp : ByteArray) (hs : s = ByteArray.mk l.toArray) (hp : sp = ByteArray.mk p.toArray) (hl : l.length ≤ 1048576) (h1 : 1 ≤ p.length) (w : World) (hm : MaxCell w) :
    Calls Tryz.prog 87 #[.string s, .string sp] w (Words w (Lib.split l p)) := by
  obtain ⟨m, hm⟩ := hm
  refine (Any.strings_Split strLays146 (by kernel_rfl) s sp m w (by rw [str_size hs]; omega) hm (by rw [str_size hp]; omega)).mono ?_
  rintro e w' ⟨rfl, rfl⟩
  have hc : Lib.countB s sp = Lib.count l p := by unfold Lib.countB; rw [str_list hs, str_list hp]
  have hlen : (Lib.splitB sp 0 (Lib.countB s sp) s).length = Lib.countB s sp + 1 := Lib.splitB_all sp (by rw [str_size hp]; omega) 0 _ s rfl
  have hx : (Lib.splitB sp 0 (Lib.countB s sp) s).map Value.string = (Lib.split l p).map txt := by rw [splitB_txt, str_list hs, str_list hp, hc]; rfl
  have hxl : (Lib.split l p).length = Lib.countB s sp + 1 := by rw [← hlen, ← List.length_map (f := txt), ← hx, List.length_map]
  have hle := split_len l p
  refine ⟨_, _, _, rfl, hxl, ⟨_, _, rfl, Nat.le_refl _⟩, ?_, (Below.refl _ _).alloc (Nat.le_refl _) _⟩
  rw [hx]
  have := World.ownsRow_lit (base := 0) (e := 9) (size := 1) w ((Lib.split l p).map txt).toArray (Lib.countB s sp + 1) (Nat.zero_le _) (by unfold maxLen; omega) (by simp [hxl])
  simp only [List.toList_toArray] at this
  exact this
end Go.Proofs.YtbcjhpgkodeoeaaGreatDoor

/- Numbers read from texts: the program. Conditions: texts of at most a million bytes. -/
namespace Go.Proofs.YtbcjhpgkodeoeaaGreatDoor
open Go.RowKit Go.Sort

theorem numI_yes {l : List UInt8} {n : Int} (h : numI l = n) (h0 : 0 ≤ n) (h1 : fmtT n = l) : okI l = true ∧ numV l = n := by
  have h2 : okI l = true := by rw [okI, h]; simp [h0, h1]
  exact ⟨h2, by rw [numV, if_pos h2, h]⟩
theorem numI_neg {l : List UInt8} {n : Int} (h : numI l = n) (h0 : n < 0) : okI l = false ∧ numV l = 0 := numV_no (by rw [okI, h, decide_eq_false_iff_not]; omega)
theorem numI_bad {l : List UInt8} {n : Int} (h : numI l = n) (h1 : fmtT n ≠ l) : okI l = false ∧ numV l = 0 := numV_no (by rw [okI, h, decide_eq_false_iff_not]; exact fun h => h1 h.2)
theorem trim_len (l p : List UInt8) : (Lib.trimPrefix l p).length ≤ l.length := by
  unfold Lib.trimPrefix
  split
  · rw [List.length_drop]; omega
  · exact Nat.le_refl _

set_option maxRecDepth 100000 in
set_option maxHeartbeats 3200000 in
theorem parseNum_any (l : List UInt8) (s : ByteArray) (hs : s = ByteArray.mk l.toArray) (hl : l.length ≤ 1048576) (w : World) (hm : MaxCell w) :
    Calls Tryz.prog 141 #[.string s] w fun e w' => e = .returned (.tuple #[.int .i64 (numV l), .bool (okI l)]) ∧ Below w.heap.size w w' := by
  have hsz := str_size hs
  have HBW := Lib.hid (Below.refl w.heap.size w)
  have HS := Lib.hid hs
  obtain ⟨n, hn⟩ : ∃ n, l.length = n := ⟨_, rfl⟩
  rw [hn] at hsz hl
  cases hpx : Lib.hasPrefix l [35] with
  | true =>
    have HP := Lib.hid (fun W : World => show Calls Tryz.prog 179 #[.string s, .string ⟨#[35]⟩] W fun e w' => e = .returned (.bool true) ∧ W = w' from hpx ▸ hasPrefix_any l [35] s _ hs rfl W)
    have hn1 : 1 ≤ n := by
      rw [← hn]
      cases l with
      | nil => simp [Lib.hasPrefix, List.isPrefixOf] at hpx
      | cons a r => simp
    have hnI : (1 : Int) ≤ n := by omega
    obtain ⟨u, hu⟩ : ∃ u, s.extract 1 n = u := ⟨_, rfl⟩
    have hur : u = ByteArray.mk (l.drop 1).toArray := txt_inj (by
      rw [← hu, str_cut hs, List.take_of_length_le (by rw [List.length_drop]; omega)])
    obtain ⟨D, hD⟩ : ∃ D, digI (l.drop 1) = D := ⟨_, rfl⟩
    have D1 := Lib.hid (fun W : World => show Calls Tryz.prog 142 #[.string u] W fun e w' => e = .returned (.int .i64 D) ∧ W = w' from hD ▸ readDec_any (l.drop 1) u hur W)
    have HNI := Lib.hid (show numI l = D from by rw [numI, if_pos hpx, hD])
    clear hs hn hpx hur hD
    go_enter Tryz.func141, Tryz.ntmps141
    go_wp2_with fail
    refine (HP.out _).mono ?_
    rintro e w' ⟨rfl, rfl⟩
    go_wp2_with fail
    refine (D1.out _).mono ?_
    rintro e w' ⟨rfl, rfl⟩
    by_cases hn0 : D < 0
    · have HT := Lib.hid (numI_neg HNI.out hn0)
      go_wp2
      all_goals (
        go_ret2
        rw [HT.out.1, HT.out.2]
        exact ⟨rfl, HBW.out⟩)
    obtain ⟨x, hx⟩ : ∃ x, txt (fmtT D) = .string x := ⟨_, rfl⟩
    have F1 := Lib.hid (fun W => show Calls Tryz.prog 90 #[.int .i64 D] W fun e w' => e = .returned (.string x) ∧ W = w' from hx ▸ fmtNum_any D W)
    have hcmp := fmt_cmp hx HS.out
    clear hx
    cases hd : decide (fmtT D = l) with
    | true =>
      rw [hd] at hcmp
      have HT := Lib.hid (numI_yes HNI.out (by omega) (by simpa using hd))
      clear hd
      go_wp2_with fail
      refine (F1.out _).mono ?_
      rintro e w9 ⟨rfl, rfl⟩
      go_wp2
      go_ret2
      rw [HT.out.1, HT.out.2]
      exact ⟨rfl, HBW.out⟩
    | false =>
      rw [hd] at hcmp
      have HT := Lib.hid (numI_bad HNI.out (by simpa using hd))
      clear hd
      go_wp2_with fail
      refine (F1.out _).mono ?_
      rintro e w9 ⟨rfl, rfl⟩
      go_wp2
      go_ret2
      rw [HT.out.1, HT.out.2]
      exact ⟨rfl, HBW.out⟩
  | false =>
    have HP := Lib.hid (fun W : World => show Calls Tryz.prog 179 #[.string s, .string ⟨#[35]⟩] W fun e w' => e = .returned (.bool false) ∧ W = w' from hpx ▸ hasPrefix_any l [35] s _ hs rfl W)
    obtain ⟨T, hT⟩ : ∃ T, Lib.trimPrefix l [45] = T := ⟨_, rfl⟩
    obtain ⟨t, ht⟩ : ∃ t, t = ByteArray.mk T.toArray := ⟨_, rfl⟩
    have htz := str_size ht
    obtain ⟨tn, htn⟩ : ∃ tn, T.length = tn := ⟨_, rfl⟩
    rw [htn] at htz
    have htl : tn ≤ n := by rw [← htn, ← hT, ← hn]; exact trim_len _ _
    have TP := Lib.hid (fun W : World => show Calls Tryz.prog 180 #[.string s, .string ⟨#[45]⟩] W fun e w' => e = .returned (.string t) ∧ W = w' from by
      have := trimPrefix_any l [45] s ⟨#[45]⟩ hs rfl W
      rw [hT] at this
      rw [ht]
      exact this)
    obtain ⟨⟨X, Y, c3⟩, hc⟩ : ∃ c, Lib.cut T [47] = c := ⟨_, rfl⟩
    obtain ⟨x, hx⟩ : ∃ x, x = ByteArray.mk X.toArray := ⟨_, rfl⟩
    obtain ⟨y, hy⟩ : ∃ y, y = ByteArray.mk Y.toArray := ⟨_, rfl⟩
    have CU := Lib.hid (show Calls Tryz.prog 181 #[.string t, .string ⟨#[47]⟩] w fun e w' => e = .returned (.tuple #[.string x, .string y, .bool c3]) ∧ Below w.heap.size w w' from by
      have := cut_any T [47] t ⟨#[47]⟩ ht rfl (by omega) w hm
      rw [hc] at this
      rw [hx, hy]
      exact this)
    obtain ⟨A, hA⟩ : ∃ A, digI X = A := ⟨_, rfl⟩
    have D0 := Lib.hid (fun W : World => show Calls Tryz.prog 142 #[.string x] W fun e w' => e = .returned (.int .i64 A) ∧ W = w' from hA ▸ readDec_any X x hx W)
    have hnum : numI l = if A < 0 ∨ (if c3 = true then digI Y else 1) < 1 then -1 else if tn < n then (-(fracZ A (if c3 = true then digI Y else 1))) % 1000000271 else fracZ A (if c3 = true then digI Y else 1) := by
      rw [numI, if_neg (by rw [hpx]; simp), hT, hc, htn, hn]
      simp only [hA]
    cases c3 with
    | true =>
      obtain ⟨B, hB⟩ : ∃ B, digI Y = B := ⟨_, rfl⟩
      have D1 := Lib.hid (fun W : World => show Calls Tryz.prog 142 #[.string y] W fun e w' => e = .returned (.int .i64 B) ∧ W = w' from hB ▸ readDec_any Y y hy W)
      rw [if_pos rfl, hB] at hnum
      have HN0 := Lib.hid hnum
      clear hs hn hpx hT ht htn hc hx hy hA hB hnum
      go_enter Tryz.func141, Tryz.ntmps141
      go_wp2_with fail
      refine (HP.out _).mono ?_
      rintro e w' ⟨rfl, rfl⟩
      go_wp2_with fail
      refine (TP.out _).mono ?_
      rintro e w' ⟨rfl, rfl⟩
      go_wp2_with fail
      refine CU.out.mono ?_
      rintro e w1 ⟨rfl, hb1⟩
      have HBQ := Lib.hid hb1
      clear hb1
      go_wp2_with fail
      refine (D1.out _).mono ?_
      rintro e w' ⟨rfl, rfl⟩
      go_wp2_with fail
      refine (D0.out _).mono ?_
      rintro e w' ⟨rfl, rfl⟩
      by_cases hbad : A < 0 ∨ B < 1
      · have HT := Lib.hid (numI_neg (HN0.out.trans (if_pos hbad)) (by decide))
        by_cases hA0 : A < 0
        · go_wp2
          go_ret2
          rw [HT.out.1, HT.out.2]
          exact ⟨rfl, HBQ.out⟩
        · have hB1 : B < 1 := by omega
          go_wp2
          go_ret2
          rw [HT.out.1, HT.out.2]
          exact ⟨rfl, HBQ.out⟩
      · have HNUM := Lib.hid (HN0.out.trans (if_neg hbad))
        have hA0 : ¬ A < 0 := by omega
        have hB1 : ¬ B < 1 := by omega
        clear hbad
        -- the fraction, turned round if the text had a sign
        obtain ⟨F, hF⟩ : ∃ F, fracZ A B = F := ⟨_, rfl⟩
        have hF0 : 0 ≤ F ∧ F ≤ 1000000270 := hF ▸ frac_bd A B
        obtain ⟨hF1, hF2⟩ := hF0
        have FR := Lib.hid (fun W : World => show Calls Tryz.prog 65 #[.int .i64 A, .int .i64 B] W fun e w' => e = .returned (.int .i64 F) ∧ W = w' from hF ▸ fraction_any A B W)
        by_cases hlen : tn < n
        · have hlI : (tn : Int) < n := by omega
          obtain ⟨NVV, hNV⟩ : ∃ N, (-F) % 1000000271 = N := ⟨_, rfl⟩
          have hnv0 : 0 ≤ NVV := by omega
          have HNI := Lib.hid (show numI l = NVV from by rw [HNUM.out, if_pos hlen, hF, hNV])
          have hwn : IntKind.i64.wrap (-F) = -F := IntWalk.i64_in _ (by omega)
          have RS := Lib.hid (fun W : World => show Calls Tryz.prog 84 #[.int .i64 (-F)] W fun e w' => e = .returned (.int .i64 NVV) ∧ W = w' from hNV ▸ residue_any (-F) W)
          clear hF hNV
          go_wp2_with fail
          refine (FR.out _).mono ?_
          rintro e w' ⟨rfl, rfl⟩
          go_wp2_with fail
          refine (RS.out _).mono ?_
          rintro e w' ⟨rfl, rfl⟩
          by_cases hn0 : NVV < 0
          · have HT := Lib.hid (numI_neg HNI.out hn0)
            go_wp2
            all_goals (
              go_ret2
              rw [HT.out.1, HT.out.2]
              exact ⟨rfl, HBQ.out⟩)
          obtain ⟨x, hx⟩ : ∃ x, txt (fmtT NVV) = .string x := ⟨_, rfl⟩
          have F1 := Lib.hid (fun W => show Calls Tryz.prog 90 #[.int .i64 NVV] W fun e w' => e = .returned (.string x) ∧ W = w' from hx ▸ fmtNum_any NVV W)
          have hcmp := fmt_cmp hx HS.out
          clear hx
          cases hd : decide (fmtT NVV = l) with
          | true =>
            rw [hd] at hcmp
            have HT := Lib.hid (numI_yes HNI.out (by omega) (by simpa using hd))
            clear hd
            go_wp2_with fail
            refine (F1.out _).mono ?_
            rintro e w9 ⟨rfl, rfl⟩
            go_wp2
            go_ret2
            rw [HT.out.1, HT.out.2]
            exact ⟨rfl, HBQ.out⟩
          | false =>
            rw [hd] at hcmp
            have HT := Lib.hid (numI_bad HNI.out (by simpa using hd))
            clear hd
            go_wp2_with fail
            refine (F1.out _).mono ?_
            rintro e w9 ⟨rfl, rfl⟩
            go_wp2
            go_ret2
            rw [HT.out.1, HT.out.2]
            exact ⟨rfl, HBQ.out⟩
        · have hlI : ¬ ((tn : Int) < n) := by omega
          have HNI := Lib.hid (show numI l = F from by rw [HNUM.out, if_neg hlen, hF])
          clear hF
          go_wp2_with fail
          refine (FR.out _).mono ?_
          rintro e w' ⟨rfl, rfl⟩
          by_cases hn0 : F < 0
          · have HT := Lib.hid (numI_neg HNI.out hn0)
            go_wp2
            all_goals (
              go_ret2
              rw [HT.out.1, HT.out.2]
              exact ⟨rfl, HBQ.out⟩)
          obtain ⟨x, hx⟩ : ∃ x, txt (fmtT F) = .string x := ⟨_, rfl⟩
          have F1 := Lib.hid (fun W => show Calls Tryz.prog 90 #[.int .i64 F] W fun e w' => e = .returned (.string x) ∧ W = w' from hx ▸ fmtNum_any F W)
          have hcmp := fmt_cmp hx HS.out
          clear hx
          cases hd : decide (fmtT F = l) with
          | true =>
            rw [hd] at hcmp
            have HT := Lib.hid (numI_yes HNI.out (by omega) (by simpa using hd))
            clear hd
            go_wp2_with fail
            refine (F1.out _).mono ?_
            rintro e w9 ⟨rfl, rfl⟩
            go_wp2
            go_ret2
            rw [HT.out.1, HT.out.2]
            exact ⟨rfl, HBQ.out⟩
          | false =>
            rw [hd] at hcmp
            have HT := Lib.hid (numI_bad HNI.out (by simpa using hd))
            clear hd
            go_wp2_with fail
            refine (F1.out _).mono ?_
            rintro e w9 ⟨rfl, rfl⟩
            go_wp2
            go_ret2
            rw [HT.out.1, HT.out.2]
            exact ⟨rfl, HBQ.out⟩
    | false =>
      have HN0 := Lib.hid (show numI l = if A < 0 then -1 else if tn < n then (-(fracZ A 1)) % 1000000271 else fracZ A 1 from by
        rw [hnum]
        simp)
      clear hs hn hpx hT ht htn hc hx hy hA hnum
      go_enter Tryz.func141, Tryz.ntmps141
      go_wp2_with fail
      refine (HP.out _).mono ?_
      rintro e w' ⟨rfl, rfl⟩
      go_wp2_with fail
      refine (TP.out _).mono ?_
      rintro e w' ⟨rfl, rfl⟩
      go_wp2_with fail
      refine CU.out.mono ?_
      rintro e w1 ⟨rfl, hb1⟩
      have HBQ := Lib.hid hb1
      clear hb1
      go_wp2_with fail
      refine (D0.out _).mono ?_
      rintro e w' ⟨rfl, rfl⟩
      by_cases hA0 : A < 0
      · have HT := Lib.hid (numI_neg (HN0.out.trans (if_pos hA0)) (by decide))
        go_wp2
        go_ret2
        rw [HT.out.1, HT.out.2]
        exact ⟨rfl, HBQ.out⟩
      · have HNUM := Lib.hid (HN0.out.trans (if_neg hA0))
        -- the fraction, turned round if the text had a sign
        obtain ⟨F, hF⟩ : ∃ F, fracZ A (1 : Int) = F := ⟨_, rfl⟩
        have hF0 : 0 ≤ F ∧ F ≤ 1000000270 := hF ▸ frac_bd A (1 : Int)
        obtain ⟨hF1, hF2⟩ := hF0
        have FR := Lib.hid (fun W : World => show Calls Tryz.prog 65 #[.int .i64 A, .int .i64 (1 : Int)] W fun e w' => e = .returned (.int .i64 F) ∧ W = w' from hF ▸ fraction_any A (1 : Int) W)
        by_cases hlen : tn < n
        · have hlI : (tn : Int) < n := by omega
          obtain ⟨NVV, hNV⟩ : ∃ N, (-F) % 1000000271 = N := ⟨_, rfl⟩
          have hnv0 : 0 ≤ NVV := by omega
          have HNI := Lib.hid (show numI l = NVV from by rw [HNUM.out, if_pos hlen, hF, hNV])
          have hwn : IntKind.i64.wrap (-F) = -F := IntWalk.i64_in _ (by omega)
          have RS := Lib.hid (fun W : World => show Calls Tryz.prog 84 #[.int .i64 (-F)] W fun e w' => e = .returned (.int .i64 NVV) ∧ W = w' from hNV ▸ residue_any (-F) W)
          clear hF hNV
          go_wp2_with fail
          refine (FR.out _).mono ?_
          rintro e w' ⟨rfl, rfl⟩
          go_wp2_with fail
          refine (RS.out _).mono ?_
          rintro e w' ⟨rfl, rfl⟩
          by_cases hn0 : NVV < 0
          · have HT := Lib.hid (numI_neg HNI.out hn0)
            go_wp2
            all_goals (
              go_ret2
              rw [HT.out.1, HT.out.2]
              exact ⟨rfl, HBQ.out⟩)
          obtain ⟨x, hx⟩ : ∃ x, txt (fmtT NVV) = .string x := ⟨_, rfl⟩
          have F1 := Lib.hid (fun W => show Calls Tryz.prog 90 #[.int .i64 NVV] W fun e w' => e = .returned (.string x) ∧ W = w' from hx ▸ fmtNum_any NVV W)
          have hcmp := fmt_cmp hx HS.out
          clear hx
          cases hd : decide (fmtT NVV = l) with
          | true =>
            rw [hd] at hcmp
            have HT := Lib.hid (numI_yes HNI.out (by omega) (by simpa using hd))
            clear hd
            go_wp2_with fail
            refine (F1.out _).mono ?_
            rintro e w9 ⟨rfl, rfl⟩
            go_wp2
            go_ret2
            rw [HT.out.1, HT.out.2]
            exact ⟨rfl, HBQ.out⟩
          | false =>
            rw [hd] at hcmp
            have HT := Lib.hid (numI_bad HNI.out (by simpa using hd))
            clear hd
            go_wp2_with fail
            refine (F1.out _).mono ?_
            rintro e w9 ⟨rfl, rfl⟩
            go_wp2
            go_ret2
            rw [HT.out.1, HT.out.2]
            exact ⟨rfl, HBQ.out⟩
        · have hlI : ¬ ((tn : Int) < n) := by omega
          have HNI := Lib.hid (show numI l = F from by rw [HNUM.out, if_neg hlen, hF])
          clear hF
          go_wp2_with fail
          refine (FR.out _).mono ?_
          rintro e w' ⟨rfl, rfl⟩
          by_cases hn0 : F < 0
          · have HT := Lib.hid (numI_neg HNI.out hn0)
            go_wp2
            all_goals (
              go_ret2
              rw [HT.out.1, HT.out.2]
              exact ⟨rfl, HBQ.out⟩)
          obtain ⟨x, hx⟩ : ∃ x, txt (fmtT F) = .string x := ⟨_, rfl⟩
          have F1 := Lib.hid (fun W => show Calls Tryz.prog 90 #[.int .i64 F] W fun e w' => e = .returned (.string x) ∧ W = w' from hx ▸ fmtNum_any F W)
          have hcmp := fmt_cmp hx HS.out
          clear hx
          cases hd : decide (fmtT F = l) with
          | true =>
            rw [hd] at hcmp
            have HT := Lib.hid (numI_yes HNI.out (by omega) (by simpa using hd))
            clear hd
            go_wp2_with fail
            refine (F1.out _).mono ?_
            rintro e w9 ⟨rfl, rfl⟩
            go_wp2
            go_ret2
            rw [HT.out.1, HT.out.2]
            exact ⟨rfl, HBQ.out⟩
          | false =>
            rw [hd] at hcmp
            have HT := Lib.hid (numI_bad HNI.out (by simpa using hd))
            clear hd
            go_wp2_with fail
            refine (F1.out _).mono ?_
            rintro e w9 ⟨rfl, rfl⟩
            go_wp2
            go_ret2
            rw [HT.out.1, HT.out.2]
            exact ⟨rfl, HBQ.out⟩
end Go.Proofs.YtbcjhpgkodeoeaaGreatDoor
