/- The texts DrwC, DrwI, Join, FmtP, FmtW in one: each says at its head what it proves. Conditions: as said there. -/
import Derived.Lib.SlBytesRow
import Derived.Laws.IdiomStrings
import Derived.Shelf.Strings.OnBuilder
import Derived.Deep.AppendLies
import Derived.Deep.RegionLaw
import Derived.Test.YtbcjhpgkodeoeaaGreatDoorG02
import Derived.Test.YtbcjhpgkodeoeaaGreatDoorG03
import Derived.Test.YtbcjhpgkodeoeaaGreatDoorG17
import Derived.Test.YtbcjhpgkodeoeaaGreatDoorG25
set_option linter.unusedSimpArgs false
set_option linter.unusedVariables false
/- A text that is drawn out of another one: a byte more, less or changed. Conditions: a cursor, a short text. -/
namespace Go.Proofs.YtbcjhpgkodeoeaaGreatDoor
open Go.RowKit

/-- The first cells hold short texts. -/
def Str1At (w : World) (b n : Nat) : Prop := ∀ i, i < n → ∃ s : ByteArray, w.cell? ⟨b, i, none⟩ = some (.string s) ∧ s.size ≤ 1
theorem Str1At.only {w w' : World} {b n : Nat} {fp : List Nat} (h : Str1At w b n) (ho : Only fp w w') (hb : b ∉ fp) : Str1At w' b n := fun i hi => by
  obtain ⟨s, hs, h1⟩ := h i hi
  exact ⟨s, cell_only ho hb hs, h1⟩
set_option maxHeartbeats 1600000 in
theorem pick1_any (g n b cap : Nat) (w : World) (hc : Cur w g) (h1 : 1 ≤ n) (hn : n ≤ 1000) (hs : Str1At w b n) (hbg : b ≠ g) :
    Calls Tryz.prog 137 #[.pointer (some ⟨g, 0, none⟩), .slice (some ⟨b, 0, none⟩) n cap] w fun e w' => ∃ s : ByteArray, e = .returned (.string s) ∧ s.size ≤ 1 ∧ Drawn g w w' := by
  have HS := Lib.hid hs
  have HN := Lib.hid (below_any g n n rfl h1 (by omega) w hc)
  clear hs
  go_enter Tryz.func137, Tryz.ntmps137
  go_wp2_with fail
  refine HN.out.mono ?_
  rintro e w1 ⟨x, rfl, hx, hd⟩
  obtain ⟨s, hcs, hs1⟩ := HS.out.only hd.only (by simpa using hbg) x hx
  have hxI : (x : Int) < n := by omega
  go_wp2
  go_ret
  exact ⟨s, rfl, hs1, hd⟩

def isStr1 : Value → Bool
  | .string s => decide (s.size ≤ 1)
  | _ => false
theorem alloc_str1 {w : World} {e n : Nat} {cs : Array Value} (hn : cs.size = n) (h : cs.all isStr1 = true) : Str1At (w.alloc (.cells cs e)) w.heap.size n := fun i hi => by
  have h1 := Array.all_eq_true.1 h i (by omega)
  have h2 : (w.alloc (.cells cs e)).cell? ⟨w.heap.size, i, none⟩ = cs[i]? := by simp
  rw [h2, Array.getElem?_eq_getElem (by omega)]
  cases hv : cs[i] with
  | string s => rw [hv] at h1; exact ⟨s, rfl, by simpa [isStr1] using h1⟩
  | _ => rw [hv] at h1; cases h1

theorem Tryz.info_byte : (Tryz.prog.info? 5).map (fun i => (i.zero, i.size, i.bytes)) = some (some (.int .u8 0), 1, 1) := by kernel_rfl
theorem bytes_only {w w' : World} {b o : Nat} {s : ByteArray} {fp : List Nat} (h : Lib.Bytes w b o s) (ho : Only fp w w') (hb : b ∉ fp) : Lib.Bytes w' b o s := fun i hi => cell_only ho hb (h i hi)
theorem bytes_new (w : World) (s : ByteArray) (cap e : Nat) (fr : Nat × Nat) : Lib.Bytes (w.drew.alloc (.cells (bytesRow s cap) e fr)) w.heap.size 0 s := fun i hi => by
  have h := World.cell?_alloc_mark w.drew (bytesRow s cap) e fr i
  have e1 : w.drew.heap.size = w.heap.size := rfl
  rw [e1] at h
  rw [Nat.zero_add, h, bytesRow, Array.getElem?_append_left (by simpa using hi)]
  simp only [Array.getElem?_map]
  rw [Array.getElem?_eq_getElem (by simpa using hi)]
  rfl
theorem part_str {W : World} {b m : Nat} {s : ByteArray} (hc : Lib.Bytes W b 0 s) {l h : Nat} (hlh : l ≤ h) (hh : h ≤ s.size) (hm : h ≤ m) :
    ∃ u : ByteArray, u.size = h - l ∧ ∀ q, (convert 22 9 (sliced (some ⟨b, 0, none⟩) l h m 1)).run Tryz.prog (W.drewN q) = .ok (.string u) (W.drewN q) := by
  by_cases hml : m = l
  · obtain rfl : h = l := by omega
    refine ⟨s.extract 0 (0 + 0), by simp, fun q => ?_⟩
    have := Lib.run_convert_window (P := Tryz.prog) (W.drewN q) 22 5 9 Tryz.underlying22 Tryz.underlying5 Tryz.underlying9 b 0 s (hc.drewN q) 0 0 (m - h) (by omega)
    simpa [sliced, hml] using this
  · refine ⟨s.extract l (l + (h - l)), by simp; omega, fun q => ?_⟩
    have := Lib.run_convert_window (P := Tryz.prog) (W.drewN q) 22 5 9 Tryz.underlying22 Tryz.underlying5 Tryz.underlying9 b 0 s (hc.drewN q) l (h - l) (m - l) (by omega)
    have e : sliced (some ⟨b, 0, none⟩) l h m 1 = .slice (some ⟨b, 0 + l, none⟩) (h - l) (m - l) := by rw [sliced, if_neg hml]; simp [Addr.add]; omega
    rw [e]
    exact this

/-- A part of the bytes as a text. -/
theorem part_lo {W : World} {b m n : Nat} {s : ByteArray} (hc : Lib.Bytes W b 0 s) {h : Nat} (hh : h ≤ s.size) (hm : s.size ≤ m) (hn : n = s.size) :
    ∃ (v : Value) (u : ByteArray), u.size = h ∧ (∀ w, (Instr.slice 22 (.slice (some ⟨b, 0, none⟩) n m) none (some (.int .i64 (h : Int))) none).run Tryz.prog w = .ok v w) ∧ ∀ q, (convert 22 9 v).run Tryz.prog (W.drewN q) = .ok (.string u) (W.drewN q) := by
  obtain ⟨u, h1, h2⟩ := part_str hc (l := 0) (h := h) (m := m) (Nat.zero_le _) hh (by omega)
  obtain ⟨i0, hi, hz0, hz1, hz2⟩ := info_parts Tryz.info_byte
  have ht : Tryz.prog.underlying 22 = some (.slice (Tryz.prog.elem 22)) := by kernel_rfl
  have he : Tryz.prog.elem 22 = 5 := by kernel_rfl
  refine ⟨_, u, by omega, fun w => ?_, h2⟩
  rw [run_slice_h (ht := ht) (kh := .i64) (h := (h : Int)) (h0 := by omega) (h2 := by omega), he]
  simp [sizeOf, typeInfo, hi, hz1, Result.andThen]
theorem part_hi {W : World} {b m n : Nat} {s : ByteArray} (hc : Lib.Bytes W b 0 s) {l : Nat} {lz : Int} (hz : lz = l) (hh : l ≤ s.size) (hm : s.size ≤ m) (hn : n = s.size) :
    ∃ (v : Value) (u : ByteArray), u.size = s.size - l ∧ (∀ w, (Instr.slice 22 (.slice (some ⟨b, 0, none⟩) n m) (some (.int .i64 lz)) none none).run Tryz.prog w = .ok v w) ∧ ∀ q, (convert 22 9 v).run Tryz.prog (W.drewN q) = .ok (.string u) (W.drewN q) := by
  subst hn hz
  obtain ⟨u, h1, h2⟩ := part_str hc (l := l) (h := s.size) (m := m) hh (Nat.le_refl _) (by omega)
  obtain ⟨i0, hi, hz0, hz1, hz2⟩ := info_parts Tryz.info_byte
  have ht : Tryz.prog.underlying 22 = some (.slice (Tryz.prog.elem 22)) := by kernel_rfl
  have he : Tryz.prog.elem 22 = 5 := by kernel_rfl
  refine ⟨_, u, by omega, fun w => ?_, h2⟩
  rw [run_slice_l (ht := ht) (kl := .i64) (l := (l : Int)) (h0 := by omega) (h1 := by omega), he]
  simp [sizeOf, typeInfo, hi, hz1, Result.andThen]

/-- The bytes to put. -/
def namesC : Array Value := #[.string ⟨#[32]⟩, .string ⟨#[48]⟩, .string ⟨#[49]⟩, .string ⟨#[45]⟩, .string ⟨#[47]⟩, .string ⟨#[35]⟩, .string ⟨#[91]⟩, .string ⟨#[93]⟩, .string ⟨#[124]⟩, .string ⟨#[42]⟩, .string ⟨#[97]⟩, .string ⟨#[59]⟩, .string ⟨#[43]⟩, .string ⟨#[57]⟩]
theorem namesC_str : namesC.all isStr1 = true := by simp [namesC, isStr1, ByteArray.size]
/-- A text is drawn. -/
def DrawsStr (g m : Nat) (w : World) : Ending → World → Prop := fun e w' => ∃ s : ByteArray, e = .returned (.string s) ∧ s.size ≤ m ∧ Drawn g w w'
set_option maxRecDepth 100000 in
set_option maxHeartbeats 12800000 in
theorem crumb_any (g : Nat) (s : ByteArray) (hs : s.size ≤ 100000) (w : World) (hc : Cur w g) : Calls Tryz.prog 93 #[.pointer (some ⟨g, 0, none⟩), .string s] w (DrawsStr g (s.size + 1) w) := by
  have HB3 := Lib.hid (below_any g 3 3 rfl (by omega) (by omega) w hc)
  have hgl := hc.lt
  go_enter Tryz.func93, Tryz.ntmps93
  go_wp2_with fail
  refine HB3.out.mono ?_
  rintro e w1 ⟨x, rfl, hx, hd1⟩
  by_cases hx0 : 0 < x
  · have hxI : (0 : Int) < x := by omega
    go_wp2
    go_ret
    exact ⟨s, rfl, by omega, hd1⟩
  obtain rfl : x = 0 := by omega
  obtain ⟨cap, hcap⟩ : ∃ c, c = grownCap w1 s.size 0 5 := ⟨_, rfl⟩
  have hcs : s.size ≤ cap := hcap ▸ grownCap_ge _ _ _ _
  obtain ⟨W2, hW2⟩ : ∃ W, W = w1.drew.alloc (.cells (bytesRow s cap) 5 ((bytesRow s cap).size, (bytesRow s cap).size + 1)) := ⟨_, rfl⟩
  have hk : (convert 9 22 (.string s)).run Tryz.prog w1 = .ok (.slice (some ⟨w1.heap.size, 0, none⟩) s.size cap) W2 := by
    rw [hW2, hcap]
    exact run_bytes_of_string w1 _ _ _ s Tryz.underlying9 Tryz.underlying22 Tryz.underlying5
  have hb2 : Below w1.heap.size w1 W2 := hW2 ▸ ((Below.refl _ _).drew).alloc (Nat.le_refl _) _
  have hg1 : g < w1.heap.size := by have := hd1.only.size; omega
  have HBY := Lib.hid (show Lib.Bytes W2 w1.heap.size 0 s from hW2 ▸ bytes_new w1 s cap _ _)
  have HD2 := Lib.hid (hd1.below hb2)
  have HBE := Lib.hid (below_any g (s.size + 1) ((s.size : Int) + 1) (by omega) (by omega) (by omega) W2 (hd1.below hb2).cur)
  have hw1 : IntKind.i64.wrap ((s.size : Int) + 1) = (s.size : Int) + 1 := IntWalk.i64_in _ (by omega)
  obtain ⟨Bb, hBb⟩ : ∃ B, B = w1.heap.size := ⟨_, rfl⟩
  have hW2s : W2.heap.size = w1.heap.size + 1 := by rw [hW2]; simp
  rw [← hBb] at hk HBY hW2s hg1
  clear hW2 hb2 hd1 hcap hBb
  go_wp2_with fail
  refine HBE.out.mono ?_
  rintro e w3 ⟨k, rfl, hkk, hd3⟩
  have HD3 := Lib.hid (HD2.out.trans hd3)
  have HO3 := Lib.hid hd3.only
  have hw3s := hd3.only.size
  clear hk hd3
  obtain ⟨W4, hW4⟩ : ∃ W, W = w3.alloc (.cells namesC 9) := ⟨_, rfl⟩
  have hb4 : Below w3.heap.size w3 W4 := hW4 ▸ (Below.refl _ _).alloc (Nat.le_refl _) _
  have hg3 : g < w3.heap.size := by omega
  have HP := Lib.hid (pick1_any g 14 w3.heap.size 14 W4 (HD3.out.below hb4).cur (by omega) (by omega) (hW4 ▸ alloc_str1 (by rfl) namesC_str) (by omega))
  have HD4 := Lib.hid (HD3.out.below hb4)
  have HO4 := Lib.hid (HO3.out.trans (Only.of_below hb4))
  rw [namesC] at hW4
  have HW4 := Lib.hid hW4
  clear hW4 hb4
  go_wp2_with fail
  rw [← HW4.out]
  refine HP.out.mono ?_
  rintro e w5 ⟨sx, rfl, hsx, hd5⟩
  have HD5 := Lib.hid (HD4.out.trans hd5)
  have HO5 := Lib.hid (HO4.out.trans hd5.only)
  clear hd5
  go_wp2_with fail
  refine (once_any g 2 2 rfl (by omega) (by omega) w5 HD5.out.cur).mono ?_
  rintro e w6 ⟨b6, rfl, hd6⟩
  have HD6 := Lib.hid (HD5.out.trans hd6)
  have HO6 := Lib.hid (HO5.out.trans hd6.only)
  have HB6 := Lib.hid (bytes_only HBY.out HO6.out (by simp; omega))
  clear hd6
  have hk0 : (0 : Int) ≤ k := by omega
  have hkc : (k : Int) ≤ cap := by omega
  have hkl : (k : Int) ≤ s.size := by omega
  cases b6 with
  | true =>
    obtain ⟨vL, uL, huL, hsL, hL⟩ := part_lo HB6.out (h := k) (m := cap) (by omega) hcs rfl
    obtain ⟨vR, uR, huR, hsR, hR⟩ := part_hi HB6.out (l := k) (m := cap) rfl (by omega) hcs rfl
    go_wp2
    go_quiet (fail)
    go_wp2
    go_ret
    exact ⟨_, rfl, by simp only [ByteArray.size_append]; omega, HD6.out.below (blw_drewN (Below.refl _ _) _)⟩
  | false =>
    by_cases hks : k < s.size
    case neg =>
      obtain rfl : k = s.size := by omega
      have hkb : decide ((s.size : Int) < s.size) = false := by simp
      go_wp2_with fail
      go_ret
      exact ⟨s, rfl, by omega, HD6.out⟩
    have hkI : (k : Int) < s.size := by omega
    have hwk : IntKind.i64.wrap ((k : Int) + 1) = (k : Int) + 1 := IntWalk.i64_in _ (by omega)
    go_wp2_with fail
    refine (once_any g 2 2 rfl (by omega) (by omega) w6 HD6.out.cur).mono ?_
    rintro e w7 ⟨b7, rfl, hd7⟩
    have HD7 := Lib.hid (HD6.out.trans hd7)
    have HB7 := Lib.hid (bytes_only HB6.out hd7.only (by simp; omega))
    clear hd7
    obtain ⟨vL, uL, huL, hsL, hL⟩ := part_lo HB7.out (h := k) (m := cap) (by omega) hcs rfl
    obtain ⟨vR, uR, huR, hsR, hR⟩ := part_hi HB7.out (l := k + 1) (lz := (k : Int) + 1) (m := cap) (by omega) (by omega) hcs rfl
    cases b7 with
    | true =>
      go_wp2
      go_quiet (fail)
      go_wp2
      go_ret
      exact ⟨_, rfl, by simp only [ByteArray.size_append]; omega, HD7.out.below (blw_drewN (Below.refl _ _) _)⟩
    | false =>
      go_wp2
      go_quiet (fail)
      go_wp2
      go_ret
      exact ⟨_, rfl, by simp only [ByteArray.size_append]; omega, HD7.out.below (blw_drewN (Below.refl _ _) _)⟩
end Go.Proofs.YtbcjhpgkodeoeaaGreatDoor

/- Drawn integers. Conditions: a cursor. -/
namespace Go.Proofs.YtbcjhpgkodeoeaaGreatDoor
open Go.RowKit

/-- An integer is drawn. -/
def DrawsInt (g : Nat) (w : World) : Ending → World → Prop := fun e w' => ∃ x : Int, e = .returned (.int .i64 x) ∧ I64 x ∧ Drawn g w w'
set_option maxHeartbeats 1600000 in
theorem pickInt_any (g n : Nat) (v : Value) (xs : List Int) (w : World) (hc : Cur w g) (h : RdI w v xs) (hl : xs.length = n) (h1 : 1 ≤ n) (hn : n ≤ 1000) (hap : ∀ w', Only [g] w w' → RdI w' v xs) :
    Calls Tryz.prog 130 #[.pointer (some ⟨g, 0, none⟩), v] w (DrawsInt g w) := by
  obtain ⟨ad, len, cap, rfl, hll, _, _, _⟩ := rdS_open h
  obtain rfl : len = n := by omega
  have HN := Lib.hid (below_any g len len rfl h1 (by omega) w hc)
  have HAP := Lib.hid hap
  clear hap h hll hl
  go_enter Tryz.func130, Tryz.ntmps130
  go_wp2_with fail
  refine HN.out.mono ?_
  rintro e w1 ⟨x, rfl, hx, hd⟩
  obtain ⟨b, o, z, rfl, _, hcz, hI, _⟩ := rdI_get (HAP.out w1 hd.only) hx
  have hxI : (x : Int) < len := by omega
  have HI := Lib.hid hI
  clear hI
  go_wp2
  go_ret
  exact ⟨z, rfl, HI.out, hd⟩
set_option maxRecDepth 100000 in
set_option maxHeartbeats 1600000 in
theorem int_any (g : Nat) (w : World) (hc : Cur w g) : Calls Tryz.prog 76 #[.pointer (some ⟨g, 0, none⟩)] w (DrawsInt g w) := by
  have HO := Lib.hid (once_any g 3 3 rfl (by omega) (by omega) w hc)
  have hgl := hc.lt
  go_enter Tryz.func76, Tryz.ntmps76
  go_wp2_with fail
  refine HO.out.mono ?_
  rintro e w1 ⟨b, rfl, hd⟩
  cases b with
  | false =>
    have HU := Lib.hid (num_any g w1 hd.cur)
    go_wp2_with fail
    refine HU.out.mono ?_
    rintro e w2 ⟨x, rfl, hx0, hx1, hd2⟩
    go_wp2
    go_ret
    exact ⟨x, rfl, ⟨by omega, by omega⟩, hd.trans hd2⟩
  | true =>
    obtain ⟨ds, hds⟩ : ∃ ds : List Int, ds = [-1, 0, 2, 3, 5, 6, 15, 1000000270, 1000000271, 1000000272, -1000000271, 9223372036854775807, -9223372036854775808, 1000000007, -7] := ⟨_, rfl⟩
    obtain ⟨W, hW⟩ : ∃ W, W = w1.alloc (.cells (ds.map (Value.int .i64)).toArray 3) := ⟨_, rfl⟩
    have hdI : ∀ x ∈ ds, I64 x := by
      intro x hx
      rw [hds] at hx
      simp only [List.mem_cons, List.not_mem_nil, or_false] at hx
      unfold I64
      omega
    have hal : Below w1.heap.size w1 W := hW ▸ (Below.refl _ _).alloc (Nat.le_refl _) _
    have hg1 : g < w1.heap.size := by have := hd.only.size; omega
    have hO : OwnI 3 W (.slice (some ⟨w1.heap.size, 0, none⟩) 15 15) ds [w1.heap.size] := by
      rw [hW]
      exact lit_own w1 ds hdI (by rw [hds]; simp) _ rfl 15 (by rw [hds]; rfl)
    have HD := Lib.hid (hd.below hal)
    have HP := Lib.hid (pickInt_any g 15 _ ds W (hd.below hal).cur (ownI_rd hO) (by rw [hds]; rfl) (by omega) (by omega) (fun w' ho => ownI_rd (ownI_only hO ho (by simp; omega))))
    have HW : Hid (W = w1.alloc (.cells #[.int .i64 (-1), .int .i64 0, .int .i64 2, .int .i64 3, .int .i64 5, .int .i64 6, .int .i64 15, .int .i64 1000000270, .int .i64 1000000271, .int .i64 1000000272, .int .i64 (-1000000271), .int .i64 9223372036854775807, .int .i64 (-9223372036854775808), .int .i64 1000000007, .int .i64 (-7)] 3)) := Lib.hid (by rw [hW, hds]; rfl)
    clear hW hds hal hO hdI
    go_wp2_with fail
    rw [← HW.out]
    refine HP.out.mono ?_
    rintro e w3 ⟨x, rfl, hx, hd3⟩
    have HX := Lib.hid hx
    clear hx
    go_wp2
    go_ret
    exact ⟨x, rfl, HX.out, HD.out.trans hd3⟩
end Go.Proofs.YtbcjhpgkodeoeaaGreatDoor

/- strings.Join, laid at this program, and what it returns. Conditions: a text of at most a million bytes. -/
namespace Go.Proofs.YtbcjhpgkodeoeaaGreatDoor
open Go.RowKit Go.Sort Go.Shelf

def joinRen : Go.Shelf.Ren := ⟨fun | 156 => 92 | 165 => 143 | 166 => 144 | 169 => 145 | 240 => 182 | 241 => 183 | 276 => 209 | 277 => 210 | n => n, fun | 31 => 34 | 9 => 9 | 3 => 3 | 4 => 4 | 0 => 0 | 20 => 20 | 72 => 150 | 76 => 154 | 70 => 148 | 37 => 22 | 75 => 153 | 127 => 180 | 164 => 189 | 5 => 5 | 80 => 156 | n => n, fun n => n⟩
theorem joinLays : Lays.n156 Tryz.prog joinRen := {
  mixed := by kernel_rfl
  f156 := Tryz.func92.trans (congrArg some (by kernel_rfl))
  f165 := Tryz.func143.trans (congrArg some (by kernel_rfl))
  f166 := Tryz.func144.trans (congrArg some (by kernel_rfl))
  f169 := Tryz.func145.trans (congrArg some (by kernel_rfl))
  f240 := Tryz.func182.trans (congrArg some (by kernel_rfl))
  f241 := Tryz.func183.trans (congrArg some (by kernel_rfl))
  f276 := Tryz.func209.trans (congrArg some (by kernel_rfl))
  f277 := Tryz.func210.trans (congrArg some (by kernel_rfl))
  t0 := Tryz.underlying0
  a0 := Tryz.isAgg0
  z0 := Tryz.sizeOf0
  v0 := Tryz.zeroValue0
  t3 := Tryz.underlying3
  a3 := Tryz.isAgg3
  z3 := Tryz.sizeOf3
  v3 := Tryz.zeroValue3
  t4 := Tryz.underlying4
  a4 := Tryz.isAgg4
  z4 := Tryz.sizeOf4
  v4 := Tryz.zeroValue4
  t9 := Tryz.underlying9
  a9 := Tryz.isAgg9
  z9 := Tryz.sizeOf9
  v9 := Tryz.zeroValue9
  t20 := Tryz.underlying20
  a20 := Tryz.isAgg20
  z20 := Tryz.sizeOf20
  v20 := Tryz.zeroValue20
  t31 := Tryz.underlying34
  a31 := Tryz.isAgg34
  z31 := Tryz.sizeOf34
  v31 := Tryz.zeroValue34
  t37 := Tryz.underlying22
  a37 := Tryz.isAgg22
  z37 := Tryz.sizeOf22
  v37 := Tryz.zeroValue22
  t70 := Tryz.underlying148
  a70 := Tryz.isAgg148
  z70 := Tryz.sizeOf148
  v70 := Tryz.zeroValue148
  t72 := Tryz.underlying150
  a72 := Tryz.isAgg150
  z72 := Tryz.sizeOf150
  v72 := Tryz.zeroValue150
  t75 := Tryz.underlying153
  a75 := Tryz.isAgg153
  z75 := Tryz.sizeOf153
  v75 := Tryz.zeroValue153
  t76 := Tryz.underlying154
  a76 := Tryz.isAgg154
  z76 := Tryz.sizeOf154
  v76 := Tryz.zeroValue154
  t127 := Tryz.underlying180
  a127 := Tryz.isAgg180
  z127 := Tryz.sizeOf180
  v127 := Tryz.zeroValue180
  t164 := Tryz.underlying189
  a164 := Tryz.isAgg189
  z164 := Tryz.sizeOf189
  v164 := Tryz.zeroValue189 }
theorem joinExtra : Builder.Extra Tryz.prog joinRen := {
  sizeBuilder := by kernel_rfl
  liesBuilder := by kernel_rfl
  t5 := Tryz.underlying5
  a5 := Tryz.isAgg5
  z5 := Tryz.sizeOf5
  v5 := Tryz.zeroValue5
  infoByte := by kernel_rfl
  cellsByte := by kernel_rfl
  sizeByte := by kernel_rfl
  neB5 := by decide }
theorem join_at (bk o c : Nat) (xs : List ByteArray) (sep : ByteArray) (w : World) (hcells : ∀ (j : Nat) x, xs[j]? = some x → w.cell? ⟨bk, o + j, none⟩ = some (.string x)) (hbk : bk < w.heap.size) (hN : xs.length ≤ 140737488355328) (hcap : xs.length ≤ c)
    (hlen : (Lib.join (xs.map (·.data.toList)) sep.data.toList).length ≤ 140737488355328) :
    Calls Tryz.prog 92 #[.slice (some ⟨bk, o, none⟩) xs.length c, .string sep] w fun e w' => e = .returned (.string ⟨(Lib.join (xs.map (·.data.toList)) sep.data.toList).toArray⟩) ∧ Below w.heap.size w w' :=
  Any.strings_Join joinLays joinExtra bk o c xs sep w hcells hbk hN hcap hlen
end Go.Proofs.YtbcjhpgkodeoeaaGreatDoor

/- FormatField of the program: the joining of texts. Conditions: none. -/
namespace Go.Proofs.YtbcjhpgkodeoeaaGreatDoor
open Go.RowKit Go.Sort

/-- Joining a row of texts. -/
theorem joinRow_any {w wr : World} {g n cap : Nat} {xs : List (List UInt8)} (h : RowT w wr (.slice (some ⟨g, 0, none⟩) n cap) xs n) (sep : List UInt8) (hn : n ≤ 1000) (hl : (Lib.join xs sep).length ≤ 1000000) :
    Calls Tryz.prog 92 #[.slice (some ⟨g, 0, none⟩) n cap, .string ⟨sep.toArray⟩] wr fun e w' => e = .returned (txt (Lib.join xs sep)) ∧ Below wr.heap.size wr w' := by
  have hm : (xs.map fun x => ByteArray.mk x.toArray).map (·.data.toList) = xs := by
    rw [List.map_map]
    simp [Function.comp_def]
  have hlen := h.len
  obtain ⟨ad', cap', hv, hnc, hcm, _⟩ := row_open h.row
  injection hv with e1 e2 e3
  subst e1 e3
  have hj := join_at g 0 cap (xs.map fun x => ByteArray.mk x.toArray) ⟨sep.toArray⟩ wr (fun j x hx => by
    obtain ⟨y, hy, rfl⟩ : ∃ y, xs[j]? = some y ∧ ByteArray.mk y.toArray = x := by
      rw [List.getElem?_map] at hx
      cases hxj : xs[j]? with
      | none => rw [hxj] at hx; simp at hx
      | some y => rw [hxj] at hx; exact ⟨y, rfl, by simpa using hx⟩
    have hj := (List.getElem?_eq_some_iff.1 hy).1
    rw [Nat.zero_add, h.row.cellAt j (by omega), List.getElem?_map, hy]
    rfl) ((h.row.lt g (by simp [Value.ownBlock])).2) (by rw [List.length_map]; omega) (by rw [List.length_map]; omega) (by rw [hm]; simpa using (by omega : (Lib.join xs sep).length ≤ 140737488355328))
  rw [hm, List.length_map, hlen] at hj
  exact hj
end Go.Proofs.YtbcjhpgkodeoeaaGreatDoor

/- FormatField of the program: what it returns. Conditions: none. -/
namespace Go.Proofs.YtbcjhpgkodeoeaaGreatDoor
open Go.RowKit Go.Sort

theorem fldT_no {f : FldZ} (h : fldOkB f = false) : fldT f = [] := by simp [fldT, h]
theorem fldT_yes {f : FldZ} (h : fldOkB f = true) : fldT f = Lib.join (f.parts.map polyT) [59, 32] := by simp [fldT, h]
theorem polyT_nil : polyT [] = [48] := by simp [polyT]
theorem polyT_some {p : List MonZ} (h : p ≠ []) : polyT p = Lib.join (p.map monT) [32, 43, 32] := by simp [polyT, h]
theorem monT_len {m : MonZ} (hl : m.pows.length ≤ 6) (h : ∀ n ∈ m.pows, n ≤ 5) : (monT m).length ≤ 41 := by
  have h1 := fmtT_len m.coef
  have h2 := powsT_len m.pows 0 h
  rw [monT, List.length_append]
  omega
theorem polyT_len {p : List MonZ} (hp : p.length ≤ 12) (hm : ∀ m ∈ p, m.pows.length ≤ 6 ∧ ∀ n ∈ m.pows, n ≤ 5) : (polyT p).length ≤ 528 := by
  unfold polyT
  split
  · simp
  · have h1 := join_len (xs := p.map monT) (sep := [32, 43, 32]) (k := 41) (fun x hx => by
      obtain ⟨m, hmm, rfl⟩ := List.mem_map.1 hx
      exact monT_len (hm m hmm).1 (hm m hmm).2)
    rw [List.length_map] at h1
    have h2 : p.length * (41 + [32, 43, (32 : UInt8)].length) ≤ 12 * 44 := Nat.mul_le_mul hp (by decide)
    omega
theorem fldT_join_len {f : FldZ} {n : Nat} (hn : f.parts.length = n) (hn6 : n ≤ 6) (hp : ∀ p ∈ f.parts, p.length ≤ 12 ∧ ∀ m ∈ p, MonFine n m) : (Lib.join (f.parts.map polyT) [59, 32]).length ≤ 3180 := by
  have h1 := join_len (xs := f.parts.map polyT) (sep := [59, 32]) (k := 528) (fun x hx => by
    obtain ⟨p, hpp, rfl⟩ := List.mem_map.1 hx
    exact polyT_len (hp p hpp).1 (fun m hm => ⟨by have := ((hp p hpp).2 m hm).2.1; omega, fun n hn => (((hp p hpp).2 m hm).2.2.2 n hn).2⟩))
  rw [List.length_map] at h1
  have h2 : f.parts.length * (528 + [59, (32 : UInt8)].length) ≤ 6 * 530 := Nat.mul_le_mul (by omega) (by decide)
  omega

set_option maxRecDepth 100000 in
set_option maxHeartbeats 6400000 in
theorem fmtFld_any (vf : Value) (f : FldZ) (w : World) (hf : RdFld w vf f) (hff : ∀ p ∈ f.parts, ∀ m ∈ p, Fit_Mon m) :
    Calls Tryz.prog 30 #[vf] w fun e w' => e = .returned (txt (fldT f)) ∧ Below w.heap.size w w' := by
  have hff' := hf
  obtain ⟨vP, rfl, hIf, hP⟩ := hf
  obtain ⟨adp, lp, cp, rfl⟩ := rdMss_slice hP
  have hb0 : Below w.heap.size w (w.alloc (.cells #[.int .i64 f.dim, .slice adp lp cp] 30)) := (Below.refl _ _).alloc (Nat.le_refl _) _
  have FOK := Lib.hid (fun (c : Bool) (hc : fldOkB f = c) => fldOk_eq (.agg #[.int .i64 f.dim, .slice adp lp cp]) f _ (rdFld_mono hb0 hff') hff hc)
  have HB0 := Lib.hid hb0
  cases hfo : fldOkB f with
  | false =>
    have F1 := Lib.hid (FOK.out false hfo)
    have HE := Lib.hid (show Value.string (ByteArray.mk #[]) = txt (fldT f) from by rw [fldT_no hfo]; rfl)
    clear hff' hP hb0 hfo hff FOK
    go_enter Tryz.func30, Tryz.ntmps30
    go_wp2_with fail
    refine F1.out.mono ?_
    rintro e w1 ⟨rfl, hb1⟩
    go_wp2
    go_ret
    exact ⟨ret_eq HE.out, HB0.out.trans (hb1.mono HB0.out.size)⟩
  | true =>
  have F1 := Lib.hid (FOK.out true hfo)
  have HF0 := Lib.hid (show (w.alloc (.cells #[.int .i64 f.dim, .slice adp lp cp] 30)).cell? ⟨w.heap.size, 1, none⟩ = some (.slice adp lp cp) from by simp)
  have HE := Lib.hid (fldT_yes hfo)
  obtain ⟨n, hdn, hpn, hn1, hn6, hparts⟩ := fldOk_parts hfo
  have HJL := Lib.hid (fldT_join_len hpn hn6 hparts)
  have hlp : lp = n := by
    obtain ⟨ad', len', cap', he, hl', _⟩ := rdS_open hP
    injection he with e1 e2 e3
    omega
  subst hlp
  have HPARTS := Lib.hid hparts
  have HPN := Lib.hid hpn
  have HPR := Lib.hid hP
  obtain ⟨i0, hi, hz0, hz1, hz2⟩ := info_parts Tryz.info_str
  clear hff' hP hb0 hfo hff FOK hdn hparts hpn
  go_enter Tryz.func30, Tryz.ntmps30
  go_wp2_with fail
  refine F1.out.mono ?_
  rintro e w1 ⟨rfl, hb1⟩
  have c1 := cell_below hb1 HF0.out
  have hb1w := HB0.out.trans (hb1.mono HB0.out.size)
  have c1c : (w1.alloc (.cells #[] 9)).cell? ⟨w.heap.size, 1, none⟩ = some (.slice adp lp cp) := cell_below ((Below.refl _ _).alloc (Nat.le_refl _) _) c1
  have HR0 := Lib.hid (RowT.new w1)
  have HB1 := Lib.hid hb1w
  clear hb1 hb1w c1
  go_wp2
  go_loopw [3, 19] (fun sv si wr => ∃ (k : Nat), si = .int .i64 k ∧ k ≤ lp ∧ RowT w1 wr sv ((f.parts.take k).map polyT) k) (fun _ si _ => lp - (intOf si).toNat)
  case atStart => exact ⟨0, rfl, Nat.zero_le _, HR0.out⟩
  case round =>
    obtain ⟨wz, rfl⟩ : ∃ W, W = wr := ⟨_, rfl⟩
    clear HR0 c1c
    obtain ⟨k, rfl, hk, hR⟩ := hrel
    obtain ⟨gr, cr, rfl, hgr⟩ := hR.shape
    have HR := Lib.hid hR
    have HBZ := Lib.hid (HB1.out.trans (hR.below.mono HB1.out.size))
    clear hR
    by_cases hlt : k < lp
    case neg =>
      obtain rfl : k = lp := by omega
      have J1 := Lib.hid (joinRow_any HR.out [59, 32] (by omega) (by
        rw [show f.parts.take k = f.parts from List.take_of_length_le (by rw [HPN.out]; exact Nat.le_refl _)]
        have := HJL.out
        omega))
      have HT := Lib.hid (show txt (Lib.join ((f.parts.take k).map polyT) [59, 32]) = txt (fldT f) from by rw [HE.out, show f.parts.take k = f.parts from List.take_of_length_le (by rw [HPN.out]; exact Nat.le_refl _)])
      rw [HT.out] at J1
      obtain ⟨x, hx⟩ : ∃ x, txt (fldT f) = .string x := ⟨_, rfl⟩
      rw [hx] at J1
      go_wp2_with fail
      refine J1.out.mono ?_
      rintro e w9 ⟨rfl, hb9⟩
      have hbz := HBZ.out.trans (hb9.mono HBZ.out.size)
      go_wp2
      go_ret
      exact ⟨ret_eq hx.symm, hbz⟩
    obtain ⟨bp, op, ad5, l5, c5, p, rfl, hp, hc5, h51, h52, h53, h54, _⟩ := rdMss_get (rdMss_mono HBZ.out HPR.out) hlt
    obtain ⟨hp12, hpm⟩ := HPARTS.out p (List.mem_of_getElem? hp)
    have HTN := Lib.hid (show ((f.parts.take (k + 1)).map polyT) = ((f.parts.take k).map polyT) ++ [polyT p] from by rw [take_snoc hp, List.map_append]; rfl)
    have HP5 := Lib.hid h54
    have HP12 := Lib.hid hp12
    have HPM := Lib.hid hpm
    have HL5 := Lib.hid h51
    have hl512 : l5 ≤ 12 := by omega
    have HRN := Lib.hid (RowT.new wz)
    have HPTL := Lib.hid (polyT_len hp12 (fun m hm => ⟨by have := (hpm m hm).2.1; omega, fun n hn => ((hpm m hm).2.2.2 n hn).2⟩))
    clear hp h51 h54 hp12 hpm
    go_wp2
    go_loopw [6, 26] (fun sv si wr => ∃ (j : Nat), si = .int .i64 j ∧ j ≤ l5 ∧ RowT wz wr sv ((p.take j).map monT) j) (fun _ si _ => l5 - (intOf si).toNat)
    case atStart => exact ⟨0, rfl, Nat.zero_le _, HRN.out⟩
    case round =>
      obtain ⟨wy, rfl⟩ : ∃ W, W = wr := ⟨_, rfl⟩
      clear HRN
      obtain ⟨j, rfl, hj, hT⟩ := hrel
      obtain ⟨gt, ct, rfl, hgt⟩ := hT.shape
      have HT := Lib.hid hT
      have HBY := Lib.hid hT.below
      have hsy := hT.below.size
      clear hT
      by_cases hlt2 : j < l5
      case neg =>
        obtain rfl : j = l5 := by omega
        have hpj : p.take j = p := List.take_of_length_le (by rw [HL5.out]; exact Nat.le_refl _)
        by_cases hl0 : j = 0
        · have hq0 : ((j : Int) == 0) = true := by simp [hl0]
          have HTT := Lib.hid (show RowT wz wy (.slice (some ⟨gt, 0, none⟩) j ct) [] j from by
            have h0 : p = [] := List.eq_nil_of_length_eq_zero (by rw [HL5.out]; exact hl0)
            have h1 := HT.out
            rw [hpj, h0] at h1
            exact h1)
          have HP0 := Lib.hid (show p = [] from List.eq_nil_of_length_eq_zero (by rw [HL5.out]; exact hl0))
          have HZS := Lib.hid (show Value.string (ByteArray.mk #[48]) = txt [48] from rfl)
          have hj1 : j ≤ 1 := by omega
          clear hpj hl0
          have HRQ6 := Lib.hid (HTT.out.row)
          have HPU6 := Lib.hid (fun (w' : World) (g' c' : Nat) (hown : w'.ownsRow 0 9 1 (.slice (some ⟨g', 0, none⟩) (j + 1) c') (j + 1) (_ ++ [.string (ByteArray.mk #[48])])) (hgrow : (wy.alloc (.cells #[.string (ByteArray.mk #[48])] 9)).grownBy w' (some gt)) (hat : some gt = some g' ∨ g' = wy.heap.size + 1) =>
            HTT.out.push (y := [48]) ((Below.refl _ _).alloc (Nat.le_refl _) _) (by rw [← HZS.out]; exact hown) hgrow (hat.elim (fun h => .inl (Option.some.inj h)) (fun h => .inr (by omega))))
          go_wp2_with (first | (at_builtin; refine wpList_append_lies _ rfl _ _ _ rfl 0 9 i0 _ 1 16 Tryz.underlying34 hi hz0 hz1 hz2 rfl (by omega) (.slice (some ⟨gt, 0, none⟩) j ct) j _ (by rfl) (HRQ6.out.alloc _) ⟨wy.heap.size, 0, none⟩ 1 1 [.string (ByteArray.mk #[48])] (by rfl) (by rfl) (World.news_of_block (cs := #[.string (ByteArray.mk #[48])]) (t := 9) (fr := (0, 0)) (heap_alloc_new _ _)) (by simp [Value.oneCell']) (by omega) (by unfold maxLen; omega) (by omega) (by simp) (wy.heap.size + 1) (by simp) ?_; intro g6 cap6 w6 hown1 hgrow hat hlt1; have HR6 := Lib.hid (HPU6.out w6 g6 cap6 hown1 hgrow hat); clear hown1 hgrow hat))
          have HR6' := Lib.hid (show RowT wz w6 (.slice (some ⟨g6, 0, none⟩) (j + 1) cap6) [[48]] (j + 1) from by simpa using HR6.out)
          have J1 := Lib.hid (joinRow_any HR6'.out [32, 43, 32] (by omega) (by simp [Lib.join_one]))
          have HTX := Lib.hid (show txt (Lib.join [[48]] [32, 43, 32]) = txt (polyT p) from by rw [HP0.out, polyT_nil, Lib.join_one])
          have HBW := Lib.hid HR6'.out.below
          obtain ⟨px, hpx⟩ : ∃ px, txt (polyT p) = .string px := ⟨_, rfl⟩
          rw [HTX.out, hpx] at J1
          have HPX := Lib.hid hpx.symm
          clear hpx
          go_wp2_with fail
          refine J1.out.mono ?_
          rintro e w7 ⟨rfl, hb7⟩
          have HR7 := Lib.hid (HR.out.step (HBW.out.trans (hb7.mono HBW.out.size)))
          clear hb7
          have HRQ8 := Lib.hid (HR7.out.row)
          have HPU8 := Lib.hid (fun (w' : World) (g' c' : Nat) (hown : w'.ownsRow 0 9 1 (.slice (some ⟨g', 0, none⟩) (k + 1) c') (k + 1) (_ ++ [.string px])) (hgrow : (w7.alloc (.cells #[.string px] 9)).grownBy w' (some gr)) (hat : some gr = some g' ∨ g' = w7.heap.size + 1) =>
            HR7.out.push (y := polyT p) ((Below.refl _ _).alloc (Nat.le_refl _) _) (by rw [← HPX.out]; exact hown) hgrow (hat.elim (fun h => .inl (Option.some.inj h)) (fun h => .inr (by omega))))
          go_wp2_with (first | (at_builtin; refine wpList_append_lies _ rfl _ _ _ rfl 0 9 i0 _ 1 16 Tryz.underlying34 hi hz0 hz1 hz2 rfl (by omega) (.slice (some ⟨gr, 0, none⟩) k cr) k _ (by rfl) (HRQ8.out.alloc _) ⟨w7.heap.size, 0, none⟩ 1 1 [.string px] (by rfl) (by rfl) (World.news_of_block (cs := #[.string px]) (t := 9) (fr := (0, 0)) (heap_alloc_new _ _)) (by simp [Value.oneCell']) (by omega) (by unfold maxLen; omega) (by omega) (by simp) (w7.heap.size + 1) (by simp) ?_; intro g8 cap8 w8 hown1 hgrow hat hlt1; have HR8 := Lib.hid (HPU8.out w8 g8 cap8 hown1 hgrow hat); clear hown1 hgrow hat))
          have HN := Lib.hid (show RowT w1 w8 (.slice (some ⟨g8, 0, none⟩) (k + 1) cap8) ((f.parts.take (k + 1)).map polyT) (k + 1) from by rw [HTN.out]; exact HR8.out)
          go_roundw
          case rel => exact ⟨k + 1, by go_num, by omega, HN.out⟩
          case measure => (simp [intOf]; try omega)
        · have hq0 : ((j : Int) == 0) = false := by simp; omega
          have HP0 := Lib.hid (show p ≠ [] from fun h => by have := HL5.out; rw [h] at this; simp at this; omega)
          have HTX := Lib.hid (show txt (Lib.join ((p.take j).map monT) [32, 43, 32]) = txt (polyT p) from by rw [polyT_some HP0.out, hpj])
          have J1 := Lib.hid (joinRow_any HT.out [32, 43, 32] (by omega) (by
            have := HPTL.out
            rw [polyT_some HP0.out] at this
            rw [hpj]
            omega))
          have HBW := HBY
          clear hpj hl0
          obtain ⟨px, hpx⟩ : ∃ px, txt (polyT p) = .string px := ⟨_, rfl⟩
          rw [HTX.out, hpx] at J1
          have HPX := Lib.hid hpx.symm
          clear hpx
          go_wp2_with fail
          refine J1.out.mono ?_
          rintro e w7 ⟨rfl, hb7⟩
          have HR7 := Lib.hid (HR.out.step (HBW.out.trans (hb7.mono HBW.out.size)))
          clear hb7
          have HRQ8 := Lib.hid (HR7.out.row)
          have HPU8 := Lib.hid (fun (w' : World) (g' c' : Nat) (hown : w'.ownsRow 0 9 1 (.slice (some ⟨g', 0, none⟩) (k + 1) c') (k + 1) (_ ++ [.string px])) (hgrow : (w7.alloc (.cells #[.string px] 9)).grownBy w' (some gr)) (hat : some gr = some g' ∨ g' = w7.heap.size + 1) =>
            HR7.out.push (y := polyT p) ((Below.refl _ _).alloc (Nat.le_refl _) _) (by rw [← HPX.out]; exact hown) hgrow (hat.elim (fun h => .inl (Option.some.inj h)) (fun h => .inr (by omega))))
          go_wp2_with (first | (at_builtin; refine wpList_append_lies _ rfl _ _ _ rfl 0 9 i0 _ 1 16 Tryz.underlying34 hi hz0 hz1 hz2 rfl (by omega) (.slice (some ⟨gr, 0, none⟩) k cr) k _ (by rfl) (HRQ8.out.alloc _) ⟨w7.heap.size, 0, none⟩ 1 1 [.string px] (by rfl) (by rfl) (World.news_of_block (cs := #[.string px]) (t := 9) (fr := (0, 0)) (heap_alloc_new _ _)) (by simp [Value.oneCell']) (by omega) (by unfold maxLen; omega) (by omega) (by simp) (w7.heap.size + 1) (by simp) ?_; intro g8 cap8 w8 hown1 hgrow hat hlt1; have HR8 := Lib.hid (HPU8.out w8 g8 cap8 hown1 hgrow hat); clear hown1 hgrow hat))
          have HN := Lib.hid (show RowT w1 w8 (.slice (some ⟨g8, 0, none⟩) (k + 1) cap8) ((f.parts.take (k + 1)).map polyT) (k + 1) from by rw [HTN.out]; exact HR8.out)
          go_roundw
          case rel => exact ⟨k + 1, by go_num, by omega, HN.out⟩
          case measure => (simp [intOf]; try omega)
      obtain ⟨bm, om, adm, lm, cm, m, hbm, hm, hc0, hc1, hIm, hm1, hm2, hm3, hm4, _⟩ := rdMs_get (rdMs_mono HBY.out HP5.out) hlt2
      obtain ⟨⟨hmc0, hmc1⟩, hml, hmd, hmp⟩ := HPM.out m (List.mem_of_getElem? hm)
      subst hbm
      obtain ⟨W1, hW1⟩ : ∃ W, W = wy.alloc (.cells #[.int .i64 m.coef, .slice adm lm cm] 56) := ⟨_, rfl⟩
      have hbW1 : Below wy.heap.size wy W1 := hW1 ▸ (Below.refl _ _).alloc (Nat.le_refl _) _
      have hx0 : W1.cell? ⟨wy.heap.size, 0, none⟩ = some (.int .i64 m.coef) := by rw [hW1]; simp
      have hx1 : W1.cell? ⟨wy.heap.size, 1, none⟩ = some (.slice adm lm cm) := by rw [hW1]; simp
      have HRM := Lib.hid (rdI_mono hbW1 hm4)
      have HMP := Lib.hid hmp
      have HML := Lib.hid hm1
      have hlm6 : lm ≤ 6 := by omega
      have HMN := Lib.hid (show ((p.take (j + 1)).map monT) = ((p.take j).map monT) ++ [monT m] from by rw [take_snoc hm, List.map_append]; rfl)
      have HT1 := Lib.hid (HT.out.step hbW1)
      obtain ⟨s0, hs0⟩ : ∃ s, s = ByteArray.mk (fmtT m.coef).toArray := ⟨_, rfl⟩
      have FN := Lib.hid (show Calls Tryz.prog 90 #[.int .i64 m.coef] W1 fun e w' => e = .returned (.string s0) ∧ W1 = w' from by rw [hs0]; exact fmtNum_any m.coef W1)
      have HS0 := Lib.hid hs0
      have HW1 := Lib.hid hW1
      clear hm hm1 hm4 hml hmd hmp hW1 hs0 hmc0 hmc1
      go_wp2_with fail
      rw [← HW1.out]
      refine FN.out.mono ?_
      rintro e w' ⟨rfl, rfl⟩
      go_wp2
      go_loopw [9, 36] (fun sv si wr => ∃ (r : Nat) (s : ByteArray), si = .int .i64 r ∧ sv = .string s ∧ r ≤ lm ∧ s = ByteArray.mk (fmtT m.coef ++ powsT 0 (m.pows.take r)).toArray ∧ W1 = wr) (fun _ si _ => lm - (intOf si).toNat)
      case atStart => exact ⟨0, s0, rfl, rfl, Nat.zero_le _, by rw [HS0.out]; simp [powsT], rfl⟩
      case round =>
        obtain ⟨r, s, rfl, rfl, hr, hs, rfl⟩ := hrel
        by_cases hlt3 : r < lm
        case neg =>
          obtain rfl : r = lm := by omega
          have HSS := Lib.hid (show Value.string s = txt (monT m) from by rw [hs, List.take_of_length_le (by rw [HML.out]; exact Nat.le_refl _)]; rfl)
          clear hs
          have HRQ5 := Lib.hid (HT1.out.row)
          have HPU5 := Lib.hid (fun (w' : World) (g' c' : Nat) (hown : w'.ownsRow 0 9 1 (.slice (some ⟨g', 0, none⟩) (j + 1) c') (j + 1) (_ ++ [.string s])) (hgrow : (W1.alloc (.cells #[.string s] 9)).grownBy w' (some gt)) (hat : some gt = some g' ∨ g' = W1.heap.size + 1) =>
            HT1.out.push (y := monT m) ((Below.refl _ _).alloc (Nat.le_refl _) _) (by rw [← HSS.out]; exact hown) hgrow (hat.elim (fun h => .inl (Option.some.inj h)) (fun h => .inr (by omega))))
          go_wp2_with (first | (at_builtin; refine wpList_append_lies _ rfl _ _ _ rfl 0 9 i0 _ 1 16 Tryz.underlying34 hi hz0 hz1 hz2 rfl (by omega) (.slice (some ⟨gt, 0, none⟩) j ct) j _ (by rfl) (HRQ5.out.alloc _) ⟨W1.heap.size, 0, none⟩ 1 1 [.string s] (by rfl) (by rfl) (World.news_of_block (cs := #[.string s]) (t := 9) (fr := (0, 0)) (heap_alloc_new _ _)) (by simp [Value.oneCell']) (by omega) (by unfold maxLen; omega) (by omega) (by simp) (W1.heap.size + 1) (by simp) ?_; intro g5 cap5 w5 hown1 hgrow hat hlt1; have HR5 := Lib.hid (HPU5.out w5 g5 cap5 hown1 hgrow hat); clear hown1 hgrow hat))
          have HN := Lib.hid (show RowT wz w5 (.slice (some ⟨g5, 0, none⟩) (j + 1) cap5) ((p.take (j + 1)).map monT) (j + 1) from by rw [HMN.out]; exact HR5.out)
          go_roundw
          case rel => exact ⟨j + 1, by go_num, by omega, HN.out⟩
          case measure => (simp [intOf]; try omega)
        obtain ⟨bq, oq, x, rfl, hx, hcx, hIx, _⟩ := rdI_get HRM.out hlt3
        obtain ⟨hx0', hx5⟩ := HMP.out x (List.mem_of_getElem? hx)
        have hnx : powsT 0 (m.pows.take (r + 1)) = powsT 0 (m.pows.take r) ++ powL r x := by
          rw [take_snoc hx, powsT_snoc, List.length_take, HML.out, Nat.min_eq_left (by omega), Nat.zero_add]
        have hsl : (fmtT m.coef ++ powsT 0 (m.pows.take r)).length ≤ 41 := by
          have h1 := fmtT_len m.coef
          have h2 := powsT_len (m.pows.take r) 0 (fun n hn => (HMP.out n (List.mem_of_mem_take hn)).2)
          rw [List.length_append]
          rw [List.length_take] at h2
          omega
        by_cases hp0 : 0 < x
        case neg =>
          have HN := Lib.hid (show s = ByteArray.mk (fmtT m.coef ++ powsT 0 (m.pows.take (r + 1))).toArray from by rw [hs, hnx, powL, if_neg hp0, List.append_nil])
          clear hs hnx hx hsl
          go_wp2
          go_roundw
          case rel => exact ⟨r + 1, s, by go_num, rfl, by omega, HN.out, by first | trivial | rfl⟩
          case measure => (simp [intOf]; try omega)
        obtain ⟨e1, he1⟩ : ∃ e, Utf8.encode (97 + (r : Int)) = e := ⟨_, rfl⟩
        have he1' : e1 = ByteArray.mk [UInt8.ofNat (97 + r)].toArray := by
          rw [← he1, show (97 : Int) + (r : Int) = ((97 + r : Nat) : Int) by omega, enc_ascii _ (by omega)]
        obtain ⟨s1, hs1⟩ : ∃ s1, s1 = ByteArray.mk ([42] ++ [UInt8.ofNat (97 + r)]).toArray := ⟨_, rfl⟩
        obtain ⟨s2, hs2⟩ : ∃ s2, s2 = ByteArray.mk ((fmtT m.coef ++ powsT 0 (m.pows.take r)) ++ ([42] ++ [UInt8.ofNat (97 + r)])).toArray := ⟨_, rfl⟩
        have hc1 : ∀ w : World, (Op.stringOp .add (ByteArray.mk #[42]) e1).run Tryz.prog w = .ok (.string s1) w := fun w => by
          rw [he1', hs1]
          exact cat_run [42] [UInt8.ofNat (97 + r)] (by simp) w
        have hc2 : ∀ w : World, (Op.stringOp .add s s1).run Tryz.prog w = .ok (.string s2) w := fun w => by
          rw [hs, hs1, hs2]
          exact cat_run _ _ (by simp at hsl ⊢; omega) w
        by_cases hp1 : 1 < x
        · obtain ⟨d, hd⟩ : ∃ d, d = ByteArray.mk (decL x.toNat).toArray := ⟨_, rfl⟩
          obtain ⟨s3, hs3⟩ : ∃ s3, s3 = ByteArray.mk (((fmtT m.coef ++ powsT 0 (m.pows.take r)) ++ ([42] ++ [UInt8.ofNat (97 + r)])) ++ decL x.toNat).toArray := ⟨_, rfl⟩
          have hdl := decL_len x.toNat 0 (by omega)
          have hc3 : ∀ w : World, (Op.stringOp .add s2 d).run Tryz.prog w = .ok (.string s3) w := fun w => by
            rw [hs2, hd, hs3]
            exact cat_run _ _ (by simp at hsl hdl ⊢; omega) w
          have D1 := Lib.hid (show Calls Tryz.prog 91 #[.int .i64 x] W1 fun e w' => e = .returned (.string d) ∧ W1 = w' from by
            rw [hd]
            exact decimal_any (n := x.toNat) (by omega) (by omega) W1)
          have HN := Lib.hid (show s3 = ByteArray.mk (fmtT m.coef ++ powsT 0 (m.pows.take (r + 1))).toArray from by rw [hs3, hnx, powL, if_pos hp0, if_pos hp1]; simp)
          clear hs hnx hx hsl he1' hs1 hs2 hd hs3 hdl
          go_wp2_with fail
          refine D1.out.mono ?_
          rintro e w' ⟨rfl, rfl⟩
          go_wp2
          go_roundw
          case rel => exact ⟨r + 1, s3, by go_num, rfl, by omega, HN.out, by first | trivial | rfl⟩
          case measure => (simp [intOf]; try omega)
        · have HN := Lib.hid (show s2 = ByteArray.mk (fmtT m.coef ++ powsT 0 (m.pows.take (r + 1))).toArray from by rw [hs2, hnx, powL, if_pos hp0, if_neg hp1]; simp)
          clear hs hnx hx hsl he1' hs1 hs2
          go_wp2
          go_roundw
          case rel => exact ⟨r + 1, s2, by go_num, rfl, by omega, HN.out, by first | trivial | rfl⟩
          case measure => (simp [intOf]; try omega)
end Go.Proofs.YtbcjhpgkodeoeaaGreatDoor
