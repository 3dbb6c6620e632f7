/- strings.HasPrefix, TrimPrefix, Cut and Split, laid at this program. Conditions: none. -/
import Derived.Test.YtdaaamdighojdaaDoorParC
import Derived.Shelf.Strings.Prefix
import Derived.Shelf.Strings.Cut
import Derived.Shelf.Strings.Split
set_option linter.unusedSimpArgs false
set_option linter.unusedVariables false
namespace Go.Proofs.YtdaaamdighojdaaDoor
open Go.RowKit Go.Sort Go.Shelf

def strRen : Go.Shelf.Ren := ⟨fun | 99 => 42 | 101 => 43 | 138 => 40 | 143 => 41 | 145 => 44 | 146 => 12 | 195 => 59 | 197 => 60 | 206 => 63 | 208 => 64 | 217 => 76 | 218 => 61 | 219 => 62 | 220 => 65 | 221 => 25 | 224 => 78 | 225 => 77 | 260 => 75 | 266 => 84 | 267 => 79 | 268 => 39 | 314 => 85 | n => n, fun | 0 => 0 | 3 => 3 | 4 => 4 | 5 => 5 | 9 => 9 | 21 => 21 | 31 => 30 | 46 => 83 | 51 => 91 | 59 => 61 | 105 => 77 | 119 => 87 | 138 => 89 | 139 => 90 | 146 => 92 | n => n, fun | 1 => 0 | 3 => 1 | 4 => 2 | n => n⟩
theorem strLays99 : Lays.n99 Tryd.prog strRen := {
  mixed := by kernel_rfl
  f99 := Tryd.func42.trans (congrArg some (by kernel_rfl))
  f206 := Tryd.func63.trans (congrArg some (by kernel_rfl))
  t3 := Tryd.underlying3
  a3 := Tryd.isAgg3
  z3 := Tryd.sizeOf3
  v3 := Tryd.zeroValue3
  t4 := Tryd.underlying4
  a4 := Tryd.isAgg4
  z4 := Tryd.sizeOf4
  v4 := Tryd.zeroValue4
  t9 := Tryd.underlying9
  a9 := Tryd.isAgg9
  z9 := Tryd.sizeOf9
  v9 := Tryd.zeroValue9 }
theorem strLays101 : Lays.n101 Tryd.prog strRen := {
  mixed := by kernel_rfl
  f101 := Tryd.func43.trans (congrArg some (by kernel_rfl))
  f206 := Tryd.func63.trans (congrArg some (by kernel_rfl))
  f208 := Tryd.func64.trans (congrArg some (by kernel_rfl))
  t3 := Tryd.underlying3
  a3 := Tryd.isAgg3
  z3 := Tryd.sizeOf3
  v3 := Tryd.zeroValue3
  t4 := Tryd.underlying4
  a4 := Tryd.isAgg4
  z4 := Tryd.sizeOf4
  v4 := Tryd.zeroValue4
  t9 := Tryd.underlying9
  a9 := Tryd.isAgg9
  z9 := Tryd.sizeOf9
  v9 := Tryd.zeroValue9 }
theorem strLays145 : Lays.n145 Tryd.prog strRen := {
  mixed := by kernel_rfl
  f145 := Tryd.func44.trans (congrArg some (by kernel_rfl))
  f217 := Tryd.func76.trans (congrArg some (by kernel_rfl))
  f219 := Tryd.func62.trans (congrArg some (by kernel_rfl))
  f220 := Tryd.func65.trans (congrArg some (by kernel_rfl))
  f224 := Tryd.func78.trans (congrArg some (by kernel_rfl))
  f225 := Tryd.func77.trans (congrArg some (by kernel_rfl))
  f266 := Tryd.func84.trans (congrArg some (by kernel_rfl))
  f267 := Tryd.func79.trans (congrArg some (by kernel_rfl))
  f314 := Tryd.func85.trans (congrArg some (by kernel_rfl))
  t3 := Tryd.underlying3
  a3 := Tryd.isAgg3
  z3 := Tryd.sizeOf3
  v3 := Tryd.zeroValue3
  t4 := Tryd.underlying4
  a4 := Tryd.isAgg4
  z4 := Tryd.sizeOf4
  v4 := Tryd.zeroValue4
  t5 := Tryd.underlying5
  a5 := Tryd.isAgg5
  z5 := Tryd.sizeOf5
  v5 := Tryd.zeroValue5
  t9 := Tryd.underlying9
  a9 := Tryd.isAgg9
  z9 := Tryd.sizeOf9
  v9 := Tryd.zeroValue9
  t46 := Tryd.underlying83
  a46 := Tryd.isAgg83
  z46 := Tryd.sizeOf83
  v46 := Tryd.zeroValue83
  t51 := Tryd.underlying91
  a51 := Tryd.isAgg91
  z51 := Tryd.sizeOf91
  v51 := Tryd.zeroValue91
  t59 := Tryd.underlying61
  a59 := Tryd.isAgg61
  z59 := Tryd.sizeOf61
  v59 := Tryd.zeroValue61
  t146 := Tryd.underlying92
  a146 := Tryd.isAgg92
  z146 := Tryd.sizeOf92
  v146 := Tryd.zeroValue92
  g1 := by kernel_rfl }
theorem strLays146 : Lays.n146 Tryd.prog strRen := {
  mixed := by kernel_rfl
  f138 := Tryd.func40.trans (congrArg some (by kernel_rfl))
  f143 := Tryd.func41.trans (congrArg some (by kernel_rfl))
  f146 := Tryd.func12.trans (congrArg some (by kernel_rfl))
  f195 := Tryd.func59.trans (congrArg some (by kernel_rfl))
  f197 := Tryd.func60.trans (congrArg some (by kernel_rfl))
  f217 := Tryd.func76.trans (congrArg some (by kernel_rfl))
  f218 := Tryd.func61.trans (congrArg some (by kernel_rfl))
  f219 := Tryd.func62.trans (congrArg some (by kernel_rfl))
  f221 := Tryd.func25.trans (congrArg some (by kernel_rfl))
  f224 := Tryd.func78.trans (congrArg some (by kernel_rfl))
  f225 := Tryd.func77.trans (congrArg some (by kernel_rfl))
  f260 := Tryd.func75.trans (congrArg some (by kernel_rfl))
  f266 := Tryd.func84.trans (congrArg some (by kernel_rfl))
  f267 := Tryd.func79.trans (congrArg some (by kernel_rfl))
  f268 := Tryd.func39.trans (congrArg some (by kernel_rfl))
  f314 := Tryd.func85.trans (congrArg some (by kernel_rfl))
  t0 := Tryd.underlying0
  a0 := Tryd.isAgg0
  z0 := Tryd.sizeOf0
  v0 := Tryd.zeroValue0
  t3 := Tryd.underlying3
  a3 := Tryd.isAgg3
  z3 := Tryd.sizeOf3
  v3 := Tryd.zeroValue3
  t4 := Tryd.underlying4
  a4 := Tryd.isAgg4
  z4 := Tryd.sizeOf4
  v4 := Tryd.zeroValue4
  t5 := Tryd.underlying5
  a5 := Tryd.isAgg5
  z5 := Tryd.sizeOf5
  v5 := Tryd.zeroValue5
  t9 := Tryd.underlying9
  a9 := Tryd.isAgg9
  z9 := Tryd.sizeOf9
  v9 := Tryd.zeroValue9
  t21 := Tryd.underlying21
  a21 := Tryd.isAgg21
  z21 := Tryd.sizeOf21
  v21 := Tryd.zeroValue21
  t31 := Tryd.underlying30
  a31 := Tryd.isAgg30
  z31 := Tryd.sizeOf30
  v31 := Tryd.zeroValue30
  t46 := Tryd.underlying83
  a46 := Tryd.isAgg83
  z46 := Tryd.sizeOf83
  v46 := Tryd.zeroValue83
  t51 := Tryd.underlying91
  a51 := Tryd.isAgg91
  z51 := Tryd.sizeOf91
  v51 := Tryd.zeroValue91
  t105 := Tryd.underlying77
  a105 := Tryd.isAgg77
  z105 := Tryd.sizeOf77
  v105 := Tryd.zeroValue77
  t119 := Tryd.underlying87
  a119 := Tryd.isAgg87
  z119 := Tryd.sizeOf87
  t138 := Tryd.underlying89
  a138 := Tryd.isAgg89
  z138 := Tryd.sizeOf89
  v138 := Tryd.zeroValue89
  t139 := Tryd.underlying90
  a139 := Tryd.isAgg90
  z139 := Tryd.sizeOf90
  v139 := Tryd.zeroValue90
  t146 := Tryd.underlying92
  a146 := Tryd.isAgg92
  z146 := Tryd.sizeOf92
  v146 := Tryd.zeroValue92
  g1 := by kernel_rfl
  g3 := by kernel_rfl
  g4 := by kernel_rfl }
theorem str_list {s : ByteArray} {l : List UInt8} (hs : s = ByteArray.mk l.toArray) : s.data.toList = l := by subst hs; simp
theorem hasPrefix_any (l p : List UInt8) (s sp : ByteArray) (hs : s = ByteArray.mk l.toArray) (hp : sp = ByteArray.mk p.toArray) (w : World) :
    Calls Tryd.prog 42 #[.string s, .string sp] w fun e w' => e = .returned (.bool (Lib.hasPrefix l p)) ∧ w = w' := by
  refine (Any.strings_HasPrefix strLays99 s sp w).mono ?_
  rintro e w' ⟨he, hw⟩
  rw [str_list hs, str_list hp] at he
  exact ⟨he, hw.symm⟩
theorem trimPrefix_any (l p : List UInt8) (s sp : ByteArray) (hs : s = ByteArray.mk l.toArray) (hp : sp = ByteArray.mk p.toArray) (w : World) :
    Calls Tryd.prog 43 #[.string s, .string sp] w fun e w' => e = .returned (txt (Lib.trimPrefix l p)) ∧ w = w' := by
  refine (Any.strings_TrimPrefix strLays101 s sp w).mono ?_
  rintro e w' ⟨he, hw⟩
  rw [str_list hs, str_list hp] at he
  exact ⟨he, hw.symm⟩
/-- The cell of internal/bytealg.MaxLen. -/
def MaxCell (w : World) : Prop := ∃ m : Int, w.cell? ⟨0, 0, none⟩ = some (.int .i64 m)
theorem maxCell_mono {w w' : World} (hb : Below w.heap.size w w') (h : MaxCell w) : MaxCell w' := by
  obtain ⟨m, hm⟩ := h
  exact ⟨m, cell_below hb hm⟩
theorem cut_any (l p : List UInt8) (s sp : ByteArray) (hs : s = ByteArray.mk l.toArray) (hp : sp = ByteArray.mk p.toArray) (hl : l.length ≤ 1048576) (w : World) (hm : MaxCell w) :
    Calls Tryd.prog 44 #[.string s, .string sp] w fun e w' => e = .returned (.tuple #[txt (Lib.cut l p).1, txt (Lib.cut l p).2.1, .bool (Lib.cut l p).2.2]) ∧ Below w.heap.size w w' := by
  obtain ⟨m, hm⟩ := hm
  refine (Any.strings_Cut strLays145 s sp m w (by rw [str_size hs]; omega) hm).mono ?_
  rintro e w' ⟨he, n, hw⟩
  rw [str_list hs, str_list hp] at he
  exact ⟨he, hw ▸ blw_drewN (Below.refl _ _) n⟩
theorem splitB_txt (sp : ByteArray) (k : Nat) (s : ByteArray) : (Lib.splitB sp 0 k s).map Value.string = (Lib.splitK sp.data.toList 0 k s.data.toList).map txt := by
  rw [← Lib.splitB_data, List.map_map]
  refine List.map_congr_left fun x _ => ?_
  unfold txt
  simp
theorem split_any (l p : List UInt8) (s sp : ByteArray) (hs : s = ByteArray.mk l.toArray) (hp : sp = ByteArray.mk p.toArray) (hl : l.length ≤ 1048576) (h1 : 1 ≤ p.length) (w : World) (hm : MaxCell w) :
    Calls Tryd.prog 12 #[.string s, .string sp] w (Words w (Lib.split l p)) := by
  obtain ⟨m, hm⟩ := hm
  refine (Any.strings_Split strLays146 (by kernel_rfl) s sp m w (by rw [str_size hs]; omega) hm (by rw [str_size hp]; omega)).mono ?_
  rintro e w' ⟨rfl, rfl⟩
  have hc : Lib.countB s sp = Lib.count l p := by unfold Lib.countB; rw [str_list hs, str_list hp]
  have hlen : (Lib.splitB sp 0 (Lib.countB s sp) s).length = Lib.countB s sp + 1 := Lib.splitB_all sp (by rw [str_size hp]; omega) 0 _ s rfl
  have hx : (Lib.splitB sp 0 (Lib.countB s sp) s).map Value.string = (Lib.split l p).map txt := by rw [splitB_txt, str_list hs, str_list hp, hc]; rfl
  have hxl : (Lib.split l p).length = Lib.countB s sp + 1 := by rw [← hlen, ← List.length_map (f := txt), ← hx, List.length_map]
  have hle := split_len l p
  refine ⟨_, _, _, rfl, hxl, ⟨_, _, rfl, Nat.le_refl _⟩, ?_, (Below.refl _ _).alloc (Nat.le_refl _) _⟩
  rw [hx]
  have := World.ownsRow_lit (base := 0) (e := 9) (size := 1) w ((Lib.split l p).map txt).toArray (Lib.countB s sp + 1) (Nat.zero_le _) (by unfold maxLen; omega) (by simp [hxl])
  simp only [List.toList_toArray] at this
  exact this
end Go.Proofs.YtdaaamdighojdaaDoor
