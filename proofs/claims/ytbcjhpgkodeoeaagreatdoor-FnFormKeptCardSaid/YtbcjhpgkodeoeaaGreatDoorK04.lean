/- The texts DrwN, DrwM, Cpy, AppI, Tab, TBox in one: each says at its head what it proves. Conditions: as said there. -/
import Derived.Deep.AppendLies
import Derived.Maps.AppendAt
import Derived.Laws.OwnMore
import Derived.Lib.AppendZeros
import Derived.Test.YtbcjhpgkodeoeaaGreatDoorK02
import Derived.Test.YtbcjhpgkodeoeaaGreatDoorK03
import Derived.Test.YtbcjhpgkodeoeaaGreatDoorK01
set_option linter.unusedSimpArgs false
set_option linter.unusedVariables false
/- Drawn numbers and rows of them. Conditions: a cursor. -/
namespace Go.Proofs.YtbcjhpgkodeoeaaGreatDoor
open Go.RowKit

/-- A number is drawn. -/
def DrawsNum (g : Nat) (w : World) : Ending → World → Prop := fun e w' => ∃ x : Int, e = .returned (.int .i64 x) ∧ 0 ≤ x ∧ x ≤ 1000000270 ∧ Drawn g w w'
set_option maxHeartbeats 1600000 in
theorem num_any (g : Nat) (w : World) (hc : Cur w g) : Calls Tryz.prog 74 #[.pointer (some ⟨g, 0, none⟩)] w (DrawsNum g w) := by
  go_enter Tryz.func74, Tryz.ntmps74
  go_wp2_with fail
  refine (below_any g 8 8 rfl (by omega) (by omega) w hc).mono ?_
  rintro e w1 ⟨x, rfl, hx, hd⟩
  by_cases h0 : x = 0
  · subst h0
    go_wp2
    go_ret
    exact ⟨0, rfl, by omega, by omega, hd⟩
  have h0I : ¬ ((x : Int) = 0) := by omega
  by_cases h1 : x = 1
  · subst h1
    go_wp2
    go_ret
    exact ⟨1, rfl, by omega, by omega, hd⟩
  have h1I : ¬ ((x : Int) = 1) := by omega
  by_cases h2 : x = 2
  · subst h2
    go_wp2_with fail
    refine (sFraction_any 1 2 w1).mono ?_
    rintro e w2 ⟨rfl, rfl⟩
    go_wp2
    go_ret
    exact ⟨_, rfl, (fracZ_bd _ _).1, (fracZ_bd _ _).2, hd⟩
  have h2I : ¬ ((x : Int) = 2) := by omega
  by_cases h3 : x = 3
  · subst h3
    go_wp2_with fail
    refine (below_any g 1000000271 1000000271 rfl (by omega) (by omega) w1 hd.cur).mono ?_
    rintro e w2 ⟨y, rfl, hy, hd2⟩
    go_wp2
    go_ret
    exact ⟨y, rfl, by omega, by omega, hd.trans hd2⟩
  have h3I : ¬ ((x : Int) = 3) := by omega
  go_wp2_with fail
  refine (below_any g 13 13 rfl (by omega) (by omega) w1 hd.cur).mono ?_
  rintro e w2 ⟨y, rfl, hy, hd2⟩
  go_wp2_with fail
  refine (below_any g 6 6 rfl (by omega) (by omega) w2 hd2.cur).mono ?_
  rintro e w3 ⟨z, rfl, hz, hd3⟩
  go_wp2_with fail
  refine (sFraction_any _ _ w3).mono ?_
  rintro e w4 ⟨rfl, rfl⟩
  go_wp2
  go_ret
  exact ⟨_, rfl, (fracZ_bd _ _).1, (fracZ_bd _ _).2, hd.trans (hd2.trans hd3)⟩

/-- Behind an append of one number: what may have changed is the row's own block. -/
theorem ownI_push2 {e : Nat} {w w1 w2 : World} {v v' : Value} {ys : List Int} {f : List Nat} {y : Int} {n : Nat} (h : OwnI e w v ys f) (hn : ys.length = n) (hy : I64 y)
    (h1 : Below w.heap.size w w1) (hown : w2.ownsRow 0 e 1 v' (n + 1) (ys.map (Value.int .i64) ++ [.int .i64 y])) (hg : w1.grownBy w2 v.ownBlock) (hv : ∀ b, v'.ownBlock = some b → v.ownBlock = some b ∨ w1.heap.size ≤ b) :
    ∃ f', OwnI e w2 v' (ys ++ [y]) f' ∧ (∀ b ∈ f', b ∈ f ∨ w1.heap.size ≤ b) ∧ Only f w w2 := by
  subst hn
  have hfe : f = v.ownBlock.toList := h.2.1
  refine ⟨v'.ownBlock.toList, ⟨by simpa using hown, rfl, ?_⟩, fun b hb => ?_, ?_⟩
  · intro x hx
    simp at hx
    rcases hx with hx | rfl
    · exact h.2.2 x hx
    · exact hy
  · rw [Option.mem_toList] at hb
    rcases hv b hb with hb | hb
    · left; rw [hfe, hb]; simp
    · right; exact hb
  · rw [hfe]
    exact (Only.of_below h1).trans ⟨hg.os, hg.tape, hg.output, hg.size, fun k hk hn => hg.block k hk (fun e => hn (by rw [← e]; simp))⟩

/-- A row of n numbers that are drawn. -/
def NumRow (n : Nat) (xs : List Int) : Prop := xs.length = n ∧ ∀ x ∈ xs, 0 ≤ x ∧ x ≤ 1000000270
def DrawsRow (g n : Nat) (w : World) : Ending → World → Prop := fun e w' => ∃ (v : Value) (xs : List Int) (fp : List Nat), e = .returned v ∧ OwnI 3 w' v xs fp ∧ NumRow n xs ∧ (∀ b ∈ fp, w.heap.size ≤ b) ∧ Drawn g w w'
set_option maxRecDepth 100000 in
set_option maxHeartbeats 3200000 in
theorem nums_any (g n : Nat) (nz : Int) (hnz : nz = n) (hn : n ≤ 1000) (w : World) (hc : Cur w g) : Calls Tryz.prog 104 #[.pointer (some ⟨g, 0, none⟩), .int .i64 nz] w (DrawsRow g n w) := by
  obtain ⟨j0, hj, hz0, hz1, hz2⟩ := info_parts Tryz.info_int
  have hgl := hc.lt
  have hal0 : Below w.heap.size w (w.alloc (.cells #[] 3)) := (Below.refl _ _).alloc (Nat.le_refl _) _
  have hi0 := Lib.hid (show OwnI 3 (w.alloc (.cells #[] 3)) (.slice (some ⟨w.heap.size, 0, none⟩) 0 0) [] [w.heap.size] from ⟨by simpa using World.ownsRow_lit (base := 0) (e := 3) (size := 1) w #[] 0 (Nat.zero_le _) (Nat.zero_le _) rfl, rfl, by simp⟩)
  have HD0 := Lib.hid ((Drawn.refl hc).below hal0)
  have HNZ := Lib.hid hnz
  clear hal0 hnz
  go_enter Tryz.func104, Tryz.ntmps104
  go_wp2
  go_loopw [5, 6] (fun p j wq => ∃ (q : Nat) (ys : List Int) (f : List Nat), q ≤ n ∧ j = .int .i64 q ∧ OwnI 3 wq p ys f ∧ NumRow q ys ∧ (∀ b ∈ f, w.heap.size ≤ b) ∧ Drawn g w wq) (fun _ j _ => n - (intOf j).toNat)
  case atStart => exact ⟨0, [], [w.heap.size], Nat.zero_le _, rfl, hi0.out, ⟨rfl, by simp⟩, by simp, HD0.out⟩
  case round =>
    obtain ⟨q, ys, f, hq, rfl, hp, hys, hf, hd⟩ := hrel
    clear hi0
    by_cases hql : q < n
    case neg =>
      obtain rfl : q = n := by omega
      have : ¬ ((q : Int) < nz) := by rw [HNZ.out]; omega
      go_wp2
      go_ret
      exact ⟨_, ys, f, rfl, hp, hys, hf, hd⟩
    have hqI : (q : Int) < nz := by rw [HNZ.out]; omega
    go_wp2_with fail
    refine (num_any g wr hd.cur).mono ?_
    rintro e w1 ⟨x, rfl, hx0, hx1, hd1⟩
    have hgf : ∀ b ∈ f, b ∉ [g] := fun b hb => by have := hf b hb; simp; omega
    have hp1 : OwnI 3 w1 _ ys f := ownI_only hp hd1.only hgf
    obtain ⟨adp, lenp, capp, rfl, hlp, hlpc, hcpm, hownp, _, hfe⟩ := ownI_open hp1
    obtain rfl : lenp = q := by have := hys.1; omega
    have hal : Below w1.heap.size w1 (w1.alloc (.cells #[.int .i64 x] 3)) := (Below.refl _ _).alloc (Nat.le_refl _) _
    have hd01 := hd.trans hd1
    have HP := Lib.hid (fun (w2 : World) (gg capn : Nat) (hown1 : w2.ownsRow 0 3 1 (.slice (some ⟨gg, 0, none⟩) (lenp + 1) capn) (lenp + 1) (ys.map (Value.int .i64) ++ [.int .i64 x]))
        (hgrow : (w1.alloc (.cells #[.int .i64 x] 3)).grownBy w2 (Value.slice adp lenp capp).ownBlock) (hat : (Value.slice adp lenp capp).ownBlock = some gg ∨ gg = w1.heap.size + 1) =>
      show ∃ f', OwnI 3 w2 (.slice (some ⟨gg, 0, none⟩) (lenp + 1) capn) (ys ++ [x]) f' ∧ (∀ b ∈ f', w.heap.size ≤ b) ∧ Drawn g w w2 from by
        obtain ⟨f', h1, h2, h3⟩ := ownI_push2 hp1 hlp ⟨by omega, by omega⟩ hal hown1 hgrow (fun b hb => by
          simp [Value.ownBlock] at hb
          subst hb
          rcases hat with hat | hat
          · left; exact hat
          · right; rw [hat]; simp)
        have hs := hd01.only.size
        have hnew : ∀ b ∈ f', w.heap.size ≤ b := fun b hb => by
          rcases h2 b hb with hb | hb
          · exact hf b hb
          · have := hal.size; omega
        exact ⟨f', h1, hnew, Only.newer hd01.only h3 hf, hd01.cur.only h3 (fun hg => by have := hf _ hg; omega) (fun b hb => by have := hf b hb; omega)⟩)
    have HNP := Lib.hid hownp
    clear hownp hfe hlp hp1 hal
    go_wp2_with (first | (at_builtin; refine wpList_append_lies _ rfl _ _ _ rfl 0 3 j0 _ 1 8 Tryz.underlying35 hj hz0 hz1 hz2 rfl (by omega) (.slice adp lenp capp) lenp _ (by rfl) (HNP.out.alloc _) ⟨w1.heap.size, 0, none⟩ 1 1 [.int .i64 x] (by rfl) (by rfl) (World.news_of_block (cs := #[.int .i64 x]) (t := 3) (fr := (0, 0)) (heap_alloc_new w1 _)) (by simp [Value.oneCell']) (by omega) (by unfold maxLen; omega) (by omega) (by simp) (w1.heap.size + 1) (by simp) ?_; intro gg capn w1 hown1 hgrow hat hlt1; obtain ⟨f', hP1, hP2, hP3⟩ := HP.out w1 gg capn hown1 hgrow hat; have HPP := Lib.hid hP1))
    all_goals (
      go_roundw
      case rel => exact ⟨lenp + 1, ys ++ [x], f', by omega, by go_num, HPP.out, ⟨by simp [hys.1], fun y hy => by
        rcases List.mem_append.1 hy with hy | hy
        · exact hys.2 y hy
        · rw [List.mem_singleton.1 hy]; exact ⟨hx0, hx1⟩⟩, hP2, hP3⟩
      case measure => simp [intOf]; omega)
end Go.Proofs.YtbcjhpgkodeoeaaGreatDoor

/- Drawn paths. Conditions: a cursor. -/
namespace Go.Proofs.YtbcjhpgkodeoeaaGreatDoor
open Go.RowKit Go.Sort

/-- An append in a world that is drawn from: what is new stays new, the cursor stays. -/
theorem drawn_push {α : Type} {e size : Nat} {El : World → List Value → α → List Nat → Prop} (hE : ∀ w w' u x f g, El w u x f → Only g w w' → (∀ b ∈ f, b ∉ g) → El w' u x f)
    {g : Nat} {w wk w1 w2 : World} {v v' : Value} {xs : List α} {x : α} {us : List (List Value)} {u : List Value} {fs f : List Nat} {n : Nat}
    (hgl : g < w.heap.size) (hd : Drawn g w wk) (hone : ∀ u ∈ us, u.length = size) (hels : OwnEls El wk us xs fs) (hnd : (v.ownBlock.toList ++ fs).Nodup) (hx : El wk u x f) (hul : u.length = size)
    (hdis : ∀ b ∈ f, b ∉ v.ownBlock.toList ++ fs) (hfn : f.Nodup) (hfl : ∀ b ∈ f, b < wk.heap.size) (hsl : ∀ b ∈ fs, b < wk.heap.size) (hn : xs.length = n)
    (hgo : ∀ b ∈ v.ownBlock.toList ++ fs, w.heap.size ≤ b) (hgf : ∀ b ∈ f, w.heap.size ≤ b)
    (h1 : Below wk.heap.size wk w1) (hown : w2.ownsRow 0 e size v' (n + 1) (us.flatten ++ u)) (hg : w1.grownBy w2 v.ownBlock) (hv : ∀ b, v'.ownBlock = some b → v.ownBlock = some b ∨ w1.heap.size ≤ b) :
    ∃ fp', OwnS e size El w2 v' (xs ++ [x]) fp' ∧ (∀ b ∈ fp', w.heap.size ≤ b) ∧ Drawn g w w2 := by
  obtain ⟨fp', a1, a2, a3⟩ := ownS_push2 hE hone hels hnd hx hul hdis hfn hfl hsl hn h1 hown hg hv
  have hs := hd.only.size
  have h1s := h1.size
  have hgv : ∀ b ∈ v.ownBlock.toList, w.heap.size ≤ b := fun b hb => hgo b (by simp only [List.mem_append]; exact .inl hb)
  refine ⟨fp', a1, fun b hb => ?_, Only.newer hd.only a3 hgv, hd.cur.only a3 (fun hm => by have := hgv g hm; omega) (fun b hb => by have := hgv b hb; omega)⟩
  rcases a2 b hb with h | h | h
  · exact hgo b h
  · exact hgf b h
  · omega

/-- n rows of d numbers each. -/
def PathRow (d n : Nat) (xs : List (List Int)) : Prop := xs.length = n ∧ ∀ x ∈ xs, NumRow d x
def DrawsPath (g d n : Nat) (w : World) : Ending → World → Prop := fun e w' => ∃ (v : Value) (xs : List (List Int)) (fp : List Nat), e = .returned v ∧ OwnII 35 3 w' v xs fp ∧ PathRow d n xs ∧ (∀ b ∈ fp, w.heap.size ≤ b) ∧ Drawn g w w'
set_option maxRecDepth 100000 in
set_option maxHeartbeats 3200000 in
theorem path_any (g d n : Nat) (dz nz : Int) (hdz : dz = d) (hnz : nz = n) (hd : d ≤ 1000) (hn : n ≤ 1000) (w : World) (hc : Cur w g) : Calls Tryz.prog 43 #[.pointer (some ⟨g, 0, none⟩), .int .i64 dz, .int .i64 nz] w (DrawsPath g d n w) := by
  obtain ⟨j0, hj, hz0, hz1, hz2⟩ := info_parts Tryz.info_ints
  have hgl := hc.lt
  have hal0 : Below w.heap.size w (w.alloc (.cells #[] 35)) := (Below.refl _ _).alloc (Nat.le_refl _) _
  have hi0 := Lib.hid (show OwnII 35 3 (w.alloc (.cells #[] 35)) (.slice (some ⟨w.heap.size, 0, none⟩) 0 0) [] [w.heap.size] from ⟨[], [], by simpa using World.ownsRow_lit (base := 0) (e := 35) (size := 1) w #[] 0 (Nat.zero_le _) (Nat.zero_le _) rfl, by simp, rfl, rfl, by simp⟩)
  have HD0 := Lib.hid ((Drawn.refl hc).below hal0)
  have HNZ := Lib.hid hnz
  have HDZ := Lib.hid hdz
  clear hal0 hnz hdz
  go_enter Tryz.func43, Tryz.ntmps43
  go_wp2
  go_loopw [7, 8] (fun p j wq => ∃ (q : Nat) (ys : List (List Int)) (f : List Nat), q ≤ n ∧ j = .int .i64 q ∧ OwnII 35 3 wq p ys f ∧ PathRow d q ys ∧ (∀ b ∈ f, w.heap.size ≤ b) ∧ Drawn g w wq) (fun _ j _ => n - (intOf j).toNat)
  case atStart => exact ⟨0, [], [w.heap.size], Nat.zero_le _, rfl, hi0.out, ⟨rfl, by simp⟩, by simp, HD0.out⟩
  case round =>
    obtain ⟨q, ys, f, hq, rfl, hp, hys, hf, hd⟩ := hrel
    clear hi0
    by_cases hql : q < n
    case neg =>
      obtain rfl : q = n := by omega
      have : ¬ ((q : Int) < nz) := by rw [HNZ.out]; omega
      go_wp2
      go_ret
      exact ⟨_, ys, f, rfl, hp, hys, hf, hd⟩
    have hqI : (q : Int) < nz := by rw [HNZ.out]; omega
    go_wp2_with fail
    refine (nums_any g d dz HDZ.out (by assumption) wr hd.cur).mono ?_
    rintro e w1 ⟨x, zs, fx, rfl, hox, hnr, hfx, hd1⟩
    have hgf : ∀ b ∈ f, b ∉ [g] := fun b hb => by have := hf b hb; simp; omega
    have hws := hd.only.size
    have hlt := ownII_lt hp
    have hp1 : OwnII 35 3 w1 _ ys f := ownII_only hp hd1.only hgf
    obtain ⟨us, fs, hown, hone, hels, rfl, hnd⟩ := hp1
    have hown2 := hown
    rw [hys.1] at hown2
    obtain ⟨adp, capp, rfl, hlpc, hcpm, _⟩ := row_open hown2
    obtain ⟨adx, lenx, capx, rfl, _, _, _, _, _, _⟩ := ownI_open hox
    have hal : Below w1.heap.size w1 (w1.alloc (.cells #[.slice adx lenx capx] 35)) := (Below.refl _ _).alloc (Nat.le_refl _) _
    have HP := Lib.hid (fun (w2 : World) (gg capn : Nat) (hown1 : w2.ownsRow 0 35 1 (.slice (some ⟨gg, 0, none⟩) (q + 1) capn) (q + 1) (us.flatten ++ [.slice adx lenx capx]))
        (hgrow : (w1.alloc (.cells #[.slice adx lenx capx] 35)).grownBy w2 (Value.slice adp q capp).ownBlock) (hat : (Value.slice adp q capp).ownBlock = some gg ∨ gg = w1.heap.size + 1) =>
      drawn_push (El := OElII 3) (fun _ _ _ _ _ _ h ho hd => oelII_only h ho hd) hgl (hd.trans hd1) hone hels hnd (u := [.slice adx lenx capx]) ⟨_, rfl, hox⟩ rfl
        (fun b hb hm => by have := hfx b hb; have := hlt b hm; omega) (ownI_nodup hox) (ownI_lt hox) (fun b hb => by have := hlt b (by simp [hb]); have := hd1.only.size; omega) hys.1 hf (fun b hb => by have := hfx b hb; omega)
        hal hown1 hgrow (fun b hb => by
          simp [Value.ownBlock] at hb
          subst hb
          rcases hat with hat | hat
          · left; exact hat
          · right; rw [hat]; simp))
    have HNP := Lib.hid hown2
    have HYS := Lib.hid hys
    have HNR := Lib.hid hnr
    clear hown hown2 hels hone hnd hp hox hal hys hnr
    go_wp2_with (first | (at_builtin; refine wpList_append_lies _ rfl _ _ _ rfl 0 35 j0 _ 1 24 Tryz.underlying25 hj hz0 hz1 hz2 rfl (by omega) (.slice adp q capp) q _ (by rfl) (HNP.out.alloc _) ⟨w1.heap.size, 0, none⟩ 1 1 [.slice adx lenx capx] (by rfl) (by rfl) (World.news_of_block (cs := #[.slice adx lenx capx]) (t := 35) (fr := (0, 0)) (heap_alloc_new w1 _)) (by simp [Value.oneCell']) (by omega) (by unfold maxLen; omega) (by omega) (by simp) (w1.heap.size + 1) (by simp) ?_; intro gg capn w1 hown1 hgrow hat hlt1; obtain ⟨f', hP1, hP2, hP3⟩ := HP.out w1 gg capn hown1 hgrow hat; have HPP := Lib.hid hP1))
    all_goals (
      go_roundw
      case rel => exact ⟨q + 1, ys ++ [zs], f', by omega, by go_num, HPP.out, ⟨by simp [HYS.out.1], fun y hy => by
        rcases List.mem_append.1 hy with hy | hy
        · exact HYS.out.2 y hy
        · rw [List.mem_singleton.1 hy]; exact HNR.out⟩, hP2, hP3⟩
      case measure => simp [intOf]; omega)
end Go.Proofs.YtbcjhpgkodeoeaaGreatDoor

/- A slice copied. Conditions: none. -/
namespace Go.Proofs.YtbcjhpgkodeoeaaGreatDoor
open Go.RowKit

theorem rdI_news {w : World} {b off n cap : Nat} {xs : List Int} (h : RdI w (.slice (some ⟨b, off, none⟩) n cap) xs) : ∀ (j : Nat) u, (xs.map (Value.int .i64))[j]? = some u → w.cell? ((⟨b, off, none⟩ : Addr).add j) = some u := by
  intro j u hu
  obtain ⟨ad', len', cap', he, hl, _, _, _⟩ := rdS_open h
  injection he with e1 e2 e3
  subst e2
  rw [List.getElem?_map] at hu
  cases hx : xs[j]? with
  | none => rw [hx] at hu; simp at hu
  | some x =>
    rw [hx] at hu
    simp only [Option.map_some, Option.some.injEq] at hu
    have hj : j < n := by rw [← hl]; exact (List.getElem?_eq_some_iff.1 hx).1
    obtain ⟨b', off', x', hb, hx', hc, _, _⟩ := rdI_get h hj
    simp only [Option.some.injEq, Addr.mk.injEq] at hb
    obtain ⟨rfl, rfl, _⟩ := hb
    rw [hx] at hx'
    obtain rfl := Option.some.inj hx'
    have hadd : (⟨b, off, none⟩ : Addr).add j = ⟨b, off + j, none⟩ := by unfold Addr.add; split <;> simp_all
    rw [hadd, hc, hu]

/-- A copy of a slice by an append to an empty one. -/
theorem clone_own {e n : Nat} {W w2 : World} {y : List Int} {gg capn : Nat} (hown : w2.ownsRow 0 e 1 (.slice (some ⟨gg, 0, none⟩) (0 + n) capn) (0 + n) ([] ++ y.map (Value.int .i64))) (hg : (W.alloc (.cells #[] e)).grownBy w2 (some W.heap.size))
    (hat : some W.heap.size = some gg ∨ gg = W.heap.size + 1) (hn : y.length = n) (hI : ∀ x ∈ y, I64 x) : OwnI e w2 (.slice (some ⟨gg, 0, none⟩) n capn) y [gg] ∧ W.heap.size ≤ gg ∧ Below W.heap.size W w2 := by
  rw [Nat.zero_add, List.nil_append] at hown
  have hb1 : Below W.heap.size W (W.alloc (.cells #[] e)) := (Below.refl _ _).alloc (Nat.le_refl _) _
  refine ⟨⟨by rw [hn]; exact hown, rfl, hI⟩, ?_, hb1.grown hg hb1.size (fun k hk => by simp at hk; omega)⟩
  rcases hat with h | h
  · simp at h; omega
  · omega
end Go.Proofs.YtbcjhpgkodeoeaaGreatDoor

/- Appending a readable row of numbers, perhaps empty, to one of the call's own. Conditions: short rows. -/
namespace Go.Proofs.YtbcjhpgkodeoeaaGreatDoor
open Go.RowKit

/-- A row that can be appended. -/
def SrcI (w : World) (x : Value) (ys : List Int) : Prop := RdI w x ys ∧ (x = .slice none 0 0 ∨ ∃ b off m c, x = .slice (some ⟨b, off, none⟩) m c)
theorem srcI_own {e : Nat} {w : World} {x : Value} {ys : List Int} {f : List Nat} (h : OwnI e w x ys f) : SrcI w x ys := by
  refine ⟨ownI_rd h, ?_⟩
  obtain ⟨_, ⟨rfl, _⟩ | ⟨g, cap, cur, rfl, _⟩⟩ := h.1
  · exact .inl rfl
  · exact .inr ⟨g, 0, _, cap, rfl⟩
theorem srcI_below {w w' : World} {x : Value} {ys : List Int} (h : SrcI w x ys) (hb : Below w.heap.size w w') : SrcI w' x ys := ⟨rdI_mono hb h.1, h.2⟩
theorem append_I {P : Program} {w : World} (t ty e : TypeId) (i : TypeInfo) (ht : P.underlying t = some (.slice e)) (hi : P.info? e = some i) (hz : i.zero = some (.int .i64 0)) (hsize : i.size = 1) (hby : i.bytes = 8)
    {v x : Value} {xs ys : List Int} {f : List Nat} (hv : OwnI e w v xs f) (hx : SrcI w x ys) (hn : xs.length + ys.length ≤ 1000000) :
    ∃ v' w' f', (Builtin.append_ #[t, t] ty #[v, x]).run P w = .ok v' w' ∧ OwnI e w' v' (xs ++ ys) f' ∧ (∀ b ∈ f', b ∈ f ∨ w.heap.size ≤ b) ∧ Only f w w' := by
  have hyI := i64_all hx.1
  have hfe := hv.2.1
  rcases hx.2 with rfl | ⟨b, off, m, c, rfl⟩
  · obtain ⟨_, _, he, _, _, _⟩ := hx.1
    injection he with e1 e2 e3
    obtain rfl := List.eq_nil_of_length_eq_zero e2.symm
    exact ⟨v, w, f, run_append_owned_none (P := P) (w := w) 0 t ty e i 1 ht hi v xs.length _ hv.1, by simpa using hv, fun b hb => .inl hb, Only.refl _ _⟩
  · obtain ⟨_, _, _, he, hl, _, _, _⟩ := rdS_open hx.1
    injection he with e1 e2 e3
    subst e2
    obtain ⟨v', w', hr, h2, h3, _, h5⟩ := run_append_own_at (P := P) w 0 t ty e i (.int .i64 0) 1 8 ht hi hz hsize hby rfl (by omega) v xs.length _ hv.1 ⟨b, off, none⟩ m c (ys.map (Value.int .i64)) (by rw [List.length_map, hl, Nat.mul_one]) (rdI_news hx.1) (by intro u hu; simp only [List.mem_map] at hu; obtain ⟨z, _, rfl⟩ := hu; rfl)
      (by unfold maxLen; omega) (by omega) (Nat.zero_le _)
    refine ⟨v', w', v'.ownBlock.toList, hr, ⟨by simpa [hl] using h2, rfl, fun z hz => ?_⟩, fun b hb => ?_, ?_⟩
    · rcases List.mem_append.1 hz with hz | hz
      · exact hv.2.2 z hz
      · exact hyI z hz
    · rw [Option.mem_toList] at hb
      rcases h5 with h5 | h5
      · left; rw [hfe, ← h5, hb]; simp
      · right; rw [h5] at hb; simp at hb; omega
    · rw [hfe]
      exact ⟨h3.os, h3.tape, h3.output, h3.size, fun k hk hn => h3.block k hk (fun e => hn (by rw [← e]; simp))⟩
/-- One step of a region that draws. -/
theorem step_append_I {P : Program} (w : World) {ops : Array Oper} {o : Oper} {a : Act} {K : Act → World → Prop} {Q : Exit → Act → World → Prop} {E : Prop} (hgd : o.guard = none) (s x : Operand) (t e : TypeId) (ho : o.op = .call { callee := .builtin .append, args := #[s, x], argTypes := #[t, t] })
    (i : TypeInfo) (ht : P.underlying t = some (.slice e)) (hi : P.info? e = some i) (hz : i.zero = some (.int .i64 0)) (hsize : i.size = 1) (hby : i.bytes = 8)
    {v vx : Value} {xs ys : List Int} {f : List Nat} (hs : a.eval s = v) (hxx : a.eval x = vx) (hv : OwnI e w v xs f) (hx : SrcI w vx ys) (hn : xs.length + ys.length ≤ 1000000)
    (h : ∀ v' w' f', OwnI e w' v' (xs ++ ys) f' → (∀ b ∈ f', b ∈ f ∨ w.heap.size ≤ b) → Only f w w' → K (a.put o.dst v') w') :
    if Region.wanted o (yielded ops a.tmps) = true then Oper.wp P o a w K Q else E := by
  have hw : Region.wanted o (yielded ops a.tmps) = true := by simp [Region.wanted, hgd]
  rw [if_pos hw]
  obtain ⟨v', w', f', hr, h2, h3, h4⟩ := append_I (P := P) (w := w) t o.type e i ht hi hz hsize hby hv hx hn
  exact Lib.wp_append_run w s x t t ho _ _ hs hxx _ _ hr (h v' w' f' h2 h3 h4)
theorem wpList_append_I {P : Program} (w : World) {ops : Array Oper} {rest : List Oper} {o : Oper} {a : Act} {Q : Exit → Act → World → Prop} (hgd : o.guard = none) (s x : Operand) (t e : TypeId) (ho : o.op = .call { callee := .builtin .append, args := #[s, x], argTypes := #[t, t] })
    (i : TypeInfo) (ht : P.underlying t = some (.slice e)) (hi : P.info? e = some i) (hz : i.zero = some (.int .i64 0)) (hsize : i.size = 1) (hby : i.bytes = 8)
    {v vx : Value} {xs ys : List Int} {f : List Nat} (hs : a.eval s = v) (hxx : a.eval x = vx) (hv : OwnI e w v xs f) (hx : SrcI w vx ys) (hn : xs.length + ys.length ≤ 1000000)
    (h : ∀ v' w' f', OwnI e w' v' (xs ++ ys) f' → (∀ b ∈ f', b ∈ f ∨ w.heap.size ≤ b) → Only f w w' → wpList P ops Q rest (a.put o.dst v') w') : wpList P ops Q (o :: rest) a w := by
  obtain ⟨v', w', f', hr, h2, h3, h4⟩ := append_I (P := P) (w := w) t o.type e i ht hi hz hsize hby hv hx hn
  exact Lib.wpList_append_run w hgd s x t t ho _ _ hs hxx _ _ hr (h v' w' f' h2 h3 h4)
end Go.Proofs.YtbcjhpgkodeoeaaGreatDoor

/- Tableaus: readings, what is owned, and the laws' copying, comparing, marking. Conditions: none. -/
namespace Go.Proofs.YtbcjhpgkodeoeaaGreatDoor
open Go.RowKit Go.Sort

/-- A tableau. -/
structure TabZ where
  stages : Int
  A : List Int
  B : List Int
deriving Inhabited
def RdTab (w : World) (v : Value) (t : TabZ) : Prop := ∃ vA vB, v = .agg #[.int .i64 t.stages, vA, vB] ∧ I64 t.stages ∧ RdI w vA t.A ∧ RdI w vB t.B
theorem rdTab_mono {w w' : World} {v : Value} {t : TabZ} (hb : Below w.heap.size w w') (h : RdTab w v t) : RdTab w' v t := by
  obtain ⟨vA, vB, rfl, hI, hA, hB⟩ := h
  exact ⟨vA, vB, rfl, hI, rdI_mono hb hA, rdI_mono hb hB⟩
theorem rdI_slice {w : World} {v : Value} {xs : List Int} (h : RdI w v xs) : ∃ ad len cap, v = .slice ad len cap := by
  obtain ⟨ad, len, cap, rfl, _⟩ := rdS_open h
  exact ⟨_, _, _, rfl⟩

end Go.Proofs.YtbcjhpgkodeoeaaGreatDoor

/- A tableau that is being made: its box, and its rows so far. Conditions: none. -/
namespace Go.Proofs.YtbcjhpgkodeoeaaGreatDoor
open Go.RowKit

structure TBox (e N : Nat) (w : World) (Bt : Nat) (st : Int) (vA vB : Value) (A B : List Int) (fA fB : List Nat) : Prop where
  ownA : OwnI e w vA A fA
  ownB : OwnI e w vB B fB
  newA : ∀ b ∈ fA, N ≤ b ∧ b ≠ Bt
  newB : ∀ b ∈ fB, N ≤ b ∧ b ≠ Bt
  dis : ∀ b ∈ fA, b ∉ fB
  hB : N ≤ Bt
  c0 : w.cell? ⟨Bt, 0, none⟩ = some (.int .i64 st)
  c1 : w.cell? ⟨Bt, 1, none⟩ = some vA
  c2 : w.cell? ⟨Bt, 2, none⟩ = some vB
  f1 : w.frozen? ⟨Bt, 1, none⟩ = false
  f2 : w.frozen? ⟨Bt, 2, none⟩ = false
  f0 : w.frozen? ⟨Bt, 0, none⟩ = false
theorem TBox.only {e N : Nat} {w w' : World} {Bt : Nat} {st : Int} {vA vB : Value} {A B : List Int} {fA fB fp : List Nat} (h : TBox e N w Bt st vA vB A B fA fB) (ho : Only fp w w') (hf : ∀ b ∈ fp, b < N) : TBox e N w' Bt st vA vB A B fA fB := by
  have hb : Bt ∉ fp := fun hm => by have := hf _ hm; have := h.hB; omega
  have hl : Bt < w.heap.size := World.block_lt_of_cell? _ _ h.c0
  have fr : ∀ c, w'.frozen? ⟨Bt, c, none⟩ = w.frozen? ⟨Bt, c, none⟩ := fun c => World.frozen?_of_block (ho.block _ hl hb)
  exact ⟨ownI_only h.ownA ho (fun b hb hm => by have := (h.newA b hb).1; have := hf b hm; omega), ownI_only h.ownB ho (fun b hb hm => by have := (h.newB b hb).1; have := hf b hm; omega), h.newA, h.newB, h.dis, h.hB, cell_only ho hb h.c0, cell_only ho hb h.c1, cell_only ho hb h.c2, (fr 1).trans h.f1, (fr 2).trans h.f2, (fr 0).trans h.f0⟩
theorem TBox.bel {e N : Nat} {w w' : World} {Bt : Nat} {st : Int} {vA vB : Value} {A B : List Int} {fA fB : List Nat} (h : TBox e N w Bt st vA vB A B fA fB) (hb : Below w.heap.size w w') : TBox e N w' Bt st vA vB A B fA fB := h.only (fp := []) (Only.of_below hb) (by simp)
theorem tbox_lt {e N : Nat} {w : World} {Bt : Nat} {st : Int} {vA vB : Value} {A B : List Int} {fA fB : List Nat} (h : TBox e N w Bt st vA vB A B fA fB) : Bt < w.heap.size := World.block_lt_of_cell? _ _ h.c0
/-- The first row has grown, and is stored. -/
theorem TBox.putA {e N : Nat} {w w2 : World} {Bt : Nat} {st : Int} {vA vB v' : Value} {A B A' : List Int} {fA fB f' : List Nat} (h : TBox e N w Bt st vA vB A B fA fB) (ho : Only fA w w2) (hv : OwnI e w2 v' A' f') (hf : ∀ b ∈ f', b ∈ fA ∨ w.heap.size ≤ b) (hN : N ≤ w.heap.size) :
    (w2.cell? ⟨Bt, 1, none⟩ = some vA ∧ w2.frozen? ⟨Bt, 1, none⟩ = false) ∧ TBox e N (w2.setCell ⟨Bt, 1, none⟩ v') Bt st v' vB A' B f' fB ∧ Only (Bt :: fA) w (w2.setCell ⟨Bt, 1, none⟩ v') := by
  have hb : Bt ∉ fA := fun hm => (h.newA _ hm).2 rfl
  have hl := tbox_lt h
  have fr : ∀ c, w2.frozen? ⟨Bt, c, none⟩ = w.frozen? ⟨Bt, c, none⟩ := fun c => World.frozen?_of_block (ho.block _ hl hb)
  have hS : Only [Bt] w2 (w2.setCell ⟨Bt, 1, none⟩ v') := (Only.refl _ _).setCell (by simp) _
  have c1 := cell_only ho hb h.c1
  have hltB := ownI_lt h.ownB
  have hne : ∀ b ∈ f', b ≠ Bt := fun b hb e => by
    rcases hf b hb with h1 | h1
    · exact (h.newA b h1).2 e
    · omega
  refine ⟨⟨c1, (fr 1).trans h.f1⟩, ⟨ownI_only hv hS (fun b hb hm => hne b hb (List.mem_singleton.1 hm)), ownI_only (ownI_only h.ownB ho (fun b hb hm => h.dis b hm hb)) hS (fun b hb hm => (h.newB b hb).2 (List.mem_singleton.1 hm)), fun b hb => ⟨?_, hne b hb⟩, h.newB, fun b hb hm => ?_, h.hB, ?_, World.cell?_setCell_same _ _ _ c1, ?_, ?_, ?_, ?_⟩, ?_⟩
  · rcases hf b hb with h1 | h1
    · exact (h.newA b h1).1
    · omega
  · rcases hf b hb with h1 | h1
    · exact h.dis b h1 hm
    · have := hltB b hm; omega
  · exact (World.cell?_setCell_other _ _ _ _ (by simp)).trans (cell_only ho hb h.c0)
  · exact (World.cell?_setCell_other _ _ _ _ (by simp)).trans (cell_only ho hb h.c2)
  · rw [World.frozen?_setCell]; exact (fr 1).trans h.f1
  · rw [World.frozen?_setCell]; exact (fr 2).trans h.f2
  · rw [World.frozen?_setCell]; exact (fr 0).trans h.f0
  · exact (ho.mono (by intro b hb; simp [hb])).trans (hS.mono (by intro b hb; simp at hb; simp [hb]))
theorem TBox.new {e N : Nat} {w : World} {t : Nat} {st : Int} (hN : N ≤ w.heap.size) : TBox e N (w.alloc (.cells #[.int .i64 st, .slice none 0 0, .slice none 0 0] t)) w.heap.size st (.slice none 0 0) (.slice none 0 0) [] [] [] [] :=
  ⟨⟨World.ownsRow_nil _ _ _ _, rfl, by simp⟩, ⟨World.ownsRow_nil _ _ _ _, rfl, by simp⟩, by simp, by simp, by simp, hN, by simp, by simp, by simp, by simp, by simp, by simp⟩
/-- A literal of one number, to be appended. -/
theorem below_lit1 (w : World) (e : Nat) (x : Int) : Below w.heap.size w (w.alloc (.cells #[.int .i64 x] e)) := (Below.refl _ _).alloc (Nat.le_refl _) _
theorem src_lit {e : Nat} (w : World) (y : Int) (hy : I64 y) : SrcI (w.alloc (.cells #[.int .i64 y] e)) (.slice (some ⟨w.heap.size, 0, none⟩) 1 1) [y] :=
  srcI_own (e := e) (f := [w.heap.size]) ⟨⟨by simp, .inr ⟨w.heap.size, 1, #[.int .i64 y], rfl, Nat.zero_le _, heap_alloc_new w _, Nat.le_refl _, by unfold maxLen; omega, by simp, by simp⟩⟩, rfl, by simpa using hy⟩
/-- A row that grows in several steps: what is known of it since wk. -/
structure Chn (e : Nat) (wk : World) (fA : List Nat) (wc : World) (vc : Value) (Ac : List Int) (fc : List Nat) : Prop where
  own : OwnI e wc vc Ac fc
  only : Only fA wk wc
  sub : ∀ b ∈ fc, b ∈ fA ∨ wk.heap.size ≤ b
theorem Chn.start {e : Nat} {wk : World} {v : Value} {A : List Int} {fA : List Nat} (h : OwnI e wk v A fA) : Chn e wk fA wk v A fA := ⟨h, Only.refl _ _, fun b hb => .inl hb⟩
theorem Chn.bel {e : Nat} {wk wc wd : World} {fA fc : List Nat} {vc : Value} {Ac : List Int} (h : Chn e wk fA wc vc Ac fc) (hb : Below wc.heap.size wc wd) : Chn e wk fA wd vc Ac fc :=
  ⟨ownI_only h.own (Only.of_below (fp := []) hb) (by simp), h.only.trans (Only.of_below hb), h.sub⟩
theorem Only.grow {f f' : List Nat} {a b c : World} (h : Only f a b) (k : Only f' b c) (hf : ∀ x ∈ f', x ∈ f ∨ a.heap.size ≤ x) : Only f a c :=
  ⟨k.os.trans h.os, k.tape.trans h.tape, k.output.trans h.output, Nat.le_trans h.size k.size, fun x hx hn => (k.block x (Nat.lt_of_lt_of_le hx h.size) (fun hm => by
    rcases hf x hm with h1 | h1
    · exact hn h1
    · omega)).trans (h.block x hx hn)⟩
theorem Chn.below {e : Nat} {W wk wc : World} {fA fc : List Nat} {vc : Value} {Ac : List Int} (h : Chn e wk fA wc vc Ac fc) (hb : Below W.heap.size W wk) (hf : ∀ b ∈ fA, W.heap.size ≤ b) : Below W.heap.size W wc := below_newer hb h.only hf
end Go.Proofs.YtbcjhpgkodeoeaaGreatDoor
