/- Drawn paths. Conditions: a cursor. -/
import Derived.Test.YtbcjhpgkodeoeaaGreatDoorG03
set_option linter.unusedSimpArgs false
set_option linter.unusedVariables false

namespace Go.Proofs.YtbcjhpgkodeoeaaGreatDoor
open Go.RowKit Go.Sort

/-- An append in a world that is drawn from: what is new stays new, the cursor stays. -/
theorem drawn_push {α : Type} {e size : Nat} {El : World → List Value → α → List Nat → Prop} (hE : ∀ w w' u x f g, El w u x f → Only g w w' → (∀ b ∈ f, b ∉ g) → El w' u x f)
    {g : Nat} {w wk w1 w2 : World} {v v' : Value} {xs : List α} {x : α} {us : List (List Value)} {u : List Value} {fs f : List Nat} {n : Nat}
    (hgl : g < w.heap.size) (hd : Drawn g w wk) (hone : ∀ u ∈ us, u.length = size) (hels : OwnEls El wk us xs fs) (hnd : (v.ownBlock.toList ++ fs).Nodup) (hx : El wk u x f) (hul : u.length = size)
    (hdis : ∀ b ∈ f, b ∉ v.ownBlock.toList ++ fs) (hfn : f.Nodup) (hfl : ∀ b ∈ f, b < wk.heap.size) (hsl : ∀ b ∈ fs, b < wk.heap.size) (hn : xs.length = n)
    (hgo : ∀ b ∈ v.ownBlock.toList ++ fs, w.heap.size ≤ b) (hgf : ∀ b ∈ f, w.heap.size ≤ b)
    (h1 : Below wk.heap.size wk w1) (hown : w2.ownsRow 0 e size v' (n + 1) (us.flatten ++ u)) (hg : w1.grownBy w2 v.ownBlock) (hv : ∀ b, v'.ownBlock = some b → v.ownBlock = some b ∨ w1.heap.size ≤ b) :
    ∃ fp', OwnS e size El w2 v' (xs ++ [x]) fp' ∧ (∀ b ∈ fp', w.heap.size ≤ b) ∧ Drawn g w w2 := by
  obtain ⟨fp', a1, a2, a3⟩ := ownS_push2 hE hone hels hnd hx hul hdis hfn hfl hsl hn h1 hown hg hv
  have hs := hd.only.size
  have h1s := h1.size
  have hgv : ∀ b ∈ v.ownBlock.toList, w.heap.size ≤ b := fun b hb => hgo b (by simp only [List.mem_append]; exact .inl hb)
  refine ⟨fp', a1, fun b hb => ?_, Only.newer hd.only a3 hgv, hd.cur.only a3 (fun hm => by have := hgv g hm; omega) (fun b hb => by have := hgv b hb; omega)⟩
  rcases a2 b hb with h | h | h
  · exact hgo b h
  · exact hgf b h
  · omega

/-- n rows of d numbers each. -/
def PathRow (d n : Nat) (xs : List (List Int)) : Prop := xs.length = n ∧ ∀ x ∈ xs, NumRow d x
def DrawsPath (g d n : Nat) (w : World) : Ending → World → Prop := fun e w' => ∃ (v : Value) (xs : List (List Int)) (fp : List Nat), e = .returned v ∧ OwnII 35 3 w' v xs fp ∧ PathRow d n xs ∧ (∀ b ∈ fp, w.heap.size ≤ b) ∧ Drawn g w w'
set_option maxRecDepth 100000 in
set_option maxHeartbeats 3200000 in
theorem path_any (g d n : Nat) (dz nz : Int) (hdz : dz = d) (hnz : nz = n) (hd : d ≤ 1000) (hn : n ≤ 1000) (w : World) (hc : Cur w g) : Calls Tryz.prog 43 #[.pointer (some ⟨g, 0, none⟩), .int .i64 dz, .int .i64 nz] w (DrawsPath g d n w) := by
  obtain ⟨j0, hj, hz0, hz1, hz2⟩ := info_parts Tryz.info_ints
  have hgl := hc.lt
  have hal0 : Below w.heap.size w (w.alloc (.cells #[] 35)) := (Below.refl _ _).alloc (Nat.le_refl _) _
  have hi0 := Lib.hid (show OwnII 35 3 (w.alloc (.cells #[] 35)) (.slice (some ⟨w.heap.size, 0, none⟩) 0 0) [] [w.heap.size] from ⟨[], [], by simpa using World.ownsRow_lit (base := 0) (e := 35) (size := 1) w #[] 0 (Nat.zero_le _) (Nat.zero_le _) rfl, by simp, rfl, rfl, by simp⟩)
  have HD0 := Lib.hid ((Drawn.refl hc).below hal0)
  have HNZ := Lib.hid hnz
  have HDZ := Lib.hid hdz
  clear hal0 hnz hdz
  go_enter Tryz.func43, Tryz.ntmps43
  go_wp2
  go_loopw [7, 8] (fun p j wq => ∃ (q : Nat) (ys : List (List Int)) (f : List Nat), q ≤ n ∧ j = .int .i64 q ∧ OwnII 35 3 wq p ys f ∧ PathRow d q ys ∧ (∀ b ∈ f, w.heap.size ≤ b) ∧ Drawn g w wq) (fun _ j _ => n - (intOf j).toNat)
  case atStart => exact ⟨0, [], [w.heap.size], Nat.zero_le _, rfl, hi0.out, ⟨rfl, by simp⟩, by simp, HD0.out⟩
  case round =>
    obtain ⟨q, ys, f, hq, rfl, hp, hys, hf, hd⟩ := hrel
    clear hi0
    by_cases hql : q < n
    case neg =>
      obtain rfl : q = n := by omega
      have : ¬ ((q : Int) < nz) := by rw [HNZ.out]; omega
      go_wp2
      go_ret
      exact ⟨_, ys, f, rfl, hp, hys, hf, hd⟩
    have hqI : (q : Int) < nz := by rw [HNZ.out]; omega
    go_wp2_with fail
    refine (nums_any g d dz HDZ.out (by assumption) wr hd.cur).mono ?_
    rintro e w1 ⟨x, zs, fx, rfl, hox, hnr, hfx, hd1⟩
    have hgf : ∀ b ∈ f, b ∉ [g] := fun b hb => by have := hf b hb; simp; omega
    have hws := hd.only.size
    have hlt := ownII_lt hp
    have hp1 : OwnII 35 3 w1 _ ys f := ownII_only hp hd1.only hgf
    obtain ⟨us, fs, hown, hone, hels, rfl, hnd⟩ := hp1
    have hown2 := hown
    rw [hys.1] at hown2
    obtain ⟨adp, capp, rfl, hlpc, hcpm, _⟩ := row_open hown2
    obtain ⟨adx, lenx, capx, rfl, _, _, _, _, _, _⟩ := ownI_open hox
    have hal : Below w1.heap.size w1 (w1.alloc (.cells #[.slice adx lenx capx] 35)) := (Below.refl _ _).alloc (Nat.le_refl _) _
    have HP := Lib.hid (fun (w2 : World) (gg capn : Nat) (hown1 : w2.ownsRow 0 35 1 (.slice (some ⟨gg, 0, none⟩) (q + 1) capn) (q + 1) (us.flatten ++ [.slice adx lenx capx]))
        (hgrow : (w1.alloc (.cells #[.slice adx lenx capx] 35)).grownBy w2 (Value.slice adp q capp).ownBlock) (hat : (Value.slice adp q capp).ownBlock = some gg ∨ gg = w1.heap.size + 1) =>
      drawn_push (El := OElII 3) (fun _ _ _ _ _ _ h ho hd => oelII_only h ho hd) hgl (hd.trans hd1) hone hels hnd (u := [.slice adx lenx capx]) ⟨_, rfl, hox⟩ rfl
        (fun b hb hm => by have := hfx b hb; have := hlt b hm; omega) (ownI_nodup hox) (ownI_lt hox) (fun b hb => by have := hlt b (by simp [hb]); have := hd1.only.size; omega) hys.1 hf (fun b hb => by have := hfx b hb; omega)
        hal hown1 hgrow (fun b hb => by
          simp [Value.ownBlock] at hb
          subst hb
          rcases hat with hat | hat
          · left; exact hat
          · right; rw [hat]; simp))
    have HNP := Lib.hid hown2
    have HYS := Lib.hid hys
    have HNR := Lib.hid hnr
    clear hown hown2 hels hone hnd hp hox hal hys hnr
    go_wp2_with (first | (at_builtin; refine wpList_append_lies _ rfl _ _ _ rfl 0 35 j0 _ 1 24 Tryz.underlying25 hj hz0 hz1 hz2 rfl (by omega) (.slice adp q capp) q _ (by rfl) (HNP.out.alloc _) ⟨w1.heap.size, 0, none⟩ 1 1 [.slice adx lenx capx] (by rfl) (by rfl) (World.news_of_block (cs := #[.slice adx lenx capx]) (t := 35) (fr := (0, 0)) (heap_alloc_new w1 _)) (by simp [Value.oneCell']) (by omega) (by unfold maxLen; omega) (by omega) (by simp) (w1.heap.size + 1) (by simp) ?_; intro gg capn w1 hown1 hgrow hat hlt1; obtain ⟨f', hP1, hP2, hP3⟩ := HP.out w1 gg capn hown1 hgrow hat; have HPP := Lib.hid hP1))
    all_goals (
      go_roundw
      case rel => exact ⟨q + 1, ys ++ [zs], f', by omega, by go_num, HPP.out, ⟨by simp [HYS.out.1], fun y hy => by
        rcases List.mem_append.1 hy with hy | hy
        · exact HYS.out.2 y hy
        · rw [List.mem_singleton.1 hy]; exact HNR.out⟩, hP2, hP3⟩
      case measure => simp [intOf]; omega)
end Go.Proofs.YtbcjhpgkodeoeaaGreatDoor
