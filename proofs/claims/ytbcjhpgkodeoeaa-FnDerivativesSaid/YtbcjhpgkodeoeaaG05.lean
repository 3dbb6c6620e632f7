/- The texts Push, DrwN, Cpy in one: each says at its head what it proves. Conditions: as said there. -/
import Derived.Deep.AppendLies
import Derived.Test.YtbcjhpgkodeoeaaG03
import Derived.Test.YtbcjhpgkodeoeaaG04
import Derived.Test.YtbcjhpgkodeoeaaG01
set_option linter.unusedSimpArgs false
set_option linter.unusedVariables false
/- Appending one element to a row of the call's own: what it leaves. Conditions: none. -/
namespace Go.Proofs.Ytbcjhpgkodeoeaa
open Go.RowKit Go.Sort

theorem at_block {ad : Option Addr} {n cap gg c2 n2 : Nat} {w0 : World} {o : Obj} (hat : (Value.slice ad n cap).ownBlock = some gg ∨ gg = w0.heap.size + 1) :
    ∀ b, (Value.slice (some ⟨gg, 0, none⟩) n2 c2).ownBlock = some b → (Value.slice ad n cap).ownBlock = some b ∨ (w0.alloc o).heap.size ≤ b := fun b hb => by
  simp [Value.ownBlock] at hb
  subst hb
  rcases hat with hat | hat
  · left; exact hat
  · right; rw [hat]; simp
/-- One number more. -/
theorem ownI_push3 {e : Nat} {w0 w2 : World} {ad : Option Addr} {n cap gg capn : Nat} {f : List Nat} {xs : List Int} {y : Int} (h : OwnI e w0 (.slice ad n cap) xs f) (hn : xs.length = n) (hy : I64 y)
    (hown : w2.ownsRow 0 e 1 (.slice (some ⟨gg, 0, none⟩) (n + 1) capn) (n + 1) (xs.map (Value.int .i64) ++ [.int .i64 y])) (hg : (w0.alloc (.cells #[.int .i64 y] e)).grownBy w2 (Value.slice ad n cap).ownBlock) (hat : (Value.slice ad n cap).ownBlock = some gg ∨ gg = w0.heap.size + 1) :
    ∃ f', OwnI e w2 (.slice (some ⟨gg, 0, none⟩) (n + 1) capn) (xs ++ [y]) f' ∧ (∀ b ∈ f', b ∈ f ∨ w0.heap.size ≤ b) ∧ Only f w0 w2 := by
  subst hn
  have hal : Below w0.heap.size w0 (w0.alloc (.cells #[.int .i64 y] e)) := (Below.refl _ _).alloc (Nat.le_refl _) _
  have hfe : f = (Value.slice ad xs.length cap).ownBlock.toList := h.2.1
  refine ⟨[gg], ⟨by simpa using hown, rfl, fun x hx => ?_⟩, fun b hb => ?_, ?_⟩
  · simp at hx
    rcases hx with hx | rfl
    · exact h.2.2 x hx
    · exact hy
  · simp at hb
    subst hb
    rcases hat with hat | hat
    · left; rw [hfe, hat]; simp
    · right; omega
  · rw [hfe]
    exact (Only.of_below hal).trans ⟨hg.os, hg.tape, hg.output, hg.size, fun k hk hn => hg.block k hk (fun e => hn (by rw [← e]; simp))⟩
/-- The same behind an alloc and draws. -/
theorem ownI_push6 {e : Nat} {w0 w1 w2 : World} {ad : Option Addr} {n cap gg capn : Nat} {f : List Nat} {xs : List Int} {y : Int} (h : OwnI e w0 (.slice ad n cap) xs f) (hn : xs.length = n) (hy : I64 y) (h1 : Below w0.heap.size w0 w1) (hs : w1.heap.size = w0.heap.size + 1)
    (hown : w2.ownsRow 0 e 1 (.slice (some ⟨gg, 0, none⟩) (n + 1) capn) (n + 1) (xs.map (Value.int .i64) ++ [.int .i64 y])) (hg : w1.grownBy w2 (Value.slice ad n cap).ownBlock) (hat : (Value.slice ad n cap).ownBlock = some gg ∨ gg = w0.heap.size + 1) :
    ∃ f', OwnI e w2 (.slice (some ⟨gg, 0, none⟩) (n + 1) capn) (xs ++ [y]) f' ∧ (∀ b ∈ f', b ∈ f ∨ w0.heap.size ≤ b) ∧ Only f w0 w2 := by
  subst hn
  have hfe : f = (Value.slice ad xs.length cap).ownBlock.toList := h.2.1
  refine ⟨[gg], ⟨by simpa using hown, rfl, fun x hx => ?_⟩, fun b hb => ?_, ?_⟩
  · simp at hx
    rcases hx with hx | rfl
    · exact h.2.2 x hx
    · exact hy
  · simp at hb
    subst hb
    rcases hat with hat | hat
    · left; rw [hfe, hat]; simp
    · right; omega
  · rw [hfe]
    exact (Only.of_below h1).trans ⟨hg.os, hg.tape, hg.output, hg.size, fun k hk hn => hg.block k hk (fun e => hn (by rw [← e]; simp))⟩
/-- One row more. -/
theorem ownII_push3 {e1 e : Nat} {w0 : World} {v : Value} {n : Nat} {xs : List (List Int)} {fo : List Nat} (h : OwnII e1 e w0 v xs fo) (hn : xs.length = n) :
    ∃ ad cap us, v = .slice ad n cap ∧ n ≤ cap ∧ cap ≤ 9223372036854775807 ∧ w0.ownsRow 0 e1 1 (.slice ad n cap) n us ∧ ∀ (p : Value) (ys : List Int) (f : List Nat) (w2 : World) (gg capn : Nat), OwnI e w0 p ys f → (∀ b ∈ f, b ∉ fo) →
      w2.ownsRow 0 e1 1 (.slice (some ⟨gg, 0, none⟩) (n + 1) capn) (n + 1) (us ++ [p]) → (w0.alloc (.cells #[p] e1)).grownBy w2 (Value.slice ad n cap).ownBlock → ((Value.slice ad n cap).ownBlock = some gg ∨ gg = w0.heap.size + 1) →
      ∃ f', OwnII e1 e w2 (.slice (some ⟨gg, 0, none⟩) (n + 1) capn) (xs ++ [ys]) f' ∧ (∀ b ∈ f', b ∈ fo ∨ b ∈ f ∨ w0.heap.size ≤ b) ∧ Only fo w0 w2 := by
  subst hn
  have hlt := ownII_lt h
  obtain ⟨us, fs, hown, hone, hels, rfl, hnd⟩ := h
  have hown' := hown
  obtain ⟨ad, cap, rfl, h1, h2, _⟩ := row_open hown'
  refine ⟨ad, cap, us.flatten, rfl, h1, h2, hown, fun p ys f w2 gg capn hp hdis hown2 hg hat => ?_⟩
  have hal : Below w0.heap.size w0 (w0.alloc (.cells #[p] e1)) := (Below.refl _ _).alloc (Nat.le_refl _) _
  obtain ⟨f', a1, a2, a3⟩ := ownS_push2 (El := OElII e) (fun _ _ _ _ _ _ h ho hd => oelII_only h ho hd) hone hels hnd (u := [p]) ⟨p, rfl, hp⟩ rfl hdis (ownI_nodup hp) (ownI_lt hp) (fun b hb => hlt b (by simp [hb])) rfl hal hown2 hg (at_block hat)
  refine ⟨f', a1, fun b hb => ?_, a3.mono (fun b hb => by simp only [List.mem_append]; exact .inl hb)⟩
  rcases a2 b hb with h | h | h
  · exact .inl h
  · exact .inr (.inl h)
  · right; right
    have := hal.size
    omega
/-- The same in a later world. -/
theorem ownII_push4 {e1 e : Nat} {w0 : World} {v : Value} {n : Nat} {xs : List (List Int)} {fo : List Nat} (h : OwnII e1 e w0 v xs fo) (hn : xs.length = n) :
    ∃ ad cap us, v = .slice ad n cap ∧ n ≤ cap ∧ cap ≤ 9223372036854775807 ∧ ∀ (wa : World) (fp' : List Nat), Only fp' w0 wa → (∀ b ∈ fo, b ∉ fp') → wa.ownsRow 0 e1 1 (.slice ad n cap) n us ∧ ∀ (p : Value) (ys : List Int) (f : List Nat) (w2 : World) (gg capn : Nat), OwnI e wa p ys f → (∀ b ∈ f, b ∉ fo) →
      w2.ownsRow 0 e1 1 (.slice (some ⟨gg, 0, none⟩) (n + 1) capn) (n + 1) (us ++ [p]) → (wa.alloc (.cells #[p] e1)).grownBy w2 (Value.slice ad n cap).ownBlock → ((Value.slice ad n cap).ownBlock = some gg ∨ gg = wa.heap.size + 1) →
      ∃ f', OwnII e1 e w2 (.slice (some ⟨gg, 0, none⟩) (n + 1) capn) (xs ++ [ys]) f' ∧ (∀ b ∈ f', b ∈ fo ∨ b ∈ f ∨ wa.heap.size ≤ b) ∧ Only fo wa w2 := by
  subst hn
  have hlt := ownII_lt h
  obtain ⟨us, fs, hown, hone, hels, rfl, hnd⟩ := h
  have hown' := hown
  obtain ⟨ad, cap, rfl, h1, h2, _⟩ := row_open hown'
  refine ⟨ad, cap, us.flatten, rfl, h1, h2, fun wa fp' ho hd => ?_⟩
  have howna := ownsRow_only hown ho (fun g hg => hd g (by simp [hg]))
  have helsa := ownEls_only (w' := wa) (g := fp') (fun u x f h hd => oelII_only h ho hd) hels (fun b hb => hd b (by simp [hb]))
  refine ⟨howna, fun p ys f w2 gg capn hp hdis hown2 hg hat => ?_⟩
  have hal : Below wa.heap.size wa (wa.alloc (.cells #[p] e1)) := (Below.refl _ _).alloc (Nat.le_refl _) _
  have hs := ho.size
  obtain ⟨f', a1, a2, a3⟩ := ownS_push2 (El := OElII e) (fun _ _ _ _ _ _ h ho hd => oelII_only h ho hd) hone helsa hnd (u := [p]) ⟨p, rfl, hp⟩ rfl hdis (ownI_nodup hp) (ownI_lt hp) (fun b hb => by have := hlt b (by simp [hb]); omega) rfl hal hown2 hg (at_block hat)
  refine ⟨f', a1, fun b hb => ?_, a3.mono (fun b hb => by simp only [List.mem_append]; exact .inl hb)⟩
  rcases a2 b hb with h | h | h
  · exact .inl h
  · exact .inr (.inl h)
  · right; right
    have := hal.size
    omega
/-- A copy by an append to an empty slice of the call's own. -/
theorem copy_own {e E n : Nat} {W w1 w2 : World} {xs : List Int} {gg capn : Nat} (hb : Below W.heap.size W w1) (hown : w2.ownsRow 0 e 1 (.slice (some ⟨gg, 0, none⟩) (0 + n) capn) (0 + n) ([] ++ xs.map (Value.int .i64))) (hg : w1.grownBy w2 (some E)) (hE : W.heap.size ≤ E)
    (hat : E = gg ∨ gg = w1.heap.size) (hn : xs.length = n) (hI : ∀ x ∈ xs, I64 x) : OwnI e w2 (.slice (some ⟨gg, 0, none⟩) n capn) xs [gg] ∧ W.heap.size ≤ gg ∧ Below W.heap.size W w2 := by
  rw [Nat.zero_add, List.nil_append] at hown
  have hs := hb.size
  refine ⟨⟨by rw [hn]; exact hown, rfl, hI⟩, ?_, hb.grown hg hs (fun k hk => by simp at hk; omega)⟩
  rcases hat with h | h <;> omega
theorem lit_row {w : World} {e : Nat} : (w.alloc (.cells #[] e)).ownsRow 0 e 1 (.slice (some ⟨w.heap.size, 0, none⟩) 0 0) 0 [] := by
  simpa using World.ownsRow_lit (base := 0) (e := e) (size := 1) w #[] 0 (Nat.zero_le _) (Nat.zero_le _) rfl
theorem Only.newer {fp f : List Nat} {a b c : World} (h : Only fp a b) (k : Only f b c) (hf : ∀ x ∈ f, a.heap.size ≤ x) : Only fp a c :=
  ⟨k.os.trans h.os, k.tape.trans h.tape, k.output.trans h.output, Nat.le_trans h.size k.size, fun x hx hn => (k.block x (Nat.lt_of_lt_of_le hx h.size) (fun hm => by have := hf x hm; omega)).trans (h.block x hx hn)⟩
theorem below_newer {f : List Nat} {a b c : World} (h : Below a.heap.size a b) (k : Only f b c) (hf : ∀ x ∈ f, a.heap.size ≤ x) : Below a.heap.size a c := h.trans (k.below h.size hf)
theorem own_lit {e : Nat} (w : World) : OwnI e (w.alloc (.cells #[] e)) (.slice (some ⟨w.heap.size, 0, none⟩) 0 0) [] [w.heap.size] :=
  ⟨by simpa using World.ownsRow_lit (base := 0) (e := e) (size := 1) w #[] 0 (Nat.zero_le _) (Nat.zero_le _) rfl, rfl, by simp⟩
theorem ownII_lit {e1 e : Nat} (w : World) : OwnII e1 e (w.alloc (.cells #[] e1)) (.slice (some ⟨w.heap.size, 0, none⟩) 0 0) [] [w.heap.size] :=
  ⟨[], [], by simpa using World.ownsRow_lit (base := 0) (e := e1) (size := 1) w #[] 0 (Nat.zero_le _) (Nat.zero_le _) rfl, by simp, rfl, rfl, by simp⟩
theorem below_lit (w : World) (e : Nat) : Below w.heap.size w (w.alloc (.cells #[] e)) := (Below.refl _ _).alloc (Nat.le_refl _) _
/-- A store into a row of rows of the call's own. -/
theorem ownII_set {e1 e : Nat} {w : World} {ad : Option Addr} {len cap : Nat} {xs : List (List Int)} {fp : List Nat} (h : OwnII e1 e w (.slice ad len cap) xs fp) {i : Nat} {x : List Int} (hx : xs[i]? = some x) {k : Nat} {z : Int} (hz : x[k]? = some z) :
    ∃ g b capx, ad = some ⟨g, 0, none⟩ ∧ i < len ∧ w.cell? ⟨g, i, none⟩ = some (.slice (some ⟨b, 0, none⟩) x.length capx) ∧ k < x.length ∧ w.cell? ⟨b, k, none⟩ = some (.int .i64 z) ∧ w.frozen? ⟨b, k, none⟩ = false ∧ b ∈ fp ∧
      ∀ c : Int, I64 c → OwnII e1 e (w.setCell ⟨b, k, none⟩ (.int .i64 c)) (.slice ad len cap) (xs.set i (x.set k c)) fp := by
  obtain ⟨us, fs, hown, hone, hels, hfp, hnd⟩ := h
  have hi := (List.getElem?_eq_some_iff.1 hx).1
  have hk := (List.getElem?_eq_some_iff.1 hz).1
  obtain ⟨A, u, C, f1, f, f3, rfl, hA, rfl, h1, ⟨p, rfl, hp⟩, h3⟩ := ownEls_split hels hx
  obtain ⟨ad', cap', he, _, _, hg⟩ := row_open hown
  injection he with e1' e2' e3'
  subst e1'
  obtain ⟨g, rfl⟩ := hg (by omega)
  obtain ⟨adp, lp, capp, rfl, hlp, _, _, hownp, hgp, hfe⟩ := ownI_open hp
  obtain ⟨b, rfl, rfl⟩ := hgp (by omega)
  subst hlp
  have hfl := flat_get hone (i := i) (u := [Value.slice (some ⟨b, 0, none⟩) x.length capp]) (by rw [← hA]; simp) (j := 0) rfl
  simp only [Nat.mul_one, Nat.add_zero] at hfl
  rw [hfp] at hnd
  rw [List.nodup_append, List.nodup_append] at hnd
  obtain ⟨_, ⟨hn1, hn2, hn3⟩, hn4⟩ := hnd
  rw [List.nodup_append] at hn2
  have hb1 : b ∉ f1 := fun hm => hn3 b hm b (by simp) rfl
  have hb3 : b ∉ f3 := fun hm => hn2.2.2 b (by simp) b hm rfl
  have hbg : g ≠ b := fun e => hn4 g (by simp [Value.ownBlock]) b (by simp) e
  refine ⟨g, b, capp, rfl, by omega, ?_, hk, ?_, hownp.frozenAt k, by rw [hfp]; simp, fun c hc => ?_⟩
  · rw [e2'] at hown
    rw [hown.cellAt i (by omega), hfl]
  · rw [hownp.cellAt k (by omega)]
    simp [hz]
  · have hO : Only [b] w (w.setCell ⟨b, k, none⟩ (.int .i64 c)) := (Only.refl _ _).setCell (by simp) _
    have hs := (hownp.stored k (.int .i64 c)).1
    refine ⟨A ++ [Value.slice (some ⟨b, 0, none⟩) x.length capp] :: C, f1 ++ ([b] ++ f3), ?_, hone, ?_, hfp, by rw [hfp, List.nodup_append, List.nodup_append]; exact ⟨by cases (Value.slice (some ⟨g, 0, none⟩) len cap).ownBlock <;> simp, ⟨hn1, by rw [List.nodup_append]; exact hn2, hn3⟩, hn4⟩⟩
    · rw [List.length_set]
      exact ownsRow_only hown hO (fun g' hg' hm => hbg (by simp [Value.ownBlock] at hg'; rw [hg']; exact List.mem_singleton.1 hm))
    · have hset : xs.set i (x.set k c) = xs.take i ++ x.set k c :: xs.drop (i + 1) := List.set_eq_take_append_cons_drop.trans (if_pos hi)
      rw [hset]
      have h1' : OwnEls (OElII e) (w.setCell ⟨b, k, none⟩ (.int .i64 c)) A (xs.take i) f1 := ownEls_only (fun u x f h hd => oelII_only h hO hd) h1 (fun b' hb' hm => hb1 (List.mem_singleton.1 hm ▸ hb'))
      have h3' : OwnEls (OElII e) (w.setCell ⟨b, k, none⟩ (.int .i64 c)) C (xs.drop (i + 1)) f3 := ownEls_only (fun u x f h hd => oelII_only h hO hd) h3 (fun b' hb' hm => hb3 (List.mem_singleton.1 hm ▸ hb'))
      refine ownEls_append h1' ⟨[b], f3, rfl, ⟨_, rfl, ?_, rfl, fun z' hz' => ?_⟩, h3'⟩
      · rw [List.length_set, List.map_set]; exact hs
      · rcases List.mem_or_eq_of_mem_set hz' with hz' | rfl
        · exact hp.2.2 z' hz'
        · exact hc
end Go.Proofs.Ytbcjhpgkodeoeaa

/- Drawn numbers and rows of them. Conditions: a cursor. -/
namespace Go.Proofs.Ytbcjhpgkodeoeaa
open Go.RowKit

/-- A number is drawn. -/
def DrawsNum (g : Nat) (w : World) : Ending → World → Prop := fun e w' => ∃ x : Int, e = .returned (.int .i64 x) ∧ 0 ≤ x ∧ x ≤ 1000000270 ∧ Drawn g w w'
set_option maxHeartbeats 1600000 in
theorem num_any (g : Nat) (w : World) (hc : Cur w g) : Calls Try.prog 25 #[.pointer (some ⟨g, 0, none⟩)] w (DrawsNum g w) := by
  go_enter Try.func25, Try.ntmps25
  go_wp2_with fail
  refine (below_any g 8 8 rfl (by omega) (by omega) w hc).mono ?_
  rintro e w1 ⟨x, rfl, hx, hd⟩
  by_cases h0 : x = 0
  · subst h0
    go_wp2
    go_ret
    exact ⟨0, rfl, by omega, by omega, hd⟩
  have h0I : ¬ ((x : Int) = 0) := by omega
  by_cases h1 : x = 1
  · subst h1
    go_wp2
    go_ret
    exact ⟨1, rfl, by omega, by omega, hd⟩
  have h1I : ¬ ((x : Int) = 1) := by omega
  by_cases h2 : x = 2
  · subst h2
    go_wp2_with fail
    refine (sFraction_any 1 2 w1).mono ?_
    rintro e w2 ⟨rfl, rfl⟩
    go_wp2
    go_ret
    exact ⟨_, rfl, (fracZ_bd _ _).1, (fracZ_bd _ _).2, hd⟩
  have h2I : ¬ ((x : Int) = 2) := by omega
  by_cases h3 : x = 3
  · subst h3
    go_wp2_with fail
    refine (below_any g 1000000271 1000000271 rfl (by omega) (by omega) w1 hd.cur).mono ?_
    rintro e w2 ⟨y, rfl, hy, hd2⟩
    go_wp2
    go_ret
    exact ⟨y, rfl, by omega, by omega, hd.trans hd2⟩
  have h3I : ¬ ((x : Int) = 3) := by omega
  go_wp2_with fail
  refine (below_any g 13 13 rfl (by omega) (by omega) w1 hd.cur).mono ?_
  rintro e w2 ⟨y, rfl, hy, hd2⟩
  go_wp2_with fail
  refine (below_any g 6 6 rfl (by omega) (by omega) w2 hd2.cur).mono ?_
  rintro e w3 ⟨z, rfl, hz, hd3⟩
  go_wp2_with fail
  refine (sFraction_any _ _ w3).mono ?_
  rintro e w4 ⟨rfl, rfl⟩
  go_wp2
  go_ret
  exact ⟨_, rfl, (fracZ_bd _ _).1, (fracZ_bd _ _).2, hd.trans (hd2.trans hd3)⟩

/-- Behind an append of one number: what may have changed is the row's own block. -/
theorem ownI_push2 {e : Nat} {w w1 w2 : World} {v v' : Value} {ys : List Int} {f : List Nat} {y : Int} {n : Nat} (h : OwnI e w v ys f) (hn : ys.length = n) (hy : I64 y)
    (h1 : Below w.heap.size w w1) (hown : w2.ownsRow 0 e 1 v' (n + 1) (ys.map (Value.int .i64) ++ [.int .i64 y])) (hg : w1.grownBy w2 v.ownBlock) (hv : ∀ b, v'.ownBlock = some b → v.ownBlock = some b ∨ w1.heap.size ≤ b) :
    ∃ f', OwnI e w2 v' (ys ++ [y]) f' ∧ (∀ b ∈ f', b ∈ f ∨ w1.heap.size ≤ b) ∧ Only f w w2 := by
  subst hn
  have hfe : f = v.ownBlock.toList := h.2.1
  refine ⟨v'.ownBlock.toList, ⟨by simpa using hown, rfl, ?_⟩, fun b hb => ?_, ?_⟩
  · intro x hx
    simp at hx
    rcases hx with hx | rfl
    · exact h.2.2 x hx
    · exact hy
  · rw [Option.mem_toList] at hb
    rcases hv b hb with hb | hb
    · left; rw [hfe, hb]; simp
    · right; exact hb
  · rw [hfe]
    exact (Only.of_below h1).trans ⟨hg.os, hg.tape, hg.output, hg.size, fun k hk hn => hg.block k hk (fun e => hn (by rw [← e]; simp))⟩

/-- A row of n numbers that are drawn. -/
def NumRow (n : Nat) (xs : List Int) : Prop := xs.length = n ∧ ∀ x ∈ xs, 0 ≤ x ∧ x ≤ 1000000270
def DrawsRow (g n : Nat) (w : World) : Ending → World → Prop := fun e w' => ∃ (v : Value) (xs : List Int) (fp : List Nat), e = .returned v ∧ OwnI 3 w' v xs fp ∧ NumRow n xs ∧ (∀ b ∈ fp, w.heap.size ≤ b) ∧ Drawn g w w'
set_option maxRecDepth 100000 in
set_option maxHeartbeats 3200000 in
theorem nums_any (g n : Nat) (nz : Int) (hnz : nz = n) (hn : n ≤ 1000) (w : World) (hc : Cur w g) : Calls Try.prog 32 #[.pointer (some ⟨g, 0, none⟩), .int .i64 nz] w (DrawsRow g n w) := by
  obtain ⟨j0, hj, hz0, hz1, hz2⟩ := info_parts Try.info_int
  have hgl := hc.lt
  have hal0 : Below w.heap.size w (w.alloc (.cells #[] 3)) := (Below.refl _ _).alloc (Nat.le_refl _) _
  have hi0 := Lib.hid (show OwnI 3 (w.alloc (.cells #[] 3)) (.slice (some ⟨w.heap.size, 0, none⟩) 0 0) [] [w.heap.size] from ⟨by simpa using World.ownsRow_lit (base := 0) (e := 3) (size := 1) w #[] 0 (Nat.zero_le _) (Nat.zero_le _) rfl, rfl, by simp⟩)
  have HD0 := Lib.hid ((Drawn.refl hc).below hal0)
  have HNZ := Lib.hid hnz
  clear hal0 hnz
  go_enter Try.func32, Try.ntmps32
  go_wp2
  go_loopw [5, 6] (fun p j wq => ∃ (q : Nat) (ys : List Int) (f : List Nat), q ≤ n ∧ j = .int .i64 q ∧ OwnI 3 wq p ys f ∧ NumRow q ys ∧ (∀ b ∈ f, w.heap.size ≤ b) ∧ Drawn g w wq) (fun _ j _ => n - (intOf j).toNat)
  case atStart => exact ⟨0, [], [w.heap.size], Nat.zero_le _, rfl, hi0.out, ⟨rfl, by simp⟩, by simp, HD0.out⟩
  case round =>
    obtain ⟨q, ys, f, hq, rfl, hp, hys, hf, hd⟩ := hrel
    clear hi0
    by_cases hql : q < n
    case neg =>
      obtain rfl : q = n := by omega
      have : ¬ ((q : Int) < nz) := by rw [HNZ.out]; omega
      go_wp2
      go_ret
      exact ⟨_, ys, f, rfl, hp, hys, hf, hd⟩
    have hqI : (q : Int) < nz := by rw [HNZ.out]; omega
    go_wp2_with fail
    refine (num_any g wr hd.cur).mono ?_
    rintro e w1 ⟨x, rfl, hx0, hx1, hd1⟩
    have hgf : ∀ b ∈ f, b ∉ [g] := fun b hb => by have := hf b hb; simp; omega
    have hp1 : OwnI 3 w1 _ ys f := ownI_only hp hd1.only hgf
    obtain ⟨adp, lenp, capp, rfl, hlp, hlpc, hcpm, hownp, _, hfe⟩ := ownI_open hp1
    obtain rfl : lenp = q := by have := hys.1; omega
    have hal : Below w1.heap.size w1 (w1.alloc (.cells #[.int .i64 x] 3)) := (Below.refl _ _).alloc (Nat.le_refl _) _
    have hd01 := hd.trans hd1
    have HP := Lib.hid (fun (w2 : World) (gg capn : Nat) (hown1 : w2.ownsRow 0 3 1 (.slice (some ⟨gg, 0, none⟩) (lenp + 1) capn) (lenp + 1) (ys.map (Value.int .i64) ++ [.int .i64 x]))
        (hgrow : (w1.alloc (.cells #[.int .i64 x] 3)).grownBy w2 (Value.slice adp lenp capp).ownBlock) (hat : (Value.slice adp lenp capp).ownBlock = some gg ∨ gg = w1.heap.size + 1) =>
      show ∃ f', OwnI 3 w2 (.slice (some ⟨gg, 0, none⟩) (lenp + 1) capn) (ys ++ [x]) f' ∧ (∀ b ∈ f', w.heap.size ≤ b) ∧ Drawn g w w2 from by
        obtain ⟨f', h1, h2, h3⟩ := ownI_push2 hp1 hlp ⟨by omega, by omega⟩ hal hown1 hgrow (fun b hb => by
          simp [Value.ownBlock] at hb
          subst hb
          rcases hat with hat | hat
          · left; exact hat
          · right; rw [hat]; simp)
        have hs := hd01.only.size
        have hnew : ∀ b ∈ f', w.heap.size ≤ b := fun b hb => by
          rcases h2 b hb with hb | hb
          · exact hf b hb
          · have := hal.size; omega
        exact ⟨f', h1, hnew, Only.newer hd01.only h3 hf, hd01.cur.only h3 (fun hg => by have := hf _ hg; omega) (fun b hb => by have := hf b hb; omega)⟩)
    have HNP := Lib.hid hownp
    clear hownp hfe hlp hp1 hal
    go_wp2_with (first | (at_builtin; refine wpList_append_lies _ rfl _ _ _ rfl 0 3 j0 _ 1 8 Try.underlying24 hj hz0 hz1 hz2 rfl (by omega) (.slice adp lenp capp) lenp _ (by rfl) (HNP.out.alloc _) ⟨w1.heap.size, 0, none⟩ 1 1 [.int .i64 x] (by rfl) (by rfl) (World.news_of_block (cs := #[.int .i64 x]) (t := 3) (fr := (0, 0)) (heap_alloc_new w1 _)) (by simp [Value.oneCell']) (by omega) (by unfold maxLen; omega) (by omega) (by simp) (w1.heap.size + 1) (by simp) ?_; intro gg capn w1 hown1 hgrow hat hlt1; obtain ⟨f', hP1, hP2, hP3⟩ := HP.out w1 gg capn hown1 hgrow hat; have HPP := Lib.hid hP1))
    all_goals (
      go_roundw
      case rel => exact ⟨lenp + 1, ys ++ [x], f', by omega, by go_num, HPP.out, ⟨by simp [hys.1], fun y hy => by
        rcases List.mem_append.1 hy with hy | hy
        · exact hys.2 y hy
        · rw [List.mem_singleton.1 hy]; exact ⟨hx0, hx1⟩⟩, hP2, hP3⟩
      case measure => simp [intOf]; omega)
end Go.Proofs.Ytbcjhpgkodeoeaa

/- A slice copied. Conditions: none. -/
namespace Go.Proofs.Ytbcjhpgkodeoeaa
open Go.RowKit

theorem rdI_news {w : World} {b off n cap : Nat} {xs : List Int} (h : RdI w (.slice (some ⟨b, off, none⟩) n cap) xs) : ∀ (j : Nat) u, (xs.map (Value.int .i64))[j]? = some u → w.cell? ((⟨b, off, none⟩ : Addr).add j) = some u := by
  intro j u hu
  obtain ⟨ad', len', cap', he, hl, _, _, _⟩ := rdS_open h
  injection he with e1 e2 e3
  subst e2
  rw [List.getElem?_map] at hu
  cases hx : xs[j]? with
  | none => rw [hx] at hu; simp at hu
  | some x =>
    rw [hx] at hu
    simp only [Option.map_some, Option.some.injEq] at hu
    have hj : j < n := by rw [← hl]; exact (List.getElem?_eq_some_iff.1 hx).1
    obtain ⟨b', off', x', hb, hx', hc, _, _⟩ := rdI_get h hj
    simp only [Option.some.injEq, Addr.mk.injEq] at hb
    obtain ⟨rfl, rfl, _⟩ := hb
    rw [hx] at hx'
    obtain rfl := Option.some.inj hx'
    have hadd : (⟨b, off, none⟩ : Addr).add j = ⟨b, off + j, none⟩ := by unfold Addr.add; split <;> simp_all
    rw [hadd, hc, hu]

/-- A copy of a slice by an append to an empty one. -/
theorem clone_own {e n : Nat} {W w2 : World} {y : List Int} {gg capn : Nat} (hown : w2.ownsRow 0 e 1 (.slice (some ⟨gg, 0, none⟩) (0 + n) capn) (0 + n) ([] ++ y.map (Value.int .i64))) (hg : (W.alloc (.cells #[] e)).grownBy w2 (some W.heap.size))
    (hat : some W.heap.size = some gg ∨ gg = W.heap.size + 1) (hn : y.length = n) (hI : ∀ x ∈ y, I64 x) : OwnI e w2 (.slice (some ⟨gg, 0, none⟩) n capn) y [gg] ∧ W.heap.size ≤ gg ∧ Below W.heap.size W w2 := by
  rw [Nat.zero_add, List.nil_append] at hown
  have hb1 : Below W.heap.size W (W.alloc (.cells #[] e)) := (Below.refl _ _).alloc (Nat.le_refl _) _
  refine ⟨⟨by rw [hn]; exact hown, rfl, hI⟩, ?_, hb1.grown hg hb1.size (fun k hk => by simp at hk; omega)⟩
  rcases hat with h | h
  · simp at h; omega
  · omega
end Go.Proofs.Ytbcjhpgkodeoeaa
