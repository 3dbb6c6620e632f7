/- The texts SortS, ColD, Equal in one: each says at its head what it proves. Conditions: as said there. -/
import Derived.Lib.SliceRun
import Derived.Test.YtbcjhpgkodeoeaaGreatDoorN34
import Derived.Test.YtbcjhpgkodeoeaaGreatDoorN08
import Derived.Test.YtbcjhpgkodeoeaaGreatDoorN02
set_option linter.unusedSimpArgs false
set_option linter.unusedVariables false
/- Sorting monomials in place: block by block, then merged. Conditions: none. -/
namespace Go.Proofs.YtbcjhpgkodeoeaaGreatDoor
open Go.RowKit Go.Sort

theorem insSort_z (g n cap : Nat) (A L C : List ElS) {a b : Int} (w0 w : World) (h : SSt 56 g n cap w0 w (A ++ (L ++ C))) (ha : a = (A.length : Nat)) (hb : b = (A.length + L.length : Nat)) (hn : n ≤ 1048576) (HX : ReadS g w0 L) :
    Calls Tryz.prog 187 #[.slice (some ⟨g, 0, none⟩) n cap, .int .i64 a, .int .i64 b, .func (.func 109) #[] #[]] w (Sorted1 56 g n cap w0 A L C) := by
  subst ha hb
  exact insSort_any g n cap A L C _ _ w0 w h rfl rfl hn HX

/-- Sorted blocks of one length, and a rest. -/
def BlkS (s : Nat) (Ls : List (List ElS)) : Prop := ∀ l ∈ Ls, l.length = s ∧ SrtS l
theorem blk_len {s : Nat} : ∀ {Ls : List (List ElS)}, BlkS s Ls → Ls.flatten.length = Ls.length * s
  | [], _ => by simp
  | l :: Ls, h => by
    have h1 := (h l (by simp)).1
    have h2 := blk_len (Ls := Ls) (fun x hx => h x (by simp [hx]))
    rw [List.flatten_cons, List.length_append, h1, h2, List.length_cons, Nat.succ_mul]
    omega
theorem blk_snoc {s : Nat} {Ls : List (List ElS)} {l : List ElS} (h : BlkS s Ls) (h1 : l.length = s) (h2 : SrtS l) : BlkS s (Ls ++ [l]) := fun x hx => by
  rw [List.mem_append, List.mem_singleton] at hx
  rcases hx with hx | rfl
  · exact h x hx
  · exact ⟨h1, h2⟩
theorem blk_two {s : Nat} {Ls : List (List ElS)} {T : List ElS} {a n : Nat} (h : BlkS s Ls) (hT : T.length < s) (hn : a + Ls.flatten.length + T.length = n) (hb : a + 2 * s ≤ n) : ∃ l1 l2 Ls', Ls = l1 :: l2 :: Ls' := by
  match Ls, h, hn with
  | [], _, hn => simp at hn; omega
  | [l], h, hn =>
    have := (h l (by simp)).1
    simp at hn
    omega
  | l1 :: l2 :: Ls', _, _ => exact ⟨l1, l2, Ls', rfl⟩
theorem blk_few {s : Nat} {Ls : List (List ElS)} {T : List ElS} {a n : Nat} (h : BlkS s Ls) (hn : a + Ls.flatten.length + T.length = n) (hs : 0 < s) (hb : ¬ a + 2 * s ≤ n) : Ls = [] ∨ ∃ l, Ls = [l] := by
  match Ls, h, hn with
  | [], _, hn => left; rfl
  | [l], _, hn => right; exact ⟨l, rfl⟩
  | l1 :: l2 :: Ls', h, hn =>
    exfalso
    have h1 := (h l1 (by simp)).1
    have h2 := (h l2 (by simp)).1
    simp only [List.flatten_cons, List.length_append] at hn
    omega

set_option maxRecDepth 100000 in
set_option maxHeartbeats 3200000 in
theorem stable_any (g n cap : Nat) (X : List ElS) (w0 w : World) (h : SSt 56 g n cap w0 w X) (hn : n ≤ 1048576) (HX : ReadS g w0 X) :
    Calls Tryz.prog 156 #[.slice (some ⟨g, 0, none⟩) n cap, .int .i64 n, .func (.func 109) #[] #[]] w (Sorted1 56 g n cap w0 [] X []) := by
  have hln := h.len
  have HLN := Lib.hid hln
  have HS := Lib.hid h
  have HXX := Lib.hid HX
  clear h HX hln
  go_enter Tryz.func156, Tryz.ntmps156
  go_wp2
  go_loopw [7, 8] (fun sa sb wr => ∃ (Ls : List (List ElS)) (T : List ElS) (a b : Nat), sa = .int .i64 a ∧ sb = .int .i64 b ∧ a ≤ n ∧ b = a + 20 ∧ a = Ls.length * 20 ∧ (Ls.flatten ++ T).Perm X ∧ BlkS 20 Ls ∧ SSt 56 g n cap w0 wr (Ls.flatten ++ T)) (fun sa _ _ => n - (intOf sa).toNat)
  case atStart => exact ⟨[], X, 0, 20, rfl, rfl, Nat.zero_le _, rfl, rfl, by simp, (fun l hl => by cases hl), by simpa using HS.out⟩
  case round =>
    obtain ⟨wk, rfl⟩ : ∃ W, W = wr := ⟨_, rfl⟩
    obtain ⟨Ls, T, a, b, rfl, rfl, han, hba, hal, hp, hbl, hs⟩ := hrel
    have hfl := blk_len hbl
    have hln := hs.len
    rw [List.length_append, hfl, ← hal] at hln
    have HAL := Lib.hid hal
    have HBA := Lib.hid hba
    have HP := Lib.hid hp
    have HBL := Lib.hid hbl
    have HSS := Lib.hid hs
    have HFL := Lib.hid (hfl.trans hal.symm)
    have HTL := Lib.hid (show T.length = n - a by omega)
    by_cases hbn : b ≤ n
    case pos =>
      have IS := Lib.hid (insSort_z g n cap Ls.flatten (T.take 20) (T.drop 20) (a := a) (b := b) w0 wk (by rw [List.take_append_drop]; exact hs) (by rw [HFL.out]) (by rw [HFL.out, List.length_take, HTL.out]; omega) hn (fun z hz => (HXX.out.perm hp) z (by rw [List.mem_append]; right; exact List.mem_of_mem_take hz)))
      clear hba hal hp hbl hs hfl hln
      go_wp2_with fail
      refine IS.out.mono ?_
      rintro e' w1 ⟨rfl, S, hSp, hSs, hs1⟩
      have hS20 : S.length = 20 := by rw [hSp.length_eq, List.length_take, HTL.out]; have := HBA.out; omega
      have HN := Lib.hid (show ((Ls ++ [S]).flatten ++ T.drop 20).Perm X ∧ BlkS 20 (Ls ++ [S]) ∧ SSt 56 g n cap w0 w1 ((Ls ++ [S]).flatten ++ T.drop 20) from ⟨by
        refine List.Perm.trans ?_ HP.out
        rw [List.flatten_append, List.flatten_singleton, List.append_assoc]
        refine List.Perm.append_left _ ?_
        have := hSp.append_right (T.drop 20)
        rwa [List.take_append_drop] at this, blk_snoc HBL.out hS20 hSs, by simpa using hs1⟩)
      clear hSp hSs hs1 hS20
      go_wp2
      go_roundw
      case rel => exact ⟨Ls ++ [S], T.drop 20, b, b + 20, rfl, by go_num, hbn, rfl, by have := HAL.out; have := HBA.out; rw [List.length_append, List.length_singleton]; omega, HN.out.1, HN.out.2.1, HN.out.2.2⟩
      case measure => (have := HBA.out; simp [intOf]; try omega)
    case neg =>
      have IS := Lib.hid (insSort_z g n cap Ls.flatten T [] (a := a) (b := n) w0 wk (by simpa using hs) (by rw [HFL.out]) (by rw [HFL.out, HTL.out]; omega) hn (fun z hz => (HXX.out.perm hp) z (by rw [List.mem_append]; right; exact hz)))
      clear hba hal hp hbl hs hfl hln
      go_wp2_with fail
      refine IS.out.mono ?_
      rintro e' w1 ⟨rfl, S, hSp, hSs, hs1⟩
      have h0 : ∃ (Ls : List (List ElS)) (T : List ElS), (Ls.flatten ++ T).Perm X ∧ BlkS 20 Ls ∧ T.length < 20 ∧ SrtS T ∧ SSt 56 g n cap w0 w1 (Ls.flatten ++ T) :=
        ⟨Ls, S, (hSp.append_left Ls.flatten).trans HP.out, HBL.out, by rw [hSp.length_eq, HTL.out]; have := HBA.out; omega, hSs, by simpa using hs1⟩
      have H0 := Lib.hid h0
      clear h0 hSp hSs hs1
      go_wp2
      go_loopw [6] (fun ss wr => ∃ (s : Nat) (Ls : List (List ElS)) (T : List ElS), ss = .int .i64 s ∧ 20 ≤ s ∧ s ≤ 4000000 ∧ (Ls.flatten ++ T).Perm X ∧ BlkS s Ls ∧ T.length < s ∧ SrtS T ∧ SSt 56 g n cap w0 wr (Ls.flatten ++ T)) (fun ss _ => n - (intOf ss).toNat)
      case atStart =>
        obtain ⟨Ls1, T1, g1, g2, g3, g4, g5⟩ := H0.out
        exact ⟨20, Ls1, T1, rfl, Nat.le_refl _, by omega, g1, g2, g3, g4, g5⟩
      case round =>
        obtain ⟨wz, rfl⟩ : ∃ W, W = wr := ⟨_, rfl⟩
        clear IS H0 HTL HFL HSS HBL HP HBA HAL
        clear han hbn
        obtain ⟨s, Ks, U, rfl, hs20, hs4, hp, hbl, hU, hUs, hs⟩ := hrel
        have hln := hs.len
        rw [List.length_append] at hln
        by_cases hsn : s < n
        case neg =>
          have hE : ∃ S, S.Perm X ∧ SrtS S ∧ SSt 56 g n cap w0 wz ([] ++ (S ++ [])) := by
            refine ⟨Ks.flatten ++ U, hp, ?_, by simpa using hs⟩
            rcases blk_few (a := 0) (T := U) (n := n) hbl (by omega) (by omega) (by omega) with rfl | ⟨l, rfl⟩
            · simpa using hUs
            · have h1 := (hbl l (by simp)).1
              have hU0 : U = [] := List.eq_nil_of_length_eq_zero (by simp at hln; omega)
              rw [hU0]
              simpa using (hbl l (by simp)).2
          have HE := Lib.hid hE
          clear hE hp hbl hU hUs hs hln
          go_wp2
          go_end0
          exact ⟨rfl, HE.out⟩
        case pos =>
          have h0 : ∃ (Ds Ls : List (List ElS)) (T : List ElS), Ds.flatten.length = 0 ∧ (Ds.flatten ++ (Ls.flatten ++ T)).Perm X ∧ BlkS (2 * s) Ds ∧ BlkS s Ls ∧ T.length < s ∧ SrtS T ∧ SSt 56 g n cap w0 wz (Ds.flatten ++ (Ls.flatten ++ T)) := ⟨[], Ks, U, rfl, by simpa using hp, (fun l hl => by cases hl), hbl, hU, hUs, by simpa using hs⟩
          have H0 := Lib.hid h0
          have hs2 : s ≤ 2000000 := by omega
          clear h0 hp hbl hU hUs hs hln
          go_wp2
          go_loopw [7, 8] (fun sa sb wr => ∃ (a b : Nat) (Ds Ls : List (List ElS)) (T : List ElS), sa = .int .i64 a ∧ sb = .int .i64 b ∧ b = a + 2 * s ∧ a ≤ n ∧ Ds.flatten.length = a ∧ (Ds.flatten ++ (Ls.flatten ++ T)).Perm X ∧ BlkS (2 * s) Ds ∧ BlkS s Ls ∧ T.length < s ∧ SrtS T ∧ SSt 56 g n cap w0 wr (Ds.flatten ++ (Ls.flatten ++ T))) (fun sa _ _ => n - (intOf sa).toNat)
          case atStart =>
            obtain ⟨Ds1, Ls1, T1, g1, g2, g3, g4, g5, g6, g7⟩ := H0.out
            exact ⟨0, 2 * s, Ds1, Ls1, T1, rfl, by go_num, by omega, Nat.zero_le _, g1, g2, g3, g4, g5, g6, g7⟩
          case round =>
            obtain ⟨wy, rfl⟩ : ∃ W, W = wr := ⟨_, rfl⟩
            clear H0
            obtain ⟨a, b, Ds, Ls, T, rfl, rfl, hba, han, hda, hp, hbd, hbl, hT, hTs, hs⟩ := hrel
            have hln := hs.len
            rw [List.length_append, List.length_append, hda] at hln
            have HDA := Lib.hid hda
            have HBA := Lib.hid hba
            have HBD := Lib.hid hbd
            have hb8 : b ≤ 8000000 := by omega
            by_cases hbn : b ≤ n
            case pos =>
              obtain ⟨l1, l2, Ls', rfl⟩ := blk_two (a := a) (n := n) hbl hT (by omega) (by omega)
              have e1 := (hbl l1 (by simp))
              have e2 := (hbl l2 (by simp))
              have hbl' : BlkS s Ls' := fun x hx => hbl x (by simp [hx])
              have SM := Lib.hid (symMerge_any g n cap Ds.flatten l1 l2 (Ls'.flatten ++ T) (za := a) (zm := (a : Int) + s) (zb := b) w0 wy (by simpa using hs) (by rw [hda]) (by rw [hda, e1.1]; omega) (by rw [hda, e1.1, e2.1]; omega) (by omega) (by omega) hn e1.2 e2.2 (fun z hz => (HXX.out.perm hp) z (by
                rw [List.mem_append] at hz
                simp only [List.mem_append, List.flatten_cons]
                exact hz.elim (fun h => .inr (.inl (.inl h))) (fun h => .inr (.inl (.inr (.inl h)))))))
              have HP := Lib.hid hp
              have HBL := Lib.hid hbl'
              have HE1 := Lib.hid e1.1
              have HE2 := Lib.hid e2.1
              have HTS := Lib.hid hTs
              clear hba hda hp hbd hbl hs hln e1 e2 hbl' hTs
              go_wp2_with fail
              refine SM.out.mono ?_
              rintro e' w1 ⟨rfl, S, hSp, hSs, hs1⟩
              have hSl : S.length = 2 * s := by rw [hSp.length_eq, List.length_append, HE1.out, HE2.out]; omega
              have HN := Lib.hid (show (Ds ++ [S]).flatten.length = b ∧ ((Ds ++ [S]).flatten ++ (Ls'.flatten ++ T)).Perm X ∧ BlkS (2 * s) (Ds ++ [S]) ∧ SSt 56 g n cap w0 w1 ((Ds ++ [S]).flatten ++ (Ls'.flatten ++ T)) from ⟨by
                rw [List.flatten_append, List.flatten_singleton, List.length_append, HDA.out, hSl, HBA.out], by
                refine List.Perm.trans ?_ HP.out
                rw [List.flatten_append, List.flatten_singleton, List.append_assoc]
                refine List.Perm.append_left _ ?_
                have := hSp.append_right (Ls'.flatten ++ T)
                simpa using this, blk_snoc HBD.out hSl hSs, by simpa using hs1⟩)
              clear hSp hSs hs1 hSl
              go_wp2
              go_roundw
              case rel => exact ⟨b, b + 2 * s, Ds ++ [S], Ls', T, rfl, by go_num, rfl, hbn, HN.out.1, HN.out.2.1, HN.out.2.2.1, HBL.out, hT, HTS.out, HN.out.2.2.2⟩
              case measure => (have := HBA.out; simp [intOf]; try omega)
            case neg =>
              have hfew := blk_few (a := a) (T := T) (n := n) hbl (by omega) (by omega) (by omega)
              by_cases hmn : a + s < n
              · rcases hfew with rfl | ⟨l, rfl⟩
                · exfalso; simp at hln; omega
                have e1 := (hbl l (by simp))
                have hT0 : 0 < T.length := by simp at hln; omega
                have SM := Lib.hid (symMerge_any g n cap Ds.flatten l T [] (za := a) (zm := (a : Int) + s) (zb := n) w0 wy (by simpa using hs) (by rw [hda]) (by rw [hda, e1.1]; omega) (by rw [hda]; simp at hln; omega) (by omega) hT0 hn e1.2 hTs (fun z hz => (HXX.out.perm hp) z (by
                  rw [List.mem_append] at hz
                  simp only [List.mem_append, List.flatten_singleton]
                  exact hz.elim (fun h => .inr (.inl h)) (fun h => .inr (.inr h)))))
                have HP := Lib.hid hp
                have HE1 := Lib.hid e1.1
                clear hba hda hp hbd hbl hs hln e1 hTs hT0
                go_wp2_with fail
                refine SM.out.mono ?_
                rintro e' w1 ⟨rfl, S, hSp, hSs, hs1⟩
                have HN := Lib.hid (show (Ds.flatten ++ S).Perm X ∧ S.length < s * 2 ∧ SrtS S ∧ SSt 56 g n cap w0 w1 (Ds.flatten ++ S) from ⟨by
                  refine List.Perm.trans ?_ HP.out
                  refine List.Perm.append_left _ ?_
                  simpa using hSp, by rw [hSp.length_eq, List.length_append, HE1.out]; omega, hSs, by simpa using hs1⟩)
                clear hSp hSs hs1
                go_wp2
                go_roundw
                case rel => exact ⟨s * 2, Ds, S, by go_num, by omega, by omega, HN.out.1, by rw [Nat.mul_comm]; exact HBD.out, HN.out.2.1, HN.out.2.2.1, HN.out.2.2.2⟩
                case measure => (simp [intOf]; try omega)
              · have hN : ∃ S, (Ds.flatten ++ S).Perm X ∧ S.length < s * 2 ∧ SrtS S ∧ SSt 56 g n cap w0 wy (Ds.flatten ++ S) := by
                  rcases hfew with rfl | ⟨l, rfl⟩
                  · exact ⟨T, by simpa using hp, by omega, hTs, by simpa using hs⟩
                  · have e1 := (hbl l (by simp))
                    have hT0 : T = [] := List.eq_nil_of_length_eq_zero (by simp at hln; omega)
                    subst hT0
                    exact ⟨l, by simpa using hp, by omega, e1.2, by simpa using hs⟩
                have HN := Lib.hid hN
                clear hba hda hp hbd hbl hs hln hTs hfew hN
                go_wp2
                go_roundw
                case rel =>
                  obtain ⟨S, k1, k2, k3, k4⟩ := HN.out
                  exact ⟨s * 2, Ds, S, by go_num, by omega, by omega, k1, by rw [Nat.mul_comm]; exact HBD.out, k2, k3, k4⟩
                case measure => (simp [intOf]; try omega)
end Go.Proofs.YtbcjhpgkodeoeaaGreatDoor

/- Monomials without a number are struck out of a row, in place. Conditions: none. -/
namespace Go.Proofs.YtbcjhpgkodeoeaaGreatDoor
open Go.RowKit Go.Sort

set_option maxHeartbeats 400000 in
theorem isz_any (c : Int) (v : Value) {b : Bool} (w : World) (h : decide (c = 0) = b) :
    Calls Tryz.prog 112 #[.agg #[.int .i64 c, v]] w fun e w' => e = .returned (.bool b) ∧ Below w.heap.size w w' := by
  have hb : Below w.heap.size w (w.alloc (.cells #[.int .i64 c, v] 56)) := (Below.refl _ _).alloc (Nat.le_refl _) _
  have HH := Lib.hid h
  clear h
  go_enter Tryz.func112, Tryz.ntmps112
  go_wp2
  go_ret
  exact ⟨ret_bool (by rw [← HH.out]; rfl), hb⟩

/-- Where the first monomial without a number lies. -/
def FirstZ (X : List ElS) (w : World) : Ending → World → Prop := fun e w' =>
  (e = .returned (.int .i64 (-1)) ∧ (∀ x ∈ X, x.c ≠ 0) ∨ ∃ (i : Nat) (x : ElS), e = .returned (.int .i64 i) ∧ X[i]? = some x ∧ x.c = 0 ∧ ∀ y ∈ X.take i, y.c ≠ 0) ∧ Below w.heap.size w w'

set_option maxRecDepth 100000 in
set_option maxHeartbeats 800000 in
theorem index_any (g n cap : Nat) (X : List ElS) (w0 w : World) (h : SSt 56 g n cap w0 w X) (hn : n ≤ 1048576) :
    Calls Tryz.prog 157 #[.slice (some ⟨g, 0, none⟩) n cap, .func (.func 112) #[] #[]] w (FirstZ X w) := by
  have HLN := Lib.hid h.len
  have HS := Lib.hid h
  have hbr := Below.refl w.heap.size w
  have HBR := Lib.hid hbr
  clear h hbr
  go_enter Tryz.func157, Tryz.ntmps157
  go_wp2
  go_loopw [8] (fun si wr => ∃ i : Nat, si = .int .i64 i ∧ i ≤ n ∧ (∀ y ∈ X.take i, y.c ≠ 0) ∧ Below w.heap.size w wr) (fun si _ => n - (intOf si).toNat)
  case atStart => exact ⟨0, rfl, Nat.zero_le _, by simp, HBR.out⟩
  case round =>
    obtain ⟨wk, rfl⟩ : ∃ W, W = wr := ⟨_, rfl⟩
    obtain ⟨i, rfl, hin, ht, hb⟩ := hrel
    have HT := Lib.hid ht
    clear ht HBR
    by_cases hlt : i < n
    case neg =>
      obtain rfl : i = n := by omega
      have HE := Lib.hid (show ∀ x ∈ X, x.c ≠ 0 from by have := HT.out; rwa [List.take_of_length_le (by rw [HLN.out]; exact Nat.le_refl _)] at this)
      go_wp2
      go_ret
      exact ⟨.inl ⟨rfl, HE.out⟩, hb⟩
    obtain ⟨x, hx⟩ : ∃ x, X[i]? = some x := ⟨_, List.getElem?_eq_getElem (by rw [HLN.out]; exact hlt)⟩
    obtain ⟨hc0, hc1, _, _⟩ := (HS.out.below hb).cells hx
    have HX := Lib.hid hx
    clear hx
    by_cases hz : x.c = 0
    · have IZ := Lib.hid (isz_any x.c x.v (b := true) wk (by simpa using hz))
      have HZ := Lib.hid hz
      clear hz
      go_wp2_with fail
      refine IZ.out.mono ?_
      rintro e w1 ⟨rfl, hb1⟩
      have hb2 := hb.trans (hb1.mono hb.size)
      go_wp2
      go_ret
      exact ⟨.inr ⟨i, x, rfl, HX.out, HZ.out, HT.out⟩, hb2⟩
    · have IZ := Lib.hid (isz_any x.c x.v (b := false) wk (by simpa using hz))
      have HZ := Lib.hid hz
      clear hz
      go_wp2_with fail
      refine IZ.out.mono ?_
      rintro e w1 ⟨rfl, hb1⟩
      have hb2 := hb.trans (hb1.mono hb.size)
      clear hb1 hc0 hc1
      go_wp2
      go_roundw
      case rel => exact ⟨i + 1, by go_num, by omega, by
        intro y hy
        rw [take_snoc HX.out, List.mem_append, List.mem_singleton] at hy
        rcases hy with hy | rfl
        · exact HT.out y hy
        · exact HZ.out, hb2⟩
      case measure => (simp [intOf]; try omega)
/-- A row's first elements. -/
theorem row_shrink {w : World} {e g n cap m : Nat} {cs : List Value} (h : w.ownsRow 0 e 2 (.slice (some ⟨g, 0, none⟩) n cap) n cs) (hm : m ≤ n) : w.ownsRow 0 e 2 (.slice (some ⟨g, 0, none⟩) m cap) m (cs.take (m * 2)) := by
  obtain ⟨h1, h2⟩ := h
  refine ⟨by rw [List.length_take]; omega, ?_⟩
  rcases h2 with ⟨h, _⟩ | ⟨g', cap', cur, hv, hb, hg, hnc, hcm, hcs, ht⟩
  · simp at h
  · simp only [Value.slice.injEq, Option.some.injEq, Addr.mk.injEq, and_true, true_and] at hv
    obtain ⟨rfl, rfl⟩ := hv
    refine .inr ⟨g, cap, cur, rfl, hb, hg, by omega, hcm, hcs, ?_⟩
    rw [← ht, List.take_take, Nat.min_eq_left (by omega)]
theorem row_setCells {e g n cap m : Nat} : ∀ (vs : List Value) (o : Nat) (w : World) (cs : List Value), w.ownsRow 0 e 2 (.slice (some ⟨g, 0, none⟩) n cap) n cs → m ≤ o →
    Only [g] w (w.setCells g o vs) ∧ ∃ cs', (w.setCells g o vs).ownsRow 0 e 2 (.slice (some ⟨g, 0, none⟩) n cap) n cs' ∧ cs'.take m = cs.take m
  | [], _, w, cs, h, _ => ⟨Only.refl _ _, cs, h, rfl⟩
  | v :: vs, o, w, cs, h, hm => by
    have h1 := (h.stored o v).1
    obtain ⟨h2, cs', h3, h4⟩ := row_setCells (m := m) vs (o + 1) (w.setCell ⟨g, o, none⟩ v) _ h1 (by omega)
    refine ⟨((Only.refl _ _).setCell (by simp) _).trans h2, cs', h3, ?_⟩
    rw [h4, List.take_set_of_le hm]

theorem run_clear_mon (P : Program) (w : World) (t e ty : TypeId) (z : Value) (ht : P.underlying t = some (.slice e)) (hv : ∀ w, (zeroValue e).run P w = .ok z w) (hz : z.cells = #[.int .i64 0, .slice none 0 0]) (b o n c : Nat) (hn : 0 < n)
    (hc : ∀ j, j < n * 2 → (w.cell? ⟨b, o + j, none⟩).isSome = true) (hf : ∀ j, j < n * 2 → w.frozen? ⟨b, o + j, none⟩ = false) :
    ∃ vs, (Builtin.clear_ #[t] ty #[.slice (some ⟨b, o, none⟩) n c]).run P w = .ok (.tuple #[]) (w.setCells b o vs) := by
  obtain ⟨vs, hvs⟩ : ∃ vs, vs = (Builtin.zeroCells z.cells n).toList := ⟨_, rfl⟩
  have hl : vs.length = n * 2 := by rw [hvs, hz]; simp [Builtin.zeroCells]
  have h1 : ∀ v ∈ vs, v.oneCell' = true := by
    intro v hv
    obtain ⟨i, hi, rfl⟩ := List.getElem_of_mem hv
    simp only [hvs, hz]
    simp [Builtin.zeroCells]
    have : i % 2 = 0 ∨ i % 2 = 1 := by omega
    rcases this with h | h <;> simp [h, Value.oneCell']
  have hst := run_storeCells_cells (P := P) b o vs 0 w (by rw [hl]; simpa using hc) (by rw [hl]; simpa using hf) h1
  simp only [Nat.add_zero] at hst
  obtain ⟨m, rfl⟩ : ∃ m, n = m + 1 := ⟨n - 1, by omega⟩
  refine ⟨vs, ?_⟩
  rw [hvs] at hst ⊢
  simp [Builtin.clear_, run_underlying ht, hv, hst]

/-- What is left. -/
def Struck (e g cap : Nat) (w0 : World) (X : List ElS) : Ending → World → Prop := fun en w' =>
  en = .returned (.slice (some ⟨g, 0, none⟩) (keepE X).length cap) ∧ Only [g] w0 w' ∧ w'.ownsRow 0 e 2 (.slice (some ⟨g, 0, none⟩) (keepE X).length cap) (keepE X).length (rowS (keepE X))

set_option maxRecDepth 100000 in
set_option maxHeartbeats 1600000 in
theorem delete_any (g n cap : Nat) (X : List ElS) (w : World) (h : SSt 56 g n cap w w X) (hn : n ≤ 1048576) (hnc : n ≤ cap) (hcm : cap ≤ 9223372036854775807) :
    Calls Tryz.prog 111 #[.slice (some ⟨g, 0, none⟩) n cap, .func (.func 112) #[] #[]] w (Struck 56 g cap w X) := by
  have HLN := Lib.hid h.len
  have HS := Lib.hid h
  have IX := Lib.hid (index_any g n cap X w w h hn)
  clear h
  go_enter Tryz.func111, Tryz.ntmps111
  go_wp2_with fail
  refine IX.out.mono ?_
  rintro e w1 ⟨⟨rfl, hall⟩ | ⟨i, x, rfl, hx, hz, hbef⟩, hb⟩
  · have hk : keepE X = X := List.filter_eq_self.2 (fun x hx => by simpa using hall x hx)
    have HE := Lib.hid (show Struck 56 g cap w X (.returned (.slice (some ⟨g, 0, none⟩) n cap)) w1 from ⟨by rw [hk, HLN.out], Only.of_below hb, by rw [hk, HLN.out]; exact (HS.out.below hb).row⟩)
    clear hall hk hb
    go_wp2
    go_ret
    exact HE.out
  · have hin : i < n := by have := (List.getElem?_eq_some_iff.1 hx).1; rw [HLN.out] at this; exact this
    have HK0 := Lib.hid (show keepE (X.take (i + 1)) = X.take i ∧ SSt 56 g n cap w w1 (X.take i ++ ([x] ++ X.drop (i + 1))) from ⟨by
      rw [take_snoc hx, keepE_snoc, if_pos hz, List.append_nil]
      exact List.filter_eq_self.2 (fun y hy => by simpa using hbef y hy), by
      have h1 := HS.out.below hb
      have h2 : X = X.take i ++ ([x] ++ X.drop (i + 1)) := by
        have := (List.take_append_drop (i + 1) X).symm
        rw [take_snoc hx] at this
        simpa using this
      rw [← h2]; exact h1⟩)
    have hq : ((i : Int) == -1) = false := by simp
    clear hx hz hbef hb
    go_wp2
    go_loopw [5, 6] (fun si sj wr => ∃ (i j : Nat) (M : List ElS), si = .int .i64 i ∧ sj = .int .i64 j ∧ i < j ∧ j ≤ n ∧ (keepE (X.take j)).length = i ∧ M.length = j - i ∧ SSt 56 g n cap w wr (keepE (X.take j) ++ (M ++ X.drop j))) (fun _ sj _ => n - (intOf sj).toNat)
    case atStart => exact ⟨i, i + 1, [x], rfl, by go_num, by omega, by omega, by rw [HK0.out.1, List.length_take, HLN.out]; omega, by simp, by rw [HK0.out.1]; exact HK0.out.2⟩
    case round =>
      obtain ⟨wk, rfl⟩ : ∃ W, W = wr := ⟨_, rfl⟩
      clear HK0
      obtain ⟨i, j, M, rfl, rfl, hij, hjn, hki, hM, hs⟩ := hrel
      have HKI := Lib.hid hki
      have HM := Lib.hid hM
      have HSS := Lib.hid hs
      clear hki hM
      by_cases hlt : j < n
      case neg =>
        obtain rfl : j = n := by omega
        have hXj : X.take j = X := List.take_of_length_le (by rw [HLN.out]; exact Nat.le_refl _)
        have HXJ := Lib.hid hXj
        have hlen := hs.row
        have hcell : ∀ t, t < (j - i) * 2 → (wk.cell? ⟨g, i * 2 + t, none⟩).isSome = true := fun t ht => by
          have h1 := hs.row.1
          rw [hs.row.cellAt _ (by omega), List.getElem?_eq_getElem (by omega)]
          rfl
        have CLR := Lib.hid (fun (ty : TypeId) => run_clear_mon Tryz.prog wk 24 56 ty (.agg #[.int .i64 0, .slice none 0 0]) Tryz.underlying24 (fun _ => by rfl) rfl g (i * 2) (j - i) (cap - i) (by omega) hcell (fun t _ => hs.row.frozenAt _))
        obtain ⟨vs, hclr⟩ := CLR.out 0
        have HE := Lib.hid (show Struck 56 g cap w X (.returned (.slice (some ⟨g, 0, none⟩) i cap)) (wk.setCells g (i * 2) vs) from by
          obtain ⟨h2, cs', h3, h4⟩ := row_setCells (m := i * 2) vs (i * 2) wk _ hs.row (Nat.le_refl _)
          have hki := HKI.out
          rw [hXj] at hki h4
          refine ⟨by rw [hki], hs.only.trans h2, ?_⟩
          rw [hki]
          have h5 := row_shrink h3 (m := i) (by omega)
          rw [h4, rowS_append, List.take_append_of_le_length (by rw [rowS_length, hki]; exact Nat.le_refl _), List.take_of_length_le (by rw [rowS_length, hki]; exact Nat.le_refl _)] at h5
          exact h5)
        clear hs hlen hcell hXj
        go_wp2
        go_ret
        exact HE.out
      obtain ⟨x, hx⟩ : ∃ x, X[j]? = some x := ⟨_, List.getElem?_eq_getElem (by rw [HLN.out]; exact hlt)⟩
      have hdx : X.drop j = x :: X.drop (j + 1) := by
        obtain ⟨h1, h2⟩ := List.getElem?_eq_some_iff.1 hx
        rw [List.drop_eq_getElem_cons h1, h2]
      rw [hdx] at hs
      have hjl : (keepE (X.take j) ++ M).length = j := by rw [List.length_append, HKI.out, HM.out]; omega
      obtain ⟨hc0, hc1, _, _⟩ := hs.cells (k := j) (x := x) (by rw [← List.append_assoc]; exact at_mid hjl)
      have hbx : Below wk.heap.size wk (wk.alloc (.cells #[.int .i64 x.c, x.v] 56)) := (Below.refl _ _).alloc (Nat.le_refl _) _
      have HBX := Lib.hid hbx
      have HSB := Lib.hid (fun (w' : World) (hb : Below wk.heap.size wk w') => hs.below hb)
      have HX := Lib.hid hx
      by_cases hz : x.c = 0
      · have IZ := Lib.hid (fun W : World => isz_any x.c x.v (b := true) W (by simpa using hz))
        have HN := Lib.hid (show (keepE (X.take (j + 1))) = keepE (X.take j) from by rw [take_snoc hx, keepE_snoc, if_pos hz, List.append_nil])
        clear hz hx hdx hs hjl hbx
        go_wp2_with fail
        refine (IZ.out _).mono ?_
        rintro e w2 ⟨rfl, hb2⟩
        have HS2 := Lib.hid (HSB.out w2 (HBX.out.trans (hb2.mono HBX.out.size)))
        clear hb2 hc0 hc1
        go_wp2
        go_roundw
        case rel => exact ⟨i, j + 1, M ++ [x], rfl, by go_num, by omega, by omega, by rw [HN.out]; exact HKI.out, by have := HM.out; simp; omega, by rw [HN.out]; simpa using HS2.out⟩
        case measure => (simp [intOf]; try omega)
      · have IZ := Lib.hid (fun W : World => isz_any x.c x.v (b := false) W (by simpa using hz))
        have HN := Lib.hid (show (keepE (X.take (j + 1))) = keepE (X.take j) ++ [x] from by rw [take_snoc hx, keepE_snoc, if_neg hz])
        obtain ⟨m0, M1, hM1⟩ : ∃ m0 M1, M = m0 :: M1 := by
          cases M with
          | nil => exfalso; have := HM.out; simp at this; omega
          | cons m0 M1 => exact ⟨m0, M1, rfl⟩
        subst hM1
        have hiI : (i : Int) < n := by omega
        clear hz hx hdx hs hjl hbx
        go_wp2_with fail
        refine (IZ.out _).mono ?_
        rintro e w2 ⟨rfl, hb2⟩
        have hs2 := HSB.out w2 (HBX.out.trans (hb2.mono HBX.out.size))
        obtain ⟨g0, g1, g2, g3⟩ := hs2.cells (k := i) (x := m0) (at_mid HKI.out)
        have hbc0 : w2.cell? ⟨wk.heap.size, 0, none⟩ = some (.int .i64 x.c) := cell_below hb2 (by simp)
        have hbc1 : w2.cell? ⟨wk.heap.size, 1, none⟩ = some x.v := cell_below hb2 (by simp)
        have HP := Lib.hid (hs2.put (k := i) (x := m0) (at_mid HKI.out) x)
        have HP2 := Lib.hid (show SSt 56 g n cap w ((w2.setCell ⟨g, i * 2, none⟩ (.int .i64 x.c)).setCell ⟨g, i * 2 + 1, none⟩ x.v) (keepE (X.take (j + 1)) ++ ((M1 ++ [x]) ++ X.drop (j + 1))) from by
          have h1 := HP.out
          rw [List.cons_append, set_mid' HKI.out] at h1
          rw [HN.out]
          simpa using h1)
        clear hb2 hc0 hc1 hs2
        go_wp2
        go_roundw
        case rel => exact ⟨i + 1, j + 1, M1 ++ [x], by go_num, by go_num, by omega, by omega, by rw [HN.out, List.length_append, HKI.out]; rfl, by have := HM.out; simp at this ⊢; omega, HP2.out⟩
        case measure => (simp [intOf]; try omega)
end Go.Proofs.YtbcjhpgkodeoeaaGreatDoor

/- slices.Equal at []int. Conditions: none. -/
namespace Go.Proofs.YtbcjhpgkodeoeaaGreatDoor
open Go.RowKit Go.Sort

theorem take_eq_next {xs ys : List Int} {k : Nat} {x : Int} (h : xs.take k = ys.take k) (hx : xs[k]? = some x) (hy : ys[k]? = some x) : xs.take (k + 1) = ys.take (k + 1) := by
  rw [take_snoc hx, take_snoc hy, h]

set_option maxHeartbeats 800000 in
theorem equal_any (va vb : Value) (xs ys : List Int) (w : World) (ha : RdI w va xs) (hb : RdI w vb ys) :
    Calls Tryz.prog 110 #[va, vb] w (Qt (.bool (decide (xs = ys))) w) := by
  obtain ⟨ad, len, cap, rfl, hl, hlc, hcm, h'⟩ := rdS_open ha
  obtain ⟨ad2, len2, cap2, rfl, hl2, hlc2, hcm2, h2'⟩ := rdS_open hb
  have HL := Lib.hid hl
  have HL2 := Lib.hid hl2
  clear ha hb hl hl2
  by_cases hll : len = len2
  case neg =>
    have HN := Lib.hid (show decide (xs = ys) = false by rw [decide_eq_false]; intro e; apply hll; rw [← HL.out, ← HL2.out, e])
    have hb1 : ((len : Int) != len2) = true := by simp; omega
    go_enter Tryz.func110, Tryz.ntmps110
    go_wp2
    go_ret
    exact ⟨ret_bool HN.out.symm, 0, rfl⟩
  subst hll
  go_enter Tryz.func110, Tryz.ntmps110
  go_wp2
  go_loopw [13] (fun i wr => ∃ k : Nat, k ≤ len ∧ i = .int .i64 k ∧ xs.take k = ys.take k ∧ ∃ m, wr = w.drewN m) (fun i _ => len - (intOf i).toNat)
  case atStart => exact ⟨0, Nat.zero_le _, rfl, by simp, 0, rfl⟩
  case round =>
    obtain ⟨k, hk, rfl, ht, m, hwr⟩ := hrel
    have h'r := rdI_drewN m h'
    have h2'r := rdI_drewN m h2'
    rw [← hwr] at h'r h2'r
    have HW := Lib.hid hwr
    have HT := Lib.hid ht
    clear ht hwr
    by_cases hlt : k < len
    · obtain ⟨b, off, x, rfl, hx, hc, hI, _⟩ := rdI_get h'r hlt
      obtain ⟨b2, off2, y, rfl, hy, hc2, hI2, _⟩ := rdI_get h2'r hlt
      have HX := Lib.hid hx
      have HY := Lib.hid hy
      clear hx hy
      by_cases hxy : x = y
      · subst hxy
        go_wp2
        go_quiet (fail)
        go_wp2
        go_roundw
        case rel => exact ⟨k + 1, by omega, by go_num, take_eq_next HT.out HX.out HY.out, _, by rw [HW.out, World.drewN_drewN]⟩
        case measure => simp [intOf]; omega
      · have HN := Lib.hid (show decide (xs = ys) = false by
          rw [decide_eq_false]
          intro e
          apply hxy
          have h1 := HX.out
          rw [e, HY.out] at h1
          exact (Option.some.inj h1).symm)
        have hb1 : (x != y) = true := by simpa using hxy
        go_wp2
        go_quiet (fail)
        go_wp2
        go_ret
        exact ⟨ret_bool HN.out.symm, _, by rw [HW.out, World.drewN_drewN]⟩
    · go_wp2
      go_ret
      have e := HT.out
      rw [List.take_of_length_le (by rw [HL.out]; omega), List.take_of_length_le (by rw [HL2.out]; omega)] at e
      exact ⟨ret_bool (decide_eq_true e).symm, m, HW.out⟩
theorem equal_eq {c : Bool} (va vb : Value) (xs ys : List Int) (w : World) (ha : RdI w va xs) (hb : RdI w vb ys) (h : decide (xs = ys) = c) :
    Calls Tryz.prog 110 #[va, vb] w (Qt (.bool c) w) := h ▸ equal_any va vb xs ys w ha hb
end Go.Proofs.YtbcjhpgkodeoeaaGreatDoor
