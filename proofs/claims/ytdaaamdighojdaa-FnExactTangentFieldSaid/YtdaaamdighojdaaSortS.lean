/- Sorting monomials in place: block by block, then merged. Conditions: none. -/
import Derived.Test.YtdaaamdighojdaaSortG
set_option linter.unusedSimpArgs false
set_option linter.unusedVariables false
namespace Go.Proofs.Ytdaaamdighojdaa
open Go.RowKit Go.Sort

theorem insSort_z (g n cap : Nat) (A L C : List ElS) {a b : Int} (w0 w : World) (h : SSt 91 g n cap w0 w (A ++ (L ++ C))) (ha : a = (A.length : Nat)) (hb : b = (A.length + L.length : Nat)) (hn : n ≤ 1048576) (HX : ReadS g w0 L) :
    Calls Try.prog 153 #[.slice (some ⟨g, 0, none⟩) n cap, .int .i64 a, .int .i64 b, .func (.func 129) #[] #[]] w (Sorted1 91 g n cap w0 A L C) := by
  subst ha hb
  exact insSort_any g n cap A L C _ _ w0 w h rfl rfl hn HX

/-- Sorted blocks of one length, and a rest. -/
def BlkS (s : Nat) (Ls : List (List ElS)) : Prop := ∀ l ∈ Ls, l.length = s ∧ SrtS l
theorem blk_len {s : Nat} : ∀ {Ls : List (List ElS)}, BlkS s Ls → Ls.flatten.length = Ls.length * s
  | [], _ => by simp
  | l :: Ls, h => by
    have h1 := (h l (by simp)).1
    have h2 := blk_len (Ls := Ls) (fun x hx => h x (by simp [hx]))
    rw [List.flatten_cons, List.length_append, h1, h2, List.length_cons, Nat.succ_mul]
    omega
theorem blk_snoc {s : Nat} {Ls : List (List ElS)} {l : List ElS} (h : BlkS s Ls) (h1 : l.length = s) (h2 : SrtS l) : BlkS s (Ls ++ [l]) := fun x hx => by
  rw [List.mem_append, List.mem_singleton] at hx
  rcases hx with hx | rfl
  · exact h x hx
  · exact ⟨h1, h2⟩
theorem blk_two {s : Nat} {Ls : List (List ElS)} {T : List ElS} {a n : Nat} (h : BlkS s Ls) (hT : T.length < s) (hn : a + Ls.flatten.length + T.length = n) (hb : a + 2 * s ≤ n) : ∃ l1 l2 Ls', Ls = l1 :: l2 :: Ls' := by
  match Ls, h, hn with
  | [], _, hn => simp at hn; omega
  | [l], h, hn =>
    have := (h l (by simp)).1
    simp at hn
    omega
  | l1 :: l2 :: Ls', _, _ => exact ⟨l1, l2, Ls', rfl⟩
theorem blk_few {s : Nat} {Ls : List (List ElS)} {T : List ElS} {a n : Nat} (h : BlkS s Ls) (hn : a + Ls.flatten.length + T.length = n) (hs : 0 < s) (hb : ¬ a + 2 * s ≤ n) : Ls = [] ∨ ∃ l, Ls = [l] := by
  match Ls, h, hn with
  | [], _, hn => left; rfl
  | [l], _, hn => right; exact ⟨l, rfl⟩
  | l1 :: l2 :: Ls', h, hn =>
    exfalso
    have h1 := (h l1 (by simp)).1
    have h2 := (h l2 (by simp)).1
    simp only [List.flatten_cons, List.length_append] at hn
    omega

set_option maxRecDepth 100000 in
set_option maxHeartbeats 3200000 in
theorem stable_any (g n cap : Nat) (X : List ElS) (w0 w : World) (h : SSt 91 g n cap w0 w X) (hn : n ≤ 1048576) (HX : ReadS g w0 X) :
    Calls Try.prog 145 #[.slice (some ⟨g, 0, none⟩) n cap, .int .i64 n, .func (.func 129) #[] #[]] w (Sorted1 91 g n cap w0 [] X []) := by
  have hln := h.len
  have HLN := Lib.hid hln
  have HS := Lib.hid h
  have HXX := Lib.hid HX
  clear h HX hln
  go_enter Try.func145, Try.ntmps145
  go_wp2
  go_loopw [7, 8] (fun sa sb wr => ∃ (Ls : List (List ElS)) (T : List ElS) (a b : Nat), sa = .int .i64 a ∧ sb = .int .i64 b ∧ a ≤ n ∧ b = a + 20 ∧ a = Ls.length * 20 ∧ (Ls.flatten ++ T).Perm X ∧ BlkS 20 Ls ∧ SSt 91 g n cap w0 wr (Ls.flatten ++ T)) (fun sa _ _ => n - (intOf sa).toNat)
  case atStart => exact ⟨[], X, 0, 20, rfl, rfl, Nat.zero_le _, rfl, rfl, by simp, (fun l hl => by cases hl), by simpa using HS.out⟩
  case round =>
    obtain ⟨wk, rfl⟩ : ∃ W, W = wr := ⟨_, rfl⟩
    obtain ⟨Ls, T, a, b, rfl, rfl, han, hba, hal, hp, hbl, hs⟩ := hrel
    have hfl := blk_len hbl
    have hln := hs.len
    rw [List.length_append, hfl, ← hal] at hln
    have HAL := Lib.hid hal
    have HBA := Lib.hid hba
    have HP := Lib.hid hp
    have HBL := Lib.hid hbl
    have HSS := Lib.hid hs
    have HFL := Lib.hid (hfl.trans hal.symm)
    have HTL := Lib.hid (show T.length = n - a by omega)
    by_cases hbn : b ≤ n
    case pos =>
      have IS := Lib.hid (insSort_z g n cap Ls.flatten (T.take 20) (T.drop 20) (a := a) (b := b) w0 wk (by rw [List.take_append_drop]; exact hs) (by rw [HFL.out]) (by rw [HFL.out, List.length_take, HTL.out]; omega) hn (fun z hz => (HXX.out.perm hp) z (by rw [List.mem_append]; right; exact List.mem_of_mem_take hz)))
      clear hba hal hp hbl hs hfl hln
      go_wp2_with fail
      refine IS.out.mono ?_
      rintro e' w1 ⟨rfl, S, hSp, hSs, hs1⟩
      have hS20 : S.length = 20 := by rw [hSp.length_eq, List.length_take, HTL.out]; have := HBA.out; omega
      have HN := Lib.hid (show ((Ls ++ [S]).flatten ++ T.drop 20).Perm X ∧ BlkS 20 (Ls ++ [S]) ∧ SSt 91 g n cap w0 w1 ((Ls ++ [S]).flatten ++ T.drop 20) from ⟨by
        refine List.Perm.trans ?_ HP.out
        rw [List.flatten_append, List.flatten_singleton, List.append_assoc]
        refine List.Perm.append_left _ ?_
        have := hSp.append_right (T.drop 20)
        rwa [List.take_append_drop] at this, blk_snoc HBL.out hS20 hSs, by simpa using hs1⟩)
      clear hSp hSs hs1 hS20
      go_wp2
      go_roundw
      case rel => exact ⟨Ls ++ [S], T.drop 20, b, b + 20, rfl, by go_num, hbn, rfl, by have := HAL.out; have := HBA.out; rw [List.length_append, List.length_singleton]; omega, HN.out.1, HN.out.2.1, HN.out.2.2⟩
      case measure => (have := HBA.out; simp [intOf]; try omega)
    case neg =>
      have IS := Lib.hid (insSort_z g n cap Ls.flatten T [] (a := a) (b := n) w0 wk (by simpa using hs) (by rw [HFL.out]) (by rw [HFL.out, HTL.out]; omega) hn (fun z hz => (HXX.out.perm hp) z (by rw [List.mem_append]; right; exact hz)))
      clear hba hal hp hbl hs hfl hln
      go_wp2_with fail
      refine IS.out.mono ?_
      rintro e' w1 ⟨rfl, S, hSp, hSs, hs1⟩
      have h0 : ∃ (Ls : List (List ElS)) (T : List ElS), (Ls.flatten ++ T).Perm X ∧ BlkS 20 Ls ∧ T.length < 20 ∧ SrtS T ∧ SSt 91 g n cap w0 w1 (Ls.flatten ++ T) :=
        ⟨Ls, S, (hSp.append_left Ls.flatten).trans HP.out, HBL.out, by rw [hSp.length_eq, HTL.out]; have := HBA.out; omega, hSs, by simpa using hs1⟩
      have H0 := Lib.hid h0
      clear h0 hSp hSs hs1
      go_wp2
      go_loopw [6] (fun ss wr => ∃ (s : Nat) (Ls : List (List ElS)) (T : List ElS), ss = .int .i64 s ∧ 20 ≤ s ∧ s ≤ 4000000 ∧ (Ls.flatten ++ T).Perm X ∧ BlkS s Ls ∧ T.length < s ∧ SrtS T ∧ SSt 91 g n cap w0 wr (Ls.flatten ++ T)) (fun ss _ => n - (intOf ss).toNat)
      case atStart =>
        obtain ⟨Ls1, T1, g1, g2, g3, g4, g5⟩ := H0.out
        exact ⟨20, Ls1, T1, rfl, Nat.le_refl _, by omega, g1, g2, g3, g4, g5⟩
      case round =>
        obtain ⟨wz, rfl⟩ : ∃ W, W = wr := ⟨_, rfl⟩
        clear IS H0 HTL HFL HSS HBL HP HBA HAL
        clear han hbn
        obtain ⟨s, Ks, U, rfl, hs20, hs4, hp, hbl, hU, hUs, hs⟩ := hrel
        have hln := hs.len
        rw [List.length_append] at hln
        by_cases hsn : s < n
        case neg =>
          have hE : ∃ S, S.Perm X ∧ SrtS S ∧ SSt 91 g n cap w0 wz ([] ++ (S ++ [])) := by
            refine ⟨Ks.flatten ++ U, hp, ?_, by simpa using hs⟩
            rcases blk_few (a := 0) (T := U) (n := n) hbl (by omega) (by omega) (by omega) with rfl | ⟨l, rfl⟩
            · simpa using hUs
            · have h1 := (hbl l (by simp)).1
              have hU0 : U = [] := List.eq_nil_of_length_eq_zero (by simp at hln; omega)
              rw [hU0]
              simpa using (hbl l (by simp)).2
          have HE := Lib.hid hE
          clear hE hp hbl hU hUs hs hln
          go_wp2
          go_end0
          exact ⟨rfl, HE.out⟩
        case pos =>
          have h0 : ∃ (Ds Ls : List (List ElS)) (T : List ElS), Ds.flatten.length = 0 ∧ (Ds.flatten ++ (Ls.flatten ++ T)).Perm X ∧ BlkS (2 * s) Ds ∧ BlkS s Ls ∧ T.length < s ∧ SrtS T ∧ SSt 91 g n cap w0 wz (Ds.flatten ++ (Ls.flatten ++ T)) := ⟨[], Ks, U, rfl, by simpa using hp, (fun l hl => by cases hl), hbl, hU, hUs, by simpa using hs⟩
          have H0 := Lib.hid h0
          have hs2 : s ≤ 2000000 := by omega
          clear h0 hp hbl hU hUs hs hln
          go_wp2
          go_loopw [7, 8] (fun sa sb wr => ∃ (a b : Nat) (Ds Ls : List (List ElS)) (T : List ElS), sa = .int .i64 a ∧ sb = .int .i64 b ∧ b = a + 2 * s ∧ a ≤ n ∧ Ds.flatten.length = a ∧ (Ds.flatten ++ (Ls.flatten ++ T)).Perm X ∧ BlkS (2 * s) Ds ∧ BlkS s Ls ∧ T.length < s ∧ SrtS T ∧ SSt 91 g n cap w0 wr (Ds.flatten ++ (Ls.flatten ++ T))) (fun sa _ _ => n - (intOf sa).toNat)
          case atStart =>
            obtain ⟨Ds1, Ls1, T1, g1, g2, g3, g4, g5, g6, g7⟩ := H0.out
            exact ⟨0, 2 * s, Ds1, Ls1, T1, rfl, by go_num, by omega, Nat.zero_le _, g1, g2, g3, g4, g5, g6, g7⟩
          case round =>
            obtain ⟨wy, rfl⟩ : ∃ W, W = wr := ⟨_, rfl⟩
            clear H0
            obtain ⟨a, b, Ds, Ls, T, rfl, rfl, hba, han, hda, hp, hbd, hbl, hT, hTs, hs⟩ := hrel
            have hln := hs.len
            rw [List.length_append, List.length_append, hda] at hln
            have HDA := Lib.hid hda
            have HBA := Lib.hid hba
            have HBD := Lib.hid hbd
            have hb8 : b ≤ 8000000 := by omega
            by_cases hbn : b ≤ n
            case pos =>
              obtain ⟨l1, l2, Ls', rfl⟩ := blk_two (a := a) (n := n) hbl hT (by omega) (by omega)
              have e1 := (hbl l1 (by simp))
              have e2 := (hbl l2 (by simp))
              have hbl' : BlkS s Ls' := fun x hx => hbl x (by simp [hx])
              have SM := Lib.hid (symMerge_any g n cap Ds.flatten l1 l2 (Ls'.flatten ++ T) (za := a) (zm := (a : Int) + s) (zb := b) w0 wy (by simpa using hs) (by rw [hda]) (by rw [hda, e1.1]; omega) (by rw [hda, e1.1, e2.1]; omega) (by omega) (by omega) hn e1.2 e2.2 (fun z hz => (HXX.out.perm hp) z (by
                rw [List.mem_append] at hz
                simp only [List.mem_append, List.flatten_cons]
                exact hz.elim (fun h => .inr (.inl (.inl h))) (fun h => .inr (.inl (.inr (.inl h)))))))
              have HP := Lib.hid hp
              have HBL := Lib.hid hbl'
              have HE1 := Lib.hid e1.1
              have HE2 := Lib.hid e2.1
              have HTS := Lib.hid hTs
              clear hba hda hp hbd hbl hs hln e1 e2 hbl' hTs
              go_wp2_with fail
              refine SM.out.mono ?_
              rintro e' w1 ⟨rfl, S, hSp, hSs, hs1⟩
              have hSl : S.length = 2 * s := by rw [hSp.length_eq, List.length_append, HE1.out, HE2.out]; omega
              have HN := Lib.hid (show (Ds ++ [S]).flatten.length = b ∧ ((Ds ++ [S]).flatten ++ (Ls'.flatten ++ T)).Perm X ∧ BlkS (2 * s) (Ds ++ [S]) ∧ SSt 91 g n cap w0 w1 ((Ds ++ [S]).flatten ++ (Ls'.flatten ++ T)) from ⟨by
                rw [List.flatten_append, List.flatten_singleton, List.length_append, HDA.out, hSl, HBA.out], by
                refine List.Perm.trans ?_ HP.out
                rw [List.flatten_append, List.flatten_singleton, List.append_assoc]
                refine List.Perm.append_left _ ?_
                have := hSp.append_right (Ls'.flatten ++ T)
                simpa using this, blk_snoc HBD.out hSl hSs, by simpa using hs1⟩)
              clear hSp hSs hs1 hSl
              go_wp2
              go_roundw
              case rel => exact ⟨b, b + 2 * s, Ds ++ [S], Ls', T, rfl, by go_num, rfl, hbn, HN.out.1, HN.out.2.1, HN.out.2.2.1, HBL.out, hT, HTS.out, HN.out.2.2.2⟩
              case measure => (have := HBA.out; simp [intOf]; try omega)
            case neg =>
              have hfew := blk_few (a := a) (T := T) (n := n) hbl (by omega) (by omega) (by omega)
              by_cases hmn : a + s < n
              · rcases hfew with rfl | ⟨l, rfl⟩
                · exfalso; simp at hln; omega
                have e1 := (hbl l (by simp))
                have hT0 : 0 < T.length := by simp at hln; omega
                have SM := Lib.hid (symMerge_any g n cap Ds.flatten l T [] (za := a) (zm := (a : Int) + s) (zb := n) w0 wy (by simpa using hs) (by rw [hda]) (by rw [hda, e1.1]; omega) (by rw [hda]; simp at hln; omega) (by omega) hT0 hn e1.2 hTs (fun z hz => (HXX.out.perm hp) z (by
                  rw [List.mem_append] at hz
                  simp only [List.mem_append, List.flatten_singleton]
                  exact hz.elim (fun h => .inr (.inl h)) (fun h => .inr (.inr h)))))
                have HP := Lib.hid hp
                have HE1 := Lib.hid e1.1
                clear hba hda hp hbd hbl hs hln e1 hTs hT0
                go_wp2_with fail
                refine SM.out.mono ?_
                rintro e' w1 ⟨rfl, S, hSp, hSs, hs1⟩
                have HN := Lib.hid (show (Ds.flatten ++ S).Perm X ∧ S.length < s * 2 ∧ SrtS S ∧ SSt 91 g n cap w0 w1 (Ds.flatten ++ S) from ⟨by
                  refine List.Perm.trans ?_ HP.out
                  refine List.Perm.append_left _ ?_
                  simpa using hSp, by rw [hSp.length_eq, List.length_append, HE1.out]; omega, hSs, by simpa using hs1⟩)
                clear hSp hSs hs1
                go_wp2
                go_roundw
                case rel => exact ⟨s * 2, Ds, S, by go_num, by omega, by omega, HN.out.1, by rw [Nat.mul_comm]; exact HBD.out, HN.out.2.1, HN.out.2.2.1, HN.out.2.2.2⟩
                case measure => (simp [intOf]; try omega)
              · have hN : ∃ S, (Ds.flatten ++ S).Perm X ∧ S.length < s * 2 ∧ SrtS S ∧ SSt 91 g n cap w0 wy (Ds.flatten ++ S) := by
                  rcases hfew with rfl | ⟨l, rfl⟩
                  · exact ⟨T, by simpa using hp, by omega, hTs, by simpa using hs⟩
                  · have e1 := (hbl l (by simp))
                    have hT0 : T = [] := List.eq_nil_of_length_eq_zero (by simp at hln; omega)
                    subst hT0
                    exact ⟨l, by simpa using hp, by omega, e1.2, by simpa using hs⟩
                have HN := Lib.hid hN
                clear hba hda hp hbd hbl hs hln hTs hfew hN
                go_wp2
                go_roundw
                case rel =>
                  obtain ⟨S, k1, k2, k3, k4⟩ := HN.out
                  exact ⟨s * 2, Ds, S, by go_num, by omega, by omega, k1, by rw [Nat.mul_comm]; exact HBD.out, k2, k3, k4⟩
                case measure => (simp [intOf]; try omega)
end Go.Proofs.Ytdaaamdighojdaa
