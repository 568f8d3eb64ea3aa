/- ref01.word: the contract. -/
import Derived.Test.YtfipljhlponcoaaDoorLineB
import Derived.Test.YtfipljhlponcoaaDoorShowW
import Derived.Test.YtfipljhlponcoaaDoorHeld
import Derived.IntWalk
import Derived.StillTailTactics
set_option linter.unusedVariables false
namespace Go.Proofs.YtfipljhlponcoaaDoor
open Go.RowKit
theorem own_none (w : World) (base : Nat) : Own w base none 0 0 [] := ⟨rfl, World.ownsRow_nil _ _ _ _⟩
theorem own_snoc {w : World} {base n : Nat} {v : Value} {l : List Nat} {c : Nat} (hn : n = l.length) (h : w.ownsRow base 5 1 v (n + 1) (bV l ++ [.int .u8 (c : Int)])) : ∃ A' c', v = .slice A' (n + 1) c' ∧ Own w base A' (n + 1) c' (l ++ [c]) := by
  obtain ⟨A, c', rfl⟩ := own_shape h
  refine ⟨A, c', rfl, by simp [hn], ?_⟩
  rw [bV_app]
  exact h
theorem nl_all {s : ByteArray} {W : List Nat} (h : nl (s.extract 0 s.size) = W) : nl s = W := by
  rwa [nl_extract, List.drop_zero, List.take_of_length_le (by rw [nl_len]; omega)] at h
theorem ret_word {t : ByteArray} {a b : Int} (h : a = b) : Ending.returned (.tuple #[.string t, .int .i64 a]) = .returned (.tuple #[.string t, .int .i64 b]) := by rw [h]
set_option maxRecDepth 100000 in
set_option maxHeartbeats 16000000 in
theorem rword_plain (s : ByteArray) (w : World) (hs : s.size ≤ 1048576) (hp : ∀ h : 0 < s.size, s[0].toNat ≠ 34) :
    Calls Tryd.prog 54 #[.string s] w fun e w' => ∃ t, e = .returned (.tuple #[.string t, .int .i64 (rword (nl s)).2]) ∧ nl t = (rword (nl s)).1 ∧ Below w.heap.size w w' := by
  rw [rword_p hp]
  have HZ := Lib.hid (strn_nil (s := s))
  have HN := Lib.hid (strn_ne (s := s))
  have HP := Lib.hid hp
  have hfin : ∀ k, k ≤ s.size → ((nl s).take k).all (fun c => c != 32) = true → (¬ k < s.size ∨ ∃ h : k < s.size, s[k].toNat = 32) → nl (s.extract 0 k) = (nl s).take (spN (nl s)) ∧ spN (nl s) = k := fun k hk ha hf => by
    have e := sp_at hk ha hf
    rw [e, nl_extract]
    exact ⟨by simp, rfl⟩
  have HF := Lib.hid hfin
  clear hp hfin
  generalize (nl s).take (spN (nl s)) = W at HF ⊢
  generalize spN (nl s) = N at HF ⊢
  rcases Nat.eq_zero_or_pos s.size with h0 | h0
  · obtain ⟨e1, e2⟩ := HZ.out h0
    obtain ⟨f1, f2⟩ := HF.out 0 (by omega) rfl (.inl (by omega))
    have F1 := Lib.hid f1
    have F2 := Lib.hid f2
    have H0 := Lib.hid h0
    clear f1 f2
    go_enter Tryd.func54, Tryd.ntmps54
    go_wp2_with fail
    go_loop [4] (fun i => i = .int .i64 0) (fun i => 0)
    case atStart => rfl
    case round =>
      subst hrel
      have hki : ¬ (0 : Int) < (s.size : Int) := by have := H0.out; omega
      have hkz : (0 : Int) ≤ (s.size : Int) := by omega
      go_wp2_with fail
      go_ret2
      exact ⟨ByteArray.empty, ret_word (a := 0) (b := (N : Int)) (by rw [F2.out]; rfl), by have h := F1.out; rw [nl_extract] at h; simpa [nl] using h, Below.refl _ _⟩
  · have hp0 := HP.out h0
    obtain ⟨c0, hc0⟩ : ∃ c0 : Nat, s[0].toNat = c0 := ⟨_, rfl⟩
    rw [hc0] at hp0
    have hp1 : ((c0 : Int) != 34) = true := by simp; omega
    obtain ⟨e1, e2⟩ := HN.out (by omega)
    go_enter Tryd.func54, Tryd.ntmps54
    go_wp2_with fail
    clear hp0 hp1 hc0
    go_loop [4] (fun i => ∃ k : Nat, k ≤ s.size ∧ i = .int .i64 k ∧ ((nl s).take k).all (fun c => c != 32) = true) (fun i => s.size - (intOf i).toNat)
    case atStart => exact ⟨0, by omega, rfl, rfl⟩
    case round =>
      obtain ⟨k, hk, rfl, hall⟩ := hrel
      have H := Lib.hid hall
      clear hall
      by_cases hlt : k < s.size
      · have hki : (k : Int) < (s.size : Int) := by omega
        by_cases hc : s[k].toNat = 32
        · have HC := Lib.hid hc
          obtain ⟨f1, f2⟩ := HF.out k hk H.out (.inr ⟨hlt, hc⟩)
          have F1 := Lib.hid f1
          have F2 := Lib.hid f2
          clear f1 f2
          have hkz : (k : Int) ≤ (s.size : Int) := by omega
          go_wp2_with fail
          go_ret2
          exact ⟨s.extract 0 k, ret_word (by rw [F2.out]), F1.out, Below.refl _ _⟩
        · have HC := Lib.hid hc
          obtain ⟨c, hcc⟩ : ∃ c : Nat, s[k].toNat = c := ⟨_, rfl⟩
          rw [hcc] at hc
          have hd : ((c : Int) != 32) = true := by simp; omega
          go_wp2_with fail
          go_round
          case rel => exact ⟨k + 1, by omega, by go_num, nl_take_all s k hlt _ H.out (by simpa using HC.out)⟩
          case measure => simp [intOf]; omega
      · obtain rfl : k = s.size := by omega
        obtain ⟨f1, f2⟩ := HF.out _ hk H.out (.inl hlt)
        have F1 := Lib.hid f1
        have F2 := Lib.hid f2
        clear f1 f2
        have hki : ¬ (s.size : Int) < (s.size : Int) := by omega
        go_wp2_with fail
        go_ret2
        exact ⟨s, ret_word (by rw [F2.out]), nl_all F1.out, Below.refl _ _⟩
set_option maxRecDepth 100000 in
set_option maxHeartbeats 16000000 in
theorem rword_quoted (s : ByteArray) (w : World) (hs : s.size ≤ 1048576) (h0 : 0 < s.size) (h34 : s[0].toNat = 34) :
    Calls Tryd.prog 54 #[.string s] w fun e w' => ∃ t, e = .returned (.tuple #[.string t, .int .i64 (rword (nl s)).2]) ∧ nl t = (rword (nl s)).1 ∧ Below w.heap.size w w' := by
  rw [rword_q h0 h34]
  obtain ⟨i0, fi, fz0, fz1, fz2⟩ := info_parts Tryd.info5
  have hst : RQ s (rq ((nl s).drop 1)).1 (1 + (rq ((nl s).drop 1)).2) 1 [] := ⟨rfl, rfl, by simp⟩
  have HM := Lib.hid (show ((min (2 + (rq ((nl s).drop 1)).2) s.size : Nat) : Int) = min (((1 + (rq ((nl s).drop 1)).2 : Nat) : Int) + 1) (s.size : Int) from by omega)
  have HST := Lib.hid hst
  have HL := Lib.hid (show ∀ x ∈ (rq ((nl s).drop 1)).1, x < 256 from rq_lt (drop_lt (nl_lt s) 1))
  generalize ((min (2 + (rq ((nl s).drop 1)).2) s.size : Nat) : Int) = M at HM ⊢
  generalize 1 + (rq ((nl s).drop 1)).2 = N at HM HST
  generalize (rq ((nl s).drop 1)).1 = W at HST HL ⊢
  clear hst
  obtain ⟨e1, e2⟩ := strn_ne (s := s) (by omega)
  have h34d : ((34 : Int) != 34) = false := by decide
  go_enter Tryd.func54, Tryd.ntmps54
  go_wp2_with fail
  clear h34 e1 e2 h34d
  go_loopw [5, 6] (fun v i wx => ∃ (k n c : Nat) (A : Option Addr) (l : List Nat), v = .slice A n c ∧ i = .int .i64 k ∧ k ≤ s.size ∧ Own wx w.heap.size A n c l ∧ RQ s W N k l ∧ Below w.heap.size w wx) (fun _ i _ => s.size - (intOf i).toNat)
  case atStart => exact ⟨1, 0, 0, none, [], rfl, rfl, h0, own_none _ _, HST.out, Below.refl _ _⟩
  case round =>
    obtain ⟨k, n, c, A, l, rfl, rfl, hk, hown, hrq, hb⟩ := hrel
    have HO := Lib.hid hown
    have HB := Lib.hid hb
    have HQ := Lib.hid hrq
    have hn : n ≤ 1048576 := by have := hown.1; have := hrq.2.2; omega
    clear hown hrq
    by_cases hlt : k < s.size
    · have hki : (k : Int) < (s.size : Int) := by omega
      by_cases hq : s[k].toNat = 34
      · have hE := HQ.out.fin (.inr ⟨hlt, hq⟩)
        obtain ⟨t, ht, hnl⟩ := str_row (c := c) HO.out.1 (own_seg HO.out.2) (by rw [hE.1]; exact HL.out)
        have HE := Lib.hid hE
        have HT := Lib.hid hnl
        clear hE hnl
        have hki1 : (k : Int) + 1 ≤ (s.size : Int) := by omega
        go_wp2_with fail
        go_ret2
        exact ⟨t, ret_word (by rw [HM.out, HE.out.2]), by rw [HT.out, HE.out.1], HB.out⟩
      · obtain ⟨c0, hc0⟩ : ∃ c0 : Nat, s[k].toNat = c0 := ⟨_, rfl⟩
        have HC := Lib.hid hc0
        rw [hc0] at hq
        have hqd : ((c0 : Int) != 34) = true := by simp; omega
        by_cases h92 : c0 = 92
        · subst h92
          have h34n : s[k].toNat ≠ 34 := by rw [HC.out]; omega
          have m1 := Lib.hid (show n + 1 ≤ maxLen from by unfold maxLen; omega)
          have m2 := Lib.hid (show (n + 1) * 1 ≤ 140737488355328 from by omega)
          have hsz := HB.out.size
          have h92d : ((92 : Int) != 92) = false := by decide
          have H34 := Lib.hid h34n
          have adv2 := Lib.hid fun (hk1 : k + 1 < s.size) hn => HQ.out.adv hlt H34.out (rst_two hk1 HC.out hn)
          clear hq hqd h34n hb
          by_cases hk3 : k + 3 < s.size
          · have hk3i : (k : Int) + 3 < (s.size : Int) := by omega
            have hk1 : k + 1 < s.size := by omega
            have hk2 : k + 2 < s.size := by omega
            have hk1i : (k : Int) + 1 < (s.size : Int) := by omega
            have hk2i : (k : Int) + 2 < (s.size : Int) := by omega
            have adv4 := Lib.hid fun h1 h2 h3 => HQ.out.adv hlt H34.out (rst_four hk3 HC.out h1 h2 h3)
            obtain ⟨c1, hc1⟩ : ∃ c1 : Nat, s[k + 1].toNat = c1 := ⟨_, rfl⟩
            obtain ⟨c2, hc2⟩ : ∃ c2 : Nat, s[k + 2].toNat = c2 := ⟨_, rfl⟩
            obtain ⟨c3, hc3⟩ : ∃ c3 : Nat, s[k + 3].toNat = c3 := ⟨_, rfl⟩
            have HC1 := Lib.hid hc1
            have HC2 := Lib.hid hc2
            have HC3 := Lib.hid hc3
            have l2 : c2 < 256 := by rw [← hc2]; exact UInt8.toNat_lt _
            have l3 : c3 < 256 := by rw [← hc3]; exact UInt8.toNat_lt _
            by_cases h120 : c1 = 120
            · subst h120
              have b2 := hxV_le c2
              have b3 := hxV_le c3
              by_cases g2 : 0 ≤ hxV c2
              · have g2d : decide (0 ≤ hxV c2) = true := by simpa using g2
                by_cases g3 : 0 ≤ hxV c3
                · have g3d : decide (0 ≤ hxV c3) = true := by simpa using g3
                  have hA := adv4.out HC1.out (by rw [HC2.out]; exact g2) (by rw [HC3.out]; exact g3)
                  rw [HC2.out, HC3.out] at hA
                  obtain ⟨d2, hd2⟩ : ∃ d2 : Nat, hxV c2 = d2 := ⟨(hxV c2).toNat, by omega⟩
                  obtain ⟨d3, hd3⟩ : ∃ d3 : Nat, hxV c3 = d3 := ⟨(hxV c3).toNat, by omega⟩
                  have D2 := Lib.hid fun (w : World) => (by have h := digit_any c2 w (by omega); rw [hd2] at h; exact h : Calls Tryd.prog 77 #[.int .u8 (c2 : Int)] w fun e w' => e = .returned (.int .i64 (d2 : Int)) ∧ w = w')
                  have D3 := Lib.hid fun (w : World) => (by have h := digit_any c3 w (by omega); rw [hd3] at h; exact h : Calls Tryd.prog 77 #[.int .u8 (c3 : Int)] w fun e w' => e = .returned (.int .i64 (d3 : Int)) ∧ w = w')
                  rw [hd2, hd3] at hA
                  rw [hd2] at g2d b2
                  rw [hd3] at g3d b3
                  rw [show (16 * (d2 : Int) + (d3 : Int)).toNat = 16 * d2 + d3 from by omega] at hA
                  have HA := Lib.hid hA
                  have x1 : d2 ≤ 15 := by omega
                  have x2 : d3 ≤ 15 := by omega
                  clear hA adv2 adv4 g2 g3 hd2 hd3
                  go_wp2_with (first
                    | (go_at_call 77; ((with_reducible refine (D2.out _).mono ?_); rintro e w' ⟨rfl, rfl⟩))
                    | (go_at_call 77; ((with_reducible refine (D3.out _).mono ?_); rintro e w' ⟨rfl, rfl⟩))
                    | fail)
                  have y0 : (0 : Int) ≤ (k : Int) + 2 := by omega
                  have y1 : (0 : Int) ≤ (k : Int) + 3 := by omega
                  have z1 : IntKind.i64.wrap ((k : Int) + 2) = (k : Int) + 2 := IntWalk.i64_in _ (by omega)
                  have z2 : IntKind.i64.wrap ((k : Int) + 3) = (k : Int) + 3 := IntWalk.i64_in _ (by omega)
                  have z3 : IntKind.i64.wrap (16 * (d2 : Int)) = 16 * (d2 : Int) := IntWalk.i64_in _ (by omega)
                  have z4 : IntKind.i64.wrap (16 * (d2 : Int) + (d3 : Int)) = 16 * (d2 : Int) + (d3 : Int) := IntWalk.i64_in _ (by omega)
                  have z5 : IntKind.u8.wrap (16 * (d2 : Int) + (d3 : Int)) = ((16 * d2 + d3 : Nat) : Int) := by
                    have : 16 * d2 + d3 < 256 := by omega
                    simp [IntKind.wrap, IntKind.signed, IntKind.bits]
                    omega
                  have z6 : ((k : Int) + 2).toNat = k + 2 := by omega
                  have z7 : ((k : Int) + 3).toNat = k + 3 := by omega
                  go_region_held3 (fun _ => True) (trivial) (first
                    | (go_at_call 77; ((with_reducible refine (D2.out _).mono ?_); rintro e w' ⟨rfl, rfl⟩))
                    | (go_at_call 77; ((with_reducible refine (D3.out _).mono ?_); rintro e w' ⟨rfl, rfl⟩))
                    | (refine step_append_seg rfl (.tmp 80) (.tmp 94) 72 rfl w.heap.size 5 i0 _ 1 1 Tryd.underlying72 fi fz0 fz1 fz2 rfl (by decide) (.slice A n c) n (bV l) (by first | rfl | simp [Act.eval] | simp [Act.eval, Act.put]) (by first | exact HO.out.2 | exact HO.out.2.alloc _) (wr.heap.size + 1) (some ⟨wr.heap.size, 0, none⟩) 1 1 [.int .u8 ((16 * d2 + d3 : Nat) : Int)] (by first | rfl | simp [Act.eval] | simp [Act.eval, Act.put]) rfl (by exact seg_new) (by simp [Value.oneCell']) m1.out m2.out (by simp; omega) ?_; intro v3 w3 hown3 hg3 _)
                    | fail)
                  all_goals
                    have hb3 : Below w.heap.size w w3 := by
                      refine Below.grown ?_ hg3 (by simp; omega) (fun g hg => (HO.out.2.lt g hg).1)
                      first | exact HB.out.alloc hsz _ | exact (HB.out.alloc hsz _).drew | exact HB.out.drew.alloc hsz _
                    obtain ⟨A3, c3', rfl, ho3⟩ := own_snoc HO.out.1 hown3
                    have HO3 := Lib.hid ho3
                    have HB3 := Lib.hid hb3
                    clear hown3 hg3 hb3 ho3 z1 z2 z3 z4 z5 z6 z7
                    have hk3' : k + 4 ≤ s.size := by omega
                    go_wp2_with fail
                    exact ⟨⟨k + 4, n + 1, c3', A3, _, rfl, by go_num, hk3', HO3.out, HA.out, HB3.out⟩, by simp [intOf]; omega⟩
                · have g3d : decide (0 ≤ hxV c3) = false := by simpa using g3
                  have hA := adv2.out hk1 (by rintro ⟨_, _, _, h⟩; rw [HC3.out] at h; exact g3 h)
                  rw [HC1.out] at hA
                  have HA := Lib.hid hA
                  clear hA adv2 adv4
                  go_wp2_with (first
                    | (at_builtin; refine wpList_append_seg _ rfl (.tmp 104) (.tmp 109) 72 rfl w.heap.size 5 i0 _ 1 1 Tryd.underlying72 fi fz0 fz1 fz2 rfl (by decide) (.slice A n c) n (bV l) rfl (HO.out.2.alloc _) (wr.heap.size + 1) (some ⟨wr.heap.size, 0, none⟩) 1 1 [.int .u8 ((120 : Nat) : Int)] rfl rfl (seg_new (e := 5) (cs := #[.int .u8 ((120 : Nat) : Int)])) (by simp [Value.oneCell']) m1.out m2.out (by rw [World.size_alloc]; omega) ?_
                       intro v3 w3 hown3 hg3 _
                       have hb3 : Below w.heap.size w w3 := (HB.out.alloc hsz _).grown hg3 (by rw [World.size_alloc]; omega) (fun g hg => (HO.out.2.lt g hg).1)
                       obtain ⟨A3, c3', rfl, ho3⟩ := own_snoc HO.out.1 hown3
                       have HO3 := Lib.hid ho3; have HB3 := Lib.hid hb3; clear hown3 hg3 hb3 ho3)
                    | (go_at_call 77; refine (digit_any _ _ (by omega)).mono ?_; rintro e w' ⟨rfl, rfl⟩)
                    | fail)
                  exact ⟨⟨k + 2, n + 1, c3', A3, _, rfl, by go_num, hk1, HO3.out, HA.out, HB3.out⟩, by simp [intOf]; omega⟩
              · have g2d : decide (0 ≤ hxV c2) = false := by simpa using g2
                have hA := adv2.out hk1 (by rintro ⟨_, _, h, _⟩; rw [HC2.out] at h; exact g2 h)
                rw [HC1.out] at hA
                have HA := Lib.hid hA
                clear hA adv2 adv4
                go_wp2_with (first
                  | (at_builtin; refine wpList_append_seg _ rfl (.tmp 104) (.tmp 109) 72 rfl w.heap.size 5 i0 _ 1 1 Tryd.underlying72 fi fz0 fz1 fz2 rfl (by decide) (.slice A n c) n (bV l) rfl (HO.out.2.alloc _) (wr.heap.size + 1) (some ⟨wr.heap.size, 0, none⟩) 1 1 [.int .u8 ((120 : Nat) : Int)] rfl rfl (seg_new (e := 5) (cs := #[.int .u8 ((120 : Nat) : Int)])) (by simp [Value.oneCell']) m1.out m2.out (by rw [World.size_alloc]; omega) ?_
                     intro v3 w3 hown3 hg3 _
                     have hb3 : Below w.heap.size w w3 := (HB.out.alloc hsz _).grown hg3 (by rw [World.size_alloc]; omega) (fun g hg => (HO.out.2.lt g hg).1)
                     obtain ⟨A3, c3', rfl, ho3⟩ := own_snoc HO.out.1 hown3
                     have HO3 := Lib.hid ho3; have HB3 := Lib.hid hb3; clear hown3 hg3 hb3 ho3)
                  | (go_at_call 77; refine (digit_any _ _ (by omega)).mono ?_; rintro e w' ⟨rfl, rfl⟩)
                  | fail)
                exact ⟨⟨k + 2, n + 1, c3', A3, _, rfl, by go_num, hk1, HO3.out, HA.out, HB3.out⟩, by simp [intOf]; omega⟩
            · have h120d : ((c1 : Int) == 120) = false := by simp; omega
              have hA := adv2.out hk1 (by rintro ⟨_, h, _, _⟩; rw [HC1.out] at h; exact h120 h)
              rw [HC1.out] at hA
              have HA := Lib.hid hA
              clear hA adv2 adv4 hc2 hc3
              go_wp2_with (first
                | (at_builtin; refine wpList_append_seg _ rfl (.tmp 104) (.tmp 109) 72 rfl w.heap.size 5 i0 _ 1 1 Tryd.underlying72 fi fz0 fz1 fz2 rfl (by decide) (.slice A n c) n (bV l) rfl (HO.out.2.alloc _) (wr.heap.size + 1) (some ⟨wr.heap.size, 0, none⟩) 1 1 [.int .u8 (c1 : Int)] rfl rfl (seg_new (e := 5) (cs := #[.int .u8 (c1 : Int)])) (by simp [Value.oneCell']) m1.out m2.out (by rw [World.size_alloc]; omega) ?_
                   intro v3 w3 hown3 hg3 _
                   have hb3 : Below w.heap.size w w3 := (HB.out.alloc hsz _).grown hg3 (by rw [World.size_alloc]; omega) (fun g hg => (HO.out.2.lt g hg).1)
                   obtain ⟨A3, c3', rfl, ho3⟩ := own_snoc HO.out.1 hown3
                   have HO3 := Lib.hid ho3; have HB3 := Lib.hid hb3; clear hown3 hg3 hb3 ho3)
                | (go_at_call 77; refine (digit_any _ _ (by omega)).mono ?_; rintro e w' ⟨rfl, rfl⟩)
                | fail)
              exact ⟨⟨k + 2, n + 1, c3', A3, _, rfl, by go_num, hk1, HO3.out, HA.out, HB3.out⟩, by simp [intOf]; omega⟩
          · have hk3i : ¬ (k : Int) + 3 < (s.size : Int) := by omega
            by_cases hk1 : k + 1 < s.size
            · have hk1i : (k : Int) + 1 < (s.size : Int) := by omega
              obtain ⟨c1, hc1⟩ : ∃ c1 : Nat, s[k + 1].toNat = c1 := ⟨_, rfl⟩
              have HC1 := Lib.hid hc1
              have hA := adv2.out hk1 (by rintro ⟨h, _⟩; exact hk3 h)
              rw [HC1.out] at hA
              have HA := Lib.hid hA
              clear hA adv2
              go_wp2_with (first
                | (at_builtin; refine wpList_append_seg _ rfl (.tmp 104) (.tmp 109) 72 rfl w.heap.size 5 i0 _ 1 1 Tryd.underlying72 fi fz0 fz1 fz2 rfl (by decide) (.slice A n c) n (bV l) rfl (HO.out.2.alloc _) (wr.heap.size + 1) (some ⟨wr.heap.size, 0, none⟩) 1 1 [.int .u8 (c1 : Int)] rfl rfl (seg_new (e := 5) (cs := #[.int .u8 (c1 : Int)])) (by simp [Value.oneCell']) m1.out m2.out (by rw [World.size_alloc]; omega) ?_
                   intro v3 w3 hown3 hg3 _
                   have hb3 : Below w.heap.size w w3 := (HB.out.alloc hsz _).grown hg3 (by rw [World.size_alloc]; omega) (fun g hg => (HO.out.2.lt g hg).1)
                   obtain ⟨A3, c3', rfl, ho3⟩ := own_snoc HO.out.1 hown3
                   have HO3 := Lib.hid ho3; have HB3 := Lib.hid hb3; clear hown3 hg3 hb3 ho3)
                | (go_at_call 77; refine (digit_any _ _ (by omega)).mono ?_; rintro e w' ⟨rfl, rfl⟩)
                | fail)
              exact ⟨⟨k + 2, n + 1, c3', A3, _, rfl, by go_num, hk1, HO3.out, HA.out, HB3.out⟩, by simp [intOf]; omega⟩
            · have hk1i : ¬ (k : Int) + 1 < (s.size : Int) := by omega
              have HA := Lib.hid (HQ.out.adv hlt H34.out (rst_zero hlt hk1 HC.out))
              clear adv2
              go_wp2_with fail
              exact ⟨⟨k + 1, n, c, A, _, rfl, by go_num, hlt, HO.out, by have := HA.out; simpa using this, HB.out⟩, by simp [intOf]; omega⟩
        · have h92d : ((c0 : Int) != 92) = true := by simp; omega
          have hA := (HQ.out.adv hlt (by rw [HC.out]; exact hq) (rst_one hlt (by rw [HC.out]; exact h92)))
          rw [HC.out] at hA
          have HA := Lib.hid hA
          have m1 := Lib.hid (show n + 1 ≤ maxLen from by unfold maxLen; omega)
          have m2 := Lib.hid (show (n + 1) * 1 ≤ 140737488355328 from by omega)
          have hsz := HB.out.size
          clear hq h92 hA hb
          go_wp2_with (first
            | (at_builtin; refine wpList_append_seg _ rfl (.tmp 45) (.tmp 49) 72 rfl w.heap.size 5 i0 _ 1 1 Tryd.underlying72 fi fz0 fz1 fz2 rfl (by decide) (.slice A n c) n (bV l) rfl (HO.out.2.alloc _) (wr.heap.size + 1) (some ⟨wr.heap.size, 0, none⟩) 1 1 [.int .u8 (c0 : Int)] rfl rfl (seg_new (e := 5) (cs := #[.int .u8 (c0 : Int)])) (by simp [Value.oneCell']) m1.out m2.out (by rw [World.size_alloc]; omega) ?_
               intro v3 w3 hown3 hg3 _
               have hb3 : Below w.heap.size w w3 := (HB.out.alloc hsz _).grown hg3 (by rw [World.size_alloc]; omega) (fun g hg => (HO.out.2.lt g hg).1)
               obtain ⟨A3, c3, rfl, ho3⟩ := own_snoc HO.out.1 hown3
               have HO3 := Lib.hid ho3; have HB3 := Lib.hid hb3; clear hown3 hg3 hb3 ho3)
            | fail)
          exact ⟨⟨k + 1, n + 1, c3, A3, _, rfl, by go_num, hlt, HO3.out, HA.out, HB3.out⟩, by simp [intOf]; omega⟩
    · obtain rfl : k = s.size := by omega
      have hki : ¬ (s.size : Int) < (s.size : Int) := by omega
      have hE := HQ.out.fin (.inl hlt)
      obtain ⟨t, ht, hnl⟩ := str_row (c := c) HO.out.1 (own_seg HO.out.2) (by rw [hE.1]; exact HL.out)
      have HE := Lib.hid hE
      have HT := Lib.hid hnl
      clear hE hnl
      go_wp2_with fail
      go_ret2
      exact ⟨t, ret_word (by rw [HM.out, ← HE.out.2]), by rw [HT.out, HE.out.1], HB.out⟩
theorem rword_any (s : ByteArray) (w : World) (hs : s.size ≤ 1048576) :
    Calls Tryd.prog 54 #[.string s] w fun e w' => ∃ t, e = .returned (.tuple #[.string t, .int .i64 (rword (nl s)).2]) ∧ nl t = (rword (nl s)).1 ∧ Below w.heap.size w w' := by
  by_cases h : ∃ h : 0 < s.size, s[0].toNat = 34
  · obtain ⟨h0, h34⟩ := h
    exact rword_quoted s w hs h0 h34
  · exact rword_plain s w hs fun h0 h34 => h ⟨h0, h34⟩
end Go.Proofs.YtfipljhlponcoaaDoor
