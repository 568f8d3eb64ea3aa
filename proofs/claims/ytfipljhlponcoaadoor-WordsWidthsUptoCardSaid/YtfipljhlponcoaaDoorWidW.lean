/- The walk of WordsWidths. -/
import Derived.Test.YtfipljhlponcoaaDoorWidLaw
import Derived.Test.YtfipljhlponcoaaDoorWorks
set_option linter.unusedVariables false
namespace Go.Proofs.YtfipljhlponcoaaDoor
open Go.RowKit
theorem fit_is (s : ByteArray) (n : Nat) (hn : n < 60) (w : World) (hz : s.size ≤ 1048576) :
    Calls Tryd.prog 29 #[.string s, .int .i64 (1 + (n : Int))] w fun e w' => ∃ t, e = .returned (.tuple #[.string t, .int .i64 0]) ∧ nl t = (fitE (nl s) (n + 1)).flatten ∧ Below w.heap.size w w' := by
  have h := fit_any s ((n + 1 : Nat) : Int) w hz
  rw [(fitE_is (nl s) (nl_lt s) (n + 1) (by omega) (by omega)).1, show ((n + 1 : Nat) : Int) = 1 + (n : Int) from by omega] at h
  exact h
theorem size_fit {s t : ByteArray} {n : Nat} (hn : n < 60) (hz : s.size ≤ 1048576) (h : nl t = (fitE (nl s) (n + 1)).flatten) : t.size ≤ 20480 := by
  have := fit_len (nl s) (nl_lt s) ((n + 1 : Nat) : Int)
  rw [(fitE_is (nl s) (nl_lt s) (n + 1) (by omega) (by omega)).1] at this
  simp only at this
  rw [← h, nl_len] at this
  exact this
theorem wid_cols (s t : ByteArray) (n m : Nat) (hn : n < 60) (hm : m < 60) : colsF [[nl s, nl t], [nl s], []] [1 + (n : Int), 1 + (m : Int)] = some [trimN ((fitE (nl s) (n + 1)).flatten ++ 32 :: (fitE (nl t) (m + 1)).flatten), trimN (fitE (nl s) (n + 1)).flatten, []] := by
  have e1 := (fitE_is (nl s) (nl_lt s) (n + 1) (by omega) (by omega)).1
  have e2 := (fitE_is (nl t) (nl_lt t) (m + 1) (by omega) (by omega)).1
  rw [show ((n + 1 : Nat) : Int) = 1 + (n : Int) from by omega] at e1
  rw [show ((m + 1 : Nat) : Int) = 1 + (m : Int) from by omega] at e2
  unfold colsF
  rw [if_pos]
  · simp [lineF, joinN, e1, e2, trimN]
  · refine ⟨⟨by simp, ?_⟩, by simp⟩
    intro x hx
    simp at hx
    omega
theorem wid_three {ts : List ByteArray} {p q : List Nat} (h : ts.map nl = [p, q, []]) : ∃ x y, ts = [x, y, ⟨#[]⟩] ∧ nl x = p := by
  obtain ⟨x, r1, rfl, h1, h2⟩ := List.map_eq_cons_iff.1 h
  obtain ⟨y, r2, rfl, h3, h4⟩ := List.map_eq_cons_iff.1 h2
  obtain ⟨z, r3, rfl, h5, h6⟩ := List.map_eq_cons_iff.1 h4
  obtain rfl := List.map_eq_nil_iff.1 h6
  obtain rfl : z = ⟨#[]⟩ := nl_inj (by rw [h5]; rfl)
  exact ⟨x, y, rfl, h1⟩
set_option maxRecDepth 100000 in
set_option maxHeartbeats 64000000 in
theorem widths_walk (s t : ByteArray) (wd ot : Int) (hs : s.size ≤ 1048575) (ht : t.size ≤ 1048575) (d1 : -9223372036854775808 ≤ wd) (d2 : wd ≤ 9223372036854775807) (o1 : -9223372036854775808 ≤ ot) (o2 : ot ≤ 9223372036854775807)
    (w : World) (hy : Lay w) :
    Calls Tryd.prog 7 #[.string s, .string t, .int .i64 wd, .int .i64 ot] w fun e w' => e = .returned (.bool true) ∧ Below w.heap.size w w' := by
  have HY := Lib.hid hy
  have HD := Lib.hid (And.intro d1 d2)
  have HO := Lib.hid (And.intro o1 o2)
  have WK := works_any w hy
  clear hy
  go_enter Tryd.func7, Tryd.ntmps7
  go_wp2_with fail
  refine WK.mono ?_
  clear WK
  rintro e w1 ⟨rfl, hb1⟩
  have B1 := Lib.hid hb1
  have hs1 := hb1.size
  clear hb1
  go_wp2_with fail
  refine (pick_any wd w1 HD.out.1 HD.out.2).mono ?_
  rintro e w' ⟨n0, hn0, rfl, rfl⟩
  go_wp2_with fail
  refine (pick_any ot w1 HO.out.1 HO.out.2).mono ?_
  rintro e w' ⟨m0, hm0, rfl, rfl⟩
  go_wp2_with fail
  refine (fit_is s n0 hn0 w1 (by omega)).mono ?_
  rintro e w2 ⟨a, rfl, ha, hb2⟩
  have B2 := Lib.hid (B1.out.trans (hb2.mono hs1))
  have FA := Lib.hid ha
  have hs2 := B2.out.size
  have za := size_fit hn0 (by omega) ha
  clear hb2 ha
  go_wp2_with fail
  refine (fit_is t m0 hm0 w2 (by omega)).mono ?_
  rintro e w3 ⟨b, rfl, hb, hb3⟩
  have B3 := Lib.hid (B2.out.trans (hb3.mono hs2))
  have FB := Lib.hid hb
  have hs3 := B3.out.size
  have zb := size_fit hm0 (by omega) hb
  clear hb3 hb
  go_wp2_with fail
  have C1 := cnt30 a (fitE (nl s) (n0 + 1)) (fitE_is (nl s) (nl_lt s) (n0 + 1) (by omega) (by omega)).2.2 FA.out (by omega) w3
  rw [(fitE_is (nl s) (nl_lt s) (n0 + 1) (by omega) (by omega)).2.1, show ((n0 + 1 : Nat) : Int) = 1 + (n0 : Int) from by omega] at C1
  refine C1.mono ?_
  clear C1
  rintro e w4 ⟨rfl, hb4⟩
  have B4 := Lib.hid (B3.out.trans (hb4.mono hs3))
  have hs4 := B4.out.size
  have nn : ((1 + (n0 : Int)) != (1 + (n0 : Int))) = false := by simp
  clear hb4
  go_wp2_with fail
  obtain ⟨L, hL⟩ : ∃ L, (shows 92 (nl s)).length = L := ⟨_, rfl⟩
  have HL := Lib.hid hL
  have WD := Lib.hid fun (W : World) => width_any s W (by omega)
  rw [hL] at WD
  have SH := Lib.hid fun (W : World) => show_any s W (by omega)
  have ll : ((L : Int) != (L : Int)) = false := by simp
  clear hL nn
  refine (WD.out w4).mono ?_
  rintro e w5 ⟨rfl, hb5⟩
  have B5 := Lib.hid (B4.out.trans (hb5.mono hs4))
  have hs5 := B5.out.size
  clear hb5
  go_wp2_with fail
  refine (SH.out w5).mono ?_
  rintro e w6 ⟨u0, rfl, hu0, hb6⟩
  have B6 := Lib.hid (B5.out.trans (hb6.mono hs5))
  have hs6 := B6.out.size
  have zu : u0.size ≤ 4194304 := by
    have := shows_bd 92 (nl s) (nl_lt s)
    rw [← hu0, nl_len, nl_len] at this
    omega
  have C2 := cnt30 u0 (shows 92 (nl s)) (all_rune 92 _ _ (nl_lt s)) hu0 (by omega) w6
  rw [HL.out] at C2
  clear hb6 hu0
  go_wp2_with fail
  refine C2.mono ?_
  clear C2
  rintro e w7 ⟨rfl, hb7⟩
  have B7 := Lib.hid (B6.out.trans (hb7.mono hs6))
  have hs7 := B7.out.size
  clear hb7
  go_wp2_with fail
  refine (SH.out w7).mono ?_
  rintro e w8 ⟨u, rfl, hu, hb8⟩
  have B8 := Lib.hid (B7.out.trans (hb8.mono hs7))
  have hs8 := B8.out.size
  have U := Lib.hid hu
  have zu2 : u.size ≤ 4194304 := by
    have := shows_bd 92 (nl s) (nl_lt s)
    rw [← hu, nl_len, nl_len] at this
    omega
  clear hb8 hu
  go_wp2_with fail
  by_cases hle : L ≤ n0 + 1
  · have i1 : decide ((L : Int) ≤ 1 + (n0 : Int)) = true := by simp; omega
    have i2 : decide (1 + (n0 : Int) < (L : Int)) = false := by simp; omega
    obtain ⟨e1, e2⟩ := fit_short FA.out U.out (by rw [HL.out]; exact hle)
    have i3 : decide (a.size < u.size) = false := by simp; omega
    have i4 : ∀ W : World, (Instr.slice 9 (.string a) none (some (.int .i64 (u.size : Int))) none).run Tryd.prog W = .ok (.string u) W := fun W => by rw [run_slice_string_to_if _ _ _ _ _ Tryd.underlying9, if_pos ⟨by omega, by omega⟩, Int.toNat_natCast, e2]
    have i5 : (u.toList == u.toList) = true := by simp
    clear e1 e2 hle ll
    refine wp_region_held_drew (S := fun _ => True) (by kernel_rfl) trivial (fun hHeld => ?_)
    (refine held_take (i := 0) rfl rfl (by kernel_rfl) (by kernel_rfl) (by kernel_rfl) (fun _ _ _ h => h) (by rfl) (by intro w hSw; (try dsimp only at hSw); go_simp; first | done | with_reducible rfl) trivial ?_; try simp only [Act.put, List.setIfInBounds_toArray, List.set_cons_zero, List.set_cons_succ])
    (refine held_take (i := 2) rfl rfl (by kernel_rfl) (by kernel_rfl) (by kernel_rfl) (fun _ _ _ h => h) (by rfl) (by intro w hSw; (try dsimp only at hSw); go_simp; first | done | with_reducible rfl) trivial ?_; try simp only [Act.put, List.setIfInBounds_toArray, List.set_cons_zero, List.set_cons_succ])
    refine wpAnyH_ready (rs := [1]) (by kernel_rfl) (by simp) ?_
    refine AllReadyH.cons rfl (fun K hK => ?_) AllReadyH.nil
    go_simp
    go_at_call 31
    refine (WD.out _).mono ?_
    rintro e w9 ⟨rfl, hb9⟩
    have B9 := Lib.hid (B8.out.drew.trans (hb9.mono (by exact hs8)))
    have hw9 := B9.out.size
    clear hb9
    refine hK.out _ _ trivial (fun hHeld => ?_)
    clear hK K
    try simp only [Act.put, List.setIfInBounds_toArray, List.set_cons_zero, List.set_cons_succ]
    (refine held_take (i := 3) rfl rfl (by kernel_rfl) (by kernel_rfl) (by kernel_rfl) (fun _ _ _ h => h) (by rfl) (by intro w hSw; (try dsimp only at hSw); go_simp; first | done | with_reducible rfl) trivial ?_; try simp only [Act.put, List.setIfInBounds_toArray, List.set_cons_zero, List.set_cons_succ])
    (refine held_take (i := 4) rfl rfl (by kernel_rfl) (by kernel_rfl) (by kernel_rfl) (fun _ _ _ h => h) (by rfl) (by intro w hSw; (try dsimp only at hSw); go_simp; first | done | with_reducible rfl) trivial ?_; try simp only [Act.put, List.setIfInBounds_toArray, List.set_cons_zero, List.set_cons_succ])
    (refine held_take (i := 5) rfl rfl (by kernel_rfl) (by kernel_rfl) (by kernel_rfl) (fun _ _ _ h => h) (by rfl) (by intro w hSw; (try dsimp only at hSw); go_simp; first | done | with_reducible rfl) trivial ?_; try simp only [Act.put, List.setIfInBounds_toArray, List.set_cons_zero, List.set_cons_succ])
    (refine held_take (i := 6) rfl rfl (by kernel_rfl) (by kernel_rfl) (by kernel_rfl) (fun _ _ _ h => h) (by rfl) (by intro w hSw; (try dsimp only at hSw); go_simp; first | done | with_reducible rfl) trivial ?_; try simp only [Act.put, List.setIfInBounds_toArray, List.set_cons_zero, List.set_cons_succ])
    (refine held_take (i := 7) rfl rfl (by kernel_rfl) (by kernel_rfl) (by kernel_rfl) (fun _ _ _ h => h) (by rfl) (by intro w hSw; (try dsimp only at hSw); go_simp; first | done | with_reducible rfl) trivial ?_; try simp only [Act.put, List.setIfInBounds_toArray, List.set_cons_zero, List.set_cons_succ])
    (refine held_take (i := 8) rfl rfl (by kernel_rfl) (by kernel_rfl) (by kernel_rfl) (fun _ _ _ h => h) (by rfl) (by intro w hSw; (try dsimp only at hSw); go_simp; first | done | with_reducible rfl) trivial ?_; try simp only [Act.put, List.setIfInBounds_toArray, List.set_cons_zero, List.set_cons_succ])
    (refine held_take (i := 9) rfl rfl (by kernel_rfl) (by kernel_rfl) (by kernel_rfl) (fun _ _ _ h => h) (by rfl) (by intro w hSw; (try dsimp only at hSw); go_simp; first | done | with_reducible rfl) trivial ?_; try simp only [Act.put, List.setIfInBounds_toArray, List.set_cons_zero, List.set_cons_succ])
    (refine held_take (i := 10) rfl rfl (by kernel_rfl) (by kernel_rfl) (by kernel_rfl) (fun _ _ _ h => h) (by rfl) (by intro w hSw; (try dsimp only at hSw); go_simp; first | done | with_reducible rfl) trivial ?_; try simp only [Act.put, List.setIfInBounds_toArray, List.set_cons_zero, List.set_cons_succ])
    (refine held_take (i := 11) rfl rfl (by kernel_rfl) (by kernel_rfl) (by kernel_rfl) (fun _ _ _ h => h) (by rfl) (by intro w hSw; (try dsimp only at hSw); go_simp; first | done | with_reducible rfl) trivial ?_; try simp only [Act.put, List.setIfInBounds_toArray, List.set_cons_zero, List.set_cons_succ])
    (refine held_take (i := 12) rfl rfl (by kernel_rfl) (by kernel_rfl) (by kernel_rfl) (fun _ _ _ h => h) (by rfl) (by intro w hSw; (try dsimp only at hSw); go_simp; first | done | with_reducible rfl) trivial ?_; try simp only [Act.put, List.setIfInBounds_toArray, List.set_cons_zero, List.set_cons_succ])
    (refine held_take (i := 13) rfl rfl (by kernel_rfl) (by kernel_rfl) (by kernel_rfl) (fun _ _ _ h => h) (by rfl) (by intro w hSw; (try dsimp only at hSw); go_simp; first | done | with_reducible rfl) trivial ?_; try simp only [Act.put, List.setIfInBounds_toArray, List.set_cons_zero, List.set_cons_succ])
    (refine held_take (i := 14) rfl rfl (by kernel_rfl) (by kernel_rfl) (by kernel_rfl) (fun _ _ _ h => h) (by rfl) (by intro w hSw; (try dsimp only at hSw); go_simp; first | done | with_reducible rfl) trivial ?_; try simp only [Act.put, List.setIfInBounds_toArray, List.set_cons_zero, List.set_cons_succ])
    (refine held_take (i := 15) rfl rfl (by kernel_rfl) (by kernel_rfl) (by kernel_rfl) (fun _ _ _ h => h) (by rfl) (by intro w hSw; (try dsimp only at hSw); go_simp; first | done | with_reducible rfl) trivial ?_; try simp only [Act.put, List.setIfInBounds_toArray, List.set_cons_zero, List.set_cons_succ])
    (refine held_take (i := 16) rfl rfl (by kernel_rfl) (by kernel_rfl) (by kernel_rfl) (fun _ _ _ h => h) (by rfl) (by intro w hSw; (try dsimp only at hSw); go_simp; first | done | with_reducible rfl) trivial ?_; try simp only [Act.put, List.setIfInBounds_toArray, List.set_cons_zero, List.set_cons_succ])
    (refine held_take (i := 17) rfl rfl (by kernel_rfl) (by kernel_rfl) (by kernel_rfl) (fun _ _ _ h => h) (by rfl) (by intro w hSw; (try dsimp only at hSw); go_simp; first | done | with_reducible rfl) trivial ?_; try simp only [Act.put, List.setIfInBounds_toArray, List.set_cons_zero, List.set_cons_succ])
    (refine held_take (i := 18) rfl rfl (by kernel_rfl) (by kernel_rfl) (by kernel_rfl) (fun _ _ _ h => h) (by rfl) (by intro w hSw; (try dsimp only at hSw); go_simp; first | done | with_reducible rfl) trivial ?_; try simp only [Act.put, List.setIfInBounds_toArray, List.set_cons_zero, List.set_cons_succ])
    (refine held_take (i := 19) rfl rfl (by kernel_rfl) (by kernel_rfl) (by kernel_rfl) (fun _ _ _ h => h) (by rfl) (by intro w hSw; (try dsimp only at hSw); go_simp; first | done | with_reducible rfl) trivial ?_; try simp only [Act.put, List.setIfInBounds_toArray, List.set_cons_zero, List.set_cons_succ])
    (refine held_take (i := 20) rfl rfl (by kernel_rfl) (by kernel_rfl) (by kernel_rfl) (fun _ _ _ h => h) (by rfl) (by intro w hSw; (try dsimp only at hSw); go_simp; first | done | with_reducible rfl) trivial ?_; try simp only [Act.put, List.setIfInBounds_toArray, List.set_cons_zero, List.set_cons_succ])
    (refine held_take (i := 22) rfl rfl (by kernel_rfl) (by kernel_rfl) (by kernel_rfl) (fun _ _ _ h => h) (by rfl) (by intro w hSw; (try dsimp only at hSw); go_simp; first | done | with_reducible rfl) trivial ?_; try simp only [Act.put, List.setIfInBounds_toArray, List.set_cons_zero, List.set_cons_succ])
    refine wpAnyH_ready (rs := [21]) (by kernel_rfl) (by simp) ?_
    refine AllReadyH.cons rfl (fun K hK => ?_) AllReadyH.nil
    go_simp
    go_at_call 31
    refine (WD.out _).mono ?_
    rintro e w10 ⟨rfl, hb9⟩
    have B10 := Lib.hid (B9.out.trans (hb9.mono (hw9)))
    have hw10 := B10.out.size
    clear hb9
    refine hK.out _ _ trivial (fun hHeld => ?_)
    clear hK K
    try simp only [Act.put, List.setIfInBounds_toArray, List.set_cons_zero, List.set_cons_succ]
    (refine held_take (i := 23) rfl rfl (by kernel_rfl) (by kernel_rfl) (by kernel_rfl) (fun _ _ _ h => h) (by rfl) (by intro w hSw; (try dsimp only at hSw); go_simp; first | done | with_reducible rfl) trivial ?_; try simp only [Act.put, List.setIfInBounds_toArray, List.set_cons_zero, List.set_cons_succ])
    (refine held_take (i := 24) rfl rfl (by kernel_rfl) (by kernel_rfl) (by kernel_rfl) (fun _ _ _ h => h) (by rfl) (by intro w hSw; (try dsimp only at hSw); go_simp; first | done | with_reducible rfl) trivial ?_; try simp only [Act.put, List.setIfInBounds_toArray, List.set_cons_zero, List.set_cons_succ])
    (refine held_skip (i := 25) rfl rfl (by kernel_rfl) (by kernel_rfl) (by kernel_rfl) (fun _ _ _ h => h) (by rfl) trivial ?_; try simp only [Act.put, List.setIfInBounds_toArray, List.set_cons_zero, List.set_cons_succ])
    (refine held_skip (i := 26) rfl rfl (by kernel_rfl) (by kernel_rfl) (by kernel_rfl) (fun _ _ _ h => h) (by rfl) trivial ?_; try simp only [Act.put, List.setIfInBounds_toArray, List.set_cons_zero, List.set_cons_succ])
    (refine held_skip (i := 27) rfl rfl (by kernel_rfl) (by kernel_rfl) (by kernel_rfl) (fun _ _ _ h => h) (by rfl) trivial ?_; try simp only [Act.put, List.setIfInBounds_toArray, List.set_cons_zero, List.set_cons_succ])
    (refine held_skip (i := 28) rfl rfl (by kernel_rfl) (by kernel_rfl) (by kernel_rfl) (fun _ _ _ h => h) (by rfl) trivial ?_; try simp only [Act.put, List.setIfInBounds_toArray, List.set_cons_zero, List.set_cons_succ])
    (refine held_skip (i := 29) rfl rfl (by kernel_rfl) (by kernel_rfl) (by kernel_rfl) (fun _ _ _ h => h) (by rfl) trivial ?_; try simp only [Act.put, List.setIfInBounds_toArray, List.set_cons_zero, List.set_cons_succ])
    (refine held_skip (i := 30) rfl rfl (by kernel_rfl) (by kernel_rfl) (by kernel_rfl) (fun _ _ _ h => h) (by rfl) trivial ?_; try simp only [Act.put, List.setIfInBounds_toArray, List.set_cons_zero, List.set_cons_succ])
    (refine held_skip (i := 31) rfl rfl (by kernel_rfl) (by kernel_rfl) (by kernel_rfl) (fun _ _ _ h => h) (by rfl) trivial ?_; try simp only [Act.put, List.setIfInBounds_toArray, List.set_cons_zero, List.set_cons_succ])
    (refine held_skip (i := 32) rfl rfl (by kernel_rfl) (by kernel_rfl) (by kernel_rfl) (fun _ _ _ h => h) (by rfl) trivial ?_; try simp only [Act.put, List.setIfInBounds_toArray, List.set_cons_zero, List.set_cons_succ])
    (refine held_skip (i := 33) rfl rfl (by kernel_rfl) (by kernel_rfl) (by kernel_rfl) (fun _ _ _ h => h) (by rfl) trivial ?_; try simp only [Act.put, List.setIfInBounds_toArray, List.set_cons_zero, List.set_cons_succ])
    (refine held_skip (i := 34) rfl rfl (by kernel_rfl) (by kernel_rfl) (by kernel_rfl) (fun _ _ _ h => h) (by rfl) trivial ?_; try simp only [Act.put, List.setIfInBounds_toArray, List.set_cons_zero, List.set_cons_succ])
    (refine held_skip (i := 35) rfl rfl (by kernel_rfl) (by kernel_rfl) (by kernel_rfl) (fun _ _ _ h => h) (by rfl) trivial ?_; try simp only [Act.put, List.setIfInBounds_toArray, List.set_cons_zero, List.set_cons_succ])
    (refine held_skip (i := 36) rfl rfl (by kernel_rfl) (by kernel_rfl) (by kernel_rfl) (fun _ _ _ h => h) (by rfl) trivial ?_; try simp only [Act.put, List.setIfInBounds_toArray, List.set_cons_zero, List.set_cons_succ])
    (refine held_skip (i := 37) rfl rfl (by kernel_rfl) (by kernel_rfl) (by kernel_rfl) (fun _ _ _ h => h) (by rfl) trivial ?_; try simp only [Act.put, List.setIfInBounds_toArray, List.set_cons_zero, List.set_cons_succ])
    (refine held_skip (i := 38) rfl rfl (by kernel_rfl) (by kernel_rfl) (by kernel_rfl) (fun _ _ _ h => h) (by rfl) trivial ?_; try simp only [Act.put, List.setIfInBounds_toArray, List.set_cons_zero, List.set_cons_succ])
    (refine held_skip (i := 39) rfl rfl (by kernel_rfl) (by kernel_rfl) (by kernel_rfl) (fun _ _ _ h => h) (by rfl) trivial ?_; try simp only [Act.put, List.setIfInBounds_toArray, List.set_cons_zero, List.set_cons_succ])
    (refine held_skip (i := 40) rfl rfl (by kernel_rfl) (by kernel_rfl) (by kernel_rfl) (fun _ _ _ h => h) (by rfl) trivial ?_; try simp only [Act.put, List.setIfInBounds_toArray, List.set_cons_zero, List.set_cons_succ])
    (refine held_skip (i := 41) rfl rfl (by kernel_rfl) (by kernel_rfl) (by kernel_rfl) (fun _ _ _ h => h) (by rfl) trivial ?_; try simp only [Act.put, List.setIfInBounds_toArray, List.set_cons_zero, List.set_cons_succ])
    (refine held_skip (i := 42) rfl rfl (by kernel_rfl) (by kernel_rfl) (by kernel_rfl) (fun _ _ _ h => h) (by rfl) trivial ?_; try simp only [Act.put, List.setIfInBounds_toArray, List.set_cons_zero, List.set_cons_succ])
    (refine held_skip (i := 43) rfl rfl (by kernel_rfl) (by kernel_rfl) (by kernel_rfl) (fun _ _ _ h => h) (by rfl) trivial ?_; try simp only [Act.put, List.setIfInBounds_toArray, List.set_cons_zero, List.set_cons_succ])
    (refine held_skip (i := 44) rfl rfl (by kernel_rfl) (by kernel_rfl) (by kernel_rfl) (fun _ _ _ h => h) (by rfl) trivial ?_; try simp only [Act.put, List.setIfInBounds_toArray, List.set_cons_zero, List.set_cons_succ])
    (refine held_skip (i := 45) rfl rfl (by kernel_rfl) (by kernel_rfl) (by kernel_rfl) (fun _ _ _ h => h) (by rfl) trivial ?_; try simp only [Act.put, List.setIfInBounds_toArray, List.set_cons_zero, List.set_cons_succ])
    (refine held_skip (i := 46) rfl rfl (by kernel_rfl) (by kernel_rfl) (by kernel_rfl) (fun _ _ _ h => h) (by rfl) trivial ?_; try simp only [Act.put, List.setIfInBounds_toArray, List.set_cons_zero, List.set_cons_succ])
    (refine held_skip (i := 47) rfl rfl (by kernel_rfl) (by kernel_rfl) (by kernel_rfl) (fun _ _ _ h => h) (by rfl) trivial ?_; try simp only [Act.put, List.setIfInBounds_toArray, List.set_cons_zero, List.set_cons_succ])
    (refine held_skip (i := 48) rfl rfl (by kernel_rfl) (by kernel_rfl) (by kernel_rfl) (fun _ _ _ h => h) (by rfl) trivial ?_; try simp only [Act.put, List.setIfInBounds_toArray, List.set_cons_zero, List.set_cons_succ])
    (refine held_skip (i := 49) rfl rfl (by kernel_rfl) (by kernel_rfl) (by kernel_rfl) (fun _ _ _ h => h) (by rfl) trivial ?_; try simp only [Act.put, List.setIfInBounds_toArray, List.set_cons_zero, List.set_cons_succ])
    (refine held_skip (i := 50) rfl rfl (by kernel_rfl) (by kernel_rfl) (by kernel_rfl) (fun _ _ _ h => h) (by rfl) trivial ?_; try simp only [Act.put, List.setIfInBounds_toArray, List.set_cons_zero, List.set_cons_succ])
    (refine held_skip (i := 51) rfl rfl (by kernel_rfl) (by kernel_rfl) (by kernel_rfl) (fun _ _ _ h => h) (by rfl) trivial ?_; try simp only [Act.put, List.setIfInBounds_toArray, List.set_cons_zero, List.set_cons_succ])
    (refine held_take (i := 52) rfl rfl (by kernel_rfl) (by kernel_rfl) (by kernel_rfl) (fun _ _ _ h => h) (by rfl) (by intro w hSw; (try dsimp only at hSw); go_simp; first | done | with_reducible rfl) trivial ?_; try simp only [Act.put, List.setIfInBounds_toArray, List.set_cons_zero, List.set_cons_succ])
    (refine held_take (i := 53) rfl rfl (by kernel_rfl) (by kernel_rfl) (by kernel_rfl) (fun _ _ _ h => h) (by rfl) (by intro w hSw; (try dsimp only at hSw); go_simp; first | done | with_reducible rfl) trivial ?_; try simp only [Act.put, List.setIfInBounds_toArray, List.set_cons_zero, List.set_cons_succ])
    refine wpAnyH_done (by kernel_rfl) ?_ _
    go_wp2_with fail
    obtain ⟨W3, hW3⟩ : ∃ W3, W3 = ((((w10.alloc (.cells #[.string s, .string t] 9)).alloc (.cells #[.string s] 9)).alloc (.cells #[.slice (some ⟨w10.heap.size, 0, none⟩) 2 2, .slice (some ⟨w10.heap.size + 1, 0, none⟩) 1 1, .slice none 0 0] 33)).alloc (.cells #[.int .i64 (1 + (n0 : Int)), .int .i64 (1 + (m0 : Int))] 3)) := ⟨_, rfl⟩
    have hs3 : W3.heap.size = w10.heap.size + 4 := by rw [hW3]; simp
    have rz : Rowz W3 W3.heap.size (some ⟨w10.heap.size + 1 + 1, 0, none⟩) [⟨some ⟨w10.heap.size, 0, none⟩, 2, [s, t]⟩, ⟨some ⟨w10.heap.size + 1, 0, none⟩, 1, [s]⟩, ⟨none, 0, []⟩] := by
      refine ⟨seg_heap (cs := #[.slice (some ⟨w10.heap.size, 0, none⟩) 2 2, .slice (some ⟨w10.heap.size + 1, 0, none⟩) 1 1, .slice none 0 0]) (e := 33) (fz := (0, 0)) (by rw [hW3]; exact al2 _ _ _ _ _) (by omega), fun x hx => ?_⟩
      rcases List.mem_cons.1 hx with rfl | hx
      · exact seg_heap (cs := #[.string s, .string t]) (e := 9) (fz := (0, 0)) (by rw [hW3]; exact al0 _ _ _ _ _) (by omega)
      · rcases List.mem_cons.1 hx with rfl | hx
        · exact seg_heap (cs := #[.string s]) (e := 9) (fz := (0, 0)) (by rw [hW3]; exact al1 _ _ _ _ _) (by omega)
        · obtain rfl := List.mem_singleton.1 hx
          exact Seg.nil
    have si : Seg W3 W3.heap.size (some ⟨w10.heap.size + 1 + 1 + 1, 0, none⟩) (ints [1 + (n0 : Int), 1 + (m0 : Int)]) := seg_heap (cs := #[.int .i64 (1 + (n0 : Int)), .int .i64 (1 + (m0 : Int))]) (e := 3) (fz := (0, 0)) (by rw [hW3]; exact al3 _ _ _ _ _) (by omega)
    have b3 : Below w10.heap.size w10 W3 := by
      rw [hW3]
      exact ((((Below.refl _ w10).alloc (Nat.le_refl _) _).alloc (by simp) _).alloc (by simp; omega) _).alloc (by simp; omega) _
    have B11 := Lib.hid (B10.out.trans (b3.mono B10.out.size))
    have PC := pcols_any (some ⟨w10.heap.size + 1 + 1, 0, none⟩) 3 3 [⟨some ⟨w10.heap.size, 0, none⟩, 2, [s, t]⟩, ⟨some ⟨w10.heap.size + 1, 0, none⟩, 1, [s]⟩, ⟨none, 0, []⟩] rfl ⟨by simp, by simp, by simp; omega⟩ (some ⟨w10.heap.size + 1 + 1 + 1, 0, none⟩) 2 2 [1 + (n0 : Int), 1 + (m0 : Int)] rfl (by omega) W3 W3.heap.size (Nat.le_refl _) rz si
    rw [← hW3]
    clear rz si b3 hs3 hW3
    refine PC.mono ?_
    clear PC
    rintro e w12 ⟨hc, hb12⟩
    rw [show tdat _ = [[nl s, nl t], [nl s], []] from rfl, wid_cols s t n0 m0 hn0 hm0] at hc
    obtain ⟨A9, c9, t9, rfl, ho9, hd9⟩ := hc
    obtain ⟨x, y, rfl, hx⟩ := wid_three hd9
    obtain ⟨g, hg, _, _⟩ := own_head ho9 (by simp)
    subst hg
    have y0 : w12.cell? ⟨g, 0, none⟩ = some (.string x) := by rw [ho9.cellAt 0 (by simp)]; rfl
    have y2 : w12.cell? ⟨g, 2, none⟩ = some (.string ⟨#[]⟩) := by rw [ho9.cellAt 2 (by simp)]; rfl
    have B12 := Lib.hid (B11.out.trans (hb12.mono B11.out.size))
    have hfull : nl x = trimN (nl (a ++ (⟨#[32]⟩ : ByteArray) ++ b)) := by
      rw [hx, nl_app, nl_app, FA.out, FB.out, show nl (⟨#[32]⟩ : ByteArray) = [32] from by decide]
      simp
    have HF := Lib.hid hfull
    clear ho9 hd9 hb12 hx hfull
    go_wp2_with fail
    go_loop [16] (fun fv => ∃ f : ByteArray, fv = .string f ∧ nl x = trimN (nl f) ∧ f.size ≤ 50000) (fun fv => strLen fv)
    case atStart => exact ⟨_, rfl, HF.out, by rw [ByteArray.size_append, ByteArray.size_append]; show a.size + 1 + b.size ≤ _; omega⟩
    case round =>
      obtain ⟨f, rfl, hf, hfz⟩ := hrel
      have HF2 := Lib.hid hf
      clear hf
      rcases Nat.eq_zero_or_pos f.size with h0 | h0
      · have hfi : decide ((0 : Int) < (f.size : Int)) = false := decide_eq_false (by omega)
        have hfi2 : decide (0 < f.size) = false := decide_eq_false (by omega)
        have hcmp : (x.toList == f.toList) = true := beq_iff_eq.2 (by
          have e : nl f = [] := List.eq_nil_of_length_eq_zero (by rw [nl_len]; exact h0)
          rw [show x = f from nl_inj (by rw [HF2.out, e]; rfl)])
        clear h0
        go_wp2_with fail
        go_ret
        exact ⟨rfl, B12.out⟩
      · have hfi : decide ((0 : Int) < (f.size : Int)) = true := decide_eq_true (by omega)
        have hfi2 : decide (0 < f.size) = true := by simpa using h0
        have hf1 : (1 : Int) ≤ (f.size : Int) := by omega
        obtain ⟨c, hc⟩ : ∃ c : Nat, (f[f.size - 1]'(by omega)).toNat = c := ⟨_, rfl⟩
        have hix : ∀ W : World, (Instr.index 9 (.string f) (.int .i64 ((f.size : Int) - 1))).run Tryd.prog W = .ok (.int .u8 (c : Int)) W := fun W => by
          rw [run_index_string W 9 f .i64 ((f.size : Int) - 1) Tryd.underlying9, dif_pos ⟨by omega, by omega⟩]
          have : ((f.size : Int) - 1).toNat = f.size - 1 := by omega
          simp only [this]
          rw [← hc]
        obtain ⟨T, hT⟩ : ∃ T, T = f.extract 0 (f.size - 1) := ⟨_, rfl⟩
        have hsl : ∀ W : World, (Instr.slice 9 (.string f) none (some (.int .i64 ((f.size : Int) - 1))) none).run Tryd.prog W = .ok (.string T) W := fun W => by rw [run_slice_string_to_if _ _ _ _ _ Tryd.underlying9, if_pos ⟨by omega, by omega⟩, hT, show ((f.size : Int) - 1).toNat = f.size - 1 from by omega]
        have hnl : nl f = nl T ++ [c] := by
          rw [hT, nl_extract, List.drop_zero, Nat.sub_zero, ← hc, ← nl_at f (f.size - 1) (by omega), ← List.take_succ_eq_append_getElem (by rw [nl_len]; omega), List.take_of_length_le (by rw [nl_len]; omega)]
        have hTz : T.size + 1 = f.size := by
          have := congrArg List.length hnl
          rw [List.length_append, nl_len, nl_len] at this
          simpa using this.symm
        have HNL := Lib.hid hnl
        have HTZ := Lib.hid hTz
        clear hnl hT hc hTz
        by_cases h32 : c = 32
        · subst h32
          clear h0
          go_wp2_with fail
          refine ⟨⟨T, rfl, ?_, by have := HTZ.out; omega⟩, by show T.size < f.size; have := HTZ.out; omega⟩
          rw [HF2.out, HNL.out, trimN_snoc]
        · have h32d : ((c : Int) == 32) = false := by simp; omega
          have hcmp : (x.toList == f.toList) = true := beq_iff_eq.2 (by
            rw [show x = f from nl_inj (by
              rw [HF2.out]
              exact trimN_stop (by rw [HNL.out]; simpa using h32))])
          clear h0 h32
          go_wp2_with fail
          go_ret
          exact ⟨rfl, B12.out⟩
  · have i1 : decide ((L : Int) ≤ 1 + (n0 : Int)) = false := by simp; omega
    have i2 : decide (1 + (n0 : Int) < (L : Int)) = true := by simp; omega
    obtain ⟨e1, e2, e3, e4⟩ := fit_long (by omega) FA.out U.out (by rw [HL.out]; omega)
    have i3 : decide ((u.size : Int) < (a.size : Int) - 1) = false := by simp; omega
    have i6 : ∀ W : World, (Instr.index 9 (.string a) (.int .i64 ((a.size : Int) - 1))).run Tryd.prog W = .ok (.int .u8 126) W := fun W => by
      rw [run_index_string W 9 a .i64 ((a.size : Int) - 1) Tryd.underlying9, dif_pos ⟨by omega, by omega⟩]
      have : ((a.size : Int) - 1).toNat = a.size - 1 := by omega
      simp only [this, e4 (by omega)]
      rfl
    obtain ⟨T, hT⟩ : ∃ T, T = a.extract 0 (a.size - 1) := ⟨_, rfl⟩
    rw [← hT] at e3
    have i7 : ∀ W : World, (Instr.slice 9 (.string a) none (some (.int .i64 ((a.size : Int) - 1))) none).run Tryd.prog W = .ok (.string T) W := fun W => by rw [run_slice_string_to_if _ _ _ _ _ Tryd.underlying9, if_pos ⟨by omega, by omega⟩, hT, show ((a.size : Int) - 1).toNat = a.size - 1 from by omega]
    have i4 : ∀ W : World, (Instr.slice 9 (.string u) none (some (.int .i64 ((a.size : Int) - 1))) none).run Tryd.prog W = .ok (.string T) W := fun W => by rw [run_slice_string_to_if _ _ _ _ _ Tryd.underlying9, if_pos ⟨by omega, by omega⟩, ← e3, show ((a.size : Int) - 1).toNat = a.size - 1 from by omega]
    have i5 : (T.toList == T.toList) = true := by simp
    have i8 : IntKind.i64.wrap ((a.size : Int) - 1) = (a.size : Int) - 1 := IntWalk.i64_in _ (by omega)
    have i9 : (1 : Int) ≤ (a.size : Int) := by omega
    clear e1 e2 e3 e4 hle ll hT
    refine wp_region_held_drew (S := fun _ => True) (by kernel_rfl) trivial (fun hHeld => ?_)
    (refine held_take (i := 0) rfl rfl (by kernel_rfl) (by kernel_rfl) (by kernel_rfl) (fun _ _ _ h => h) (by rfl) (by intro w hSw; (try dsimp only at hSw); go_simp; first | done | with_reducible rfl) trivial ?_; try simp only [Act.put, List.setIfInBounds_toArray, List.set_cons_zero, List.set_cons_succ])
    (refine held_take (i := 2) rfl rfl (by kernel_rfl) (by kernel_rfl) (by kernel_rfl) (fun _ _ _ h => h) (by rfl) (by intro w hSw; (try dsimp only at hSw); go_simp; first | done | with_reducible rfl) trivial ?_; try simp only [Act.put, List.setIfInBounds_toArray, List.set_cons_zero, List.set_cons_succ])
    refine wpAnyH_ready (rs := [1]) (by kernel_rfl) (by simp) ?_
    refine AllReadyH.cons rfl (fun K hK => ?_) AllReadyH.nil
    go_simp
    go_at_call 31
    refine (WD.out _).mono ?_
    rintro e w9 ⟨rfl, hb9⟩
    have B9 := Lib.hid (B8.out.drew.trans (hb9.mono (by exact hs8)))
    have hw9 := B9.out.size
    clear hb9
    refine hK.out _ _ trivial (fun hHeld => ?_)
    clear hK K
    try simp only [Act.put, List.setIfInBounds_toArray, List.set_cons_zero, List.set_cons_succ]
    (refine held_take (i := 3) rfl rfl (by kernel_rfl) (by kernel_rfl) (by kernel_rfl) (fun _ _ _ h => h) (by rfl) (by intro w hSw; (try dsimp only at hSw); go_simp; first | done | with_reducible rfl) trivial ?_; try simp only [Act.put, List.setIfInBounds_toArray, List.set_cons_zero, List.set_cons_succ])
    (refine held_take (i := 4) rfl rfl (by kernel_rfl) (by kernel_rfl) (by kernel_rfl) (fun _ _ _ h => h) (by rfl) (by intro w hSw; (try dsimp only at hSw); go_simp; first | done | with_reducible rfl) trivial ?_; try simp only [Act.put, List.setIfInBounds_toArray, List.set_cons_zero, List.set_cons_succ])
    (refine held_skip (i := 5) rfl rfl (by kernel_rfl) (by kernel_rfl) (by kernel_rfl) (fun _ _ _ h => h) (by rfl) trivial ?_; try simp only [Act.put, List.setIfInBounds_toArray, List.set_cons_zero, List.set_cons_succ])
    (refine held_skip (i := 6) rfl rfl (by kernel_rfl) (by kernel_rfl) (by kernel_rfl) (fun _ _ _ h => h) (by rfl) trivial ?_; try simp only [Act.put, List.setIfInBounds_toArray, List.set_cons_zero, List.set_cons_succ])
    (refine held_skip (i := 7) rfl rfl (by kernel_rfl) (by kernel_rfl) (by kernel_rfl) (fun _ _ _ h => h) (by rfl) trivial ?_; try simp only [Act.put, List.setIfInBounds_toArray, List.set_cons_zero, List.set_cons_succ])
    (refine held_skip (i := 8) rfl rfl (by kernel_rfl) (by kernel_rfl) (by kernel_rfl) (fun _ _ _ h => h) (by rfl) trivial ?_; try simp only [Act.put, List.setIfInBounds_toArray, List.set_cons_zero, List.set_cons_succ])
    (refine held_skip (i := 9) rfl rfl (by kernel_rfl) (by kernel_rfl) (by kernel_rfl) (fun _ _ _ h => h) (by rfl) trivial ?_; try simp only [Act.put, List.setIfInBounds_toArray, List.set_cons_zero, List.set_cons_succ])
    (refine held_skip (i := 10) rfl rfl (by kernel_rfl) (by kernel_rfl) (by kernel_rfl) (fun _ _ _ h => h) (by rfl) trivial ?_; try simp only [Act.put, List.setIfInBounds_toArray, List.set_cons_zero, List.set_cons_succ])
    (refine held_skip (i := 11) rfl rfl (by kernel_rfl) (by kernel_rfl) (by kernel_rfl) (fun _ _ _ h => h) (by rfl) trivial ?_; try simp only [Act.put, List.setIfInBounds_toArray, List.set_cons_zero, List.set_cons_succ])
    (refine held_skip (i := 12) rfl rfl (by kernel_rfl) (by kernel_rfl) (by kernel_rfl) (fun _ _ _ h => h) (by rfl) trivial ?_; try simp only [Act.put, List.setIfInBounds_toArray, List.set_cons_zero, List.set_cons_succ])
    (refine held_skip (i := 13) rfl rfl (by kernel_rfl) (by kernel_rfl) (by kernel_rfl) (fun _ _ _ h => h) (by rfl) trivial ?_; try simp only [Act.put, List.setIfInBounds_toArray, List.set_cons_zero, List.set_cons_succ])
    (refine held_skip (i := 14) rfl rfl (by kernel_rfl) (by kernel_rfl) (by kernel_rfl) (fun _ _ _ h => h) (by rfl) trivial ?_; try simp only [Act.put, List.setIfInBounds_toArray, List.set_cons_zero, List.set_cons_succ])
    (refine held_skip (i := 15) rfl rfl (by kernel_rfl) (by kernel_rfl) (by kernel_rfl) (fun _ _ _ h => h) (by rfl) trivial ?_; try simp only [Act.put, List.setIfInBounds_toArray, List.set_cons_zero, List.set_cons_succ])
    (refine held_skip (i := 16) rfl rfl (by kernel_rfl) (by kernel_rfl) (by kernel_rfl) (fun _ _ _ h => h) (by rfl) trivial ?_; try simp only [Act.put, List.setIfInBounds_toArray, List.set_cons_zero, List.set_cons_succ])
    (refine held_skip (i := 17) rfl rfl (by kernel_rfl) (by kernel_rfl) (by kernel_rfl) (fun _ _ _ h => h) (by rfl) trivial ?_; try simp only [Act.put, List.setIfInBounds_toArray, List.set_cons_zero, List.set_cons_succ])
    (refine held_take (i := 18) rfl rfl (by kernel_rfl) (by kernel_rfl) (by kernel_rfl) (fun _ _ _ h => h) (by rfl) (by intro w hSw; (try dsimp only at hSw); go_simp; first | done | with_reducible rfl) trivial ?_; try simp only [Act.put, List.setIfInBounds_toArray, List.set_cons_zero, List.set_cons_succ])
    (refine held_take (i := 19) rfl rfl (by kernel_rfl) (by kernel_rfl) (by kernel_rfl) (fun _ _ _ h => h) (by rfl) (by intro w hSw; (try dsimp only at hSw); go_simp; first | done | with_reducible rfl) trivial ?_; try simp only [Act.put, List.setIfInBounds_toArray, List.set_cons_zero, List.set_cons_succ])
    (refine held_take (i := 20) rfl rfl (by kernel_rfl) (by kernel_rfl) (by kernel_rfl) (fun _ _ _ h => h) (by rfl) (by intro w hSw; (try dsimp only at hSw); go_simp; first | done | with_reducible rfl) trivial ?_; try simp only [Act.put, List.setIfInBounds_toArray, List.set_cons_zero, List.set_cons_succ])
    (refine held_take (i := 22) rfl rfl (by kernel_rfl) (by kernel_rfl) (by kernel_rfl) (fun _ _ _ h => h) (by rfl) (by intro w hSw; (try dsimp only at hSw); go_simp; first | done | with_reducible rfl) trivial ?_; try simp only [Act.put, List.setIfInBounds_toArray, List.set_cons_zero, List.set_cons_succ])
    refine wpAnyH_ready (rs := [21]) (by kernel_rfl) (by simp) ?_
    refine AllReadyH.cons rfl (fun K hK => ?_) AllReadyH.nil
    go_simp
    go_at_call 31
    refine (WD.out _).mono ?_
    rintro e w10 ⟨rfl, hb9⟩
    have B10 := Lib.hid (B9.out.trans (hb9.mono (hw9)))
    have hw10 := B10.out.size
    clear hb9
    refine hK.out _ _ trivial (fun hHeld => ?_)
    clear hK K
    try simp only [Act.put, List.setIfInBounds_toArray, List.set_cons_zero, List.set_cons_succ]
    (refine held_take (i := 23) rfl rfl (by kernel_rfl) (by kernel_rfl) (by kernel_rfl) (fun _ _ _ h => h) (by rfl) (by intro w hSw; (try dsimp only at hSw); go_simp; first | done | with_reducible rfl) trivial ?_; try simp only [Act.put, List.setIfInBounds_toArray, List.set_cons_zero, List.set_cons_succ])
    (refine held_take (i := 24) rfl rfl (by kernel_rfl) (by kernel_rfl) (by kernel_rfl) (fun _ _ _ h => h) (by rfl) (by intro w hSw; (try dsimp only at hSw); go_simp; first | done | with_reducible rfl) trivial ?_; try simp only [Act.put, List.setIfInBounds_toArray, List.set_cons_zero, List.set_cons_succ])
    (refine held_take (i := 25) rfl rfl (by kernel_rfl) (by kernel_rfl) (by kernel_rfl) (fun _ _ _ h => h) (by rfl) (by intro w hSw; (try dsimp only at hSw); go_simp; first | done | with_reducible rfl) trivial ?_; try simp only [Act.put, List.setIfInBounds_toArray, List.set_cons_zero, List.set_cons_succ])
    (refine held_take (i := 26) rfl rfl (by kernel_rfl) (by kernel_rfl) (by kernel_rfl) (fun _ _ _ h => h) (by rfl) (by intro w hSw; (try dsimp only at hSw); go_simp; first | done | with_reducible rfl) trivial ?_; try simp only [Act.put, List.setIfInBounds_toArray, List.set_cons_zero, List.set_cons_succ])
    (refine held_take (i := 27) rfl rfl (by kernel_rfl) (by kernel_rfl) (by kernel_rfl) (fun _ _ _ h => h) (by rfl) (by intro w hSw; (try dsimp only at hSw); go_simp; first | done | with_reducible rfl) trivial ?_; try simp only [Act.put, List.setIfInBounds_toArray, List.set_cons_zero, List.set_cons_succ])
    (refine held_take (i := 28) rfl rfl (by kernel_rfl) (by kernel_rfl) (by kernel_rfl) (fun _ _ _ h => h) (by rfl) (by intro w hSw; (try dsimp only at hSw); go_simp; first | done | with_reducible rfl) trivial ?_; try simp only [Act.put, List.setIfInBounds_toArray, List.set_cons_zero, List.set_cons_succ])
    (refine held_take (i := 29) rfl rfl (by kernel_rfl) (by kernel_rfl) (by kernel_rfl) (fun _ _ _ h => h) (by rfl) (by intro w hSw; (try dsimp only at hSw); go_simp; first | done | with_reducible rfl) trivial ?_; try simp only [Act.put, List.setIfInBounds_toArray, List.set_cons_zero, List.set_cons_succ])
    (refine held_take (i := 30) rfl rfl (by kernel_rfl) (by kernel_rfl) (by kernel_rfl) (fun _ _ _ h => h) (by rfl) (by intro w hSw; (try dsimp only at hSw); go_simp; first | done | with_reducible rfl) trivial ?_; try simp only [Act.put, List.setIfInBounds_toArray, List.set_cons_zero, List.set_cons_succ])
    (refine held_take (i := 31) rfl rfl (by kernel_rfl) (by kernel_rfl) (by kernel_rfl) (fun _ _ _ h => h) (by rfl) (by intro w hSw; (try dsimp only at hSw); go_simp; first | done | with_reducible rfl) trivial ?_; try simp only [Act.put, List.setIfInBounds_toArray, List.set_cons_zero, List.set_cons_succ])
    (refine held_take (i := 32) rfl rfl (by kernel_rfl) (by kernel_rfl) (by kernel_rfl) (fun _ _ _ h => h) (by rfl) (by intro w hSw; (try dsimp only at hSw); go_simp; first | done | with_reducible rfl) trivial ?_; try simp only [Act.put, List.setIfInBounds_toArray, List.set_cons_zero, List.set_cons_succ])
    (refine held_take (i := 33) rfl rfl (by kernel_rfl) (by kernel_rfl) (by kernel_rfl) (fun _ _ _ h => h) (by rfl) (by intro w hSw; (try dsimp only at hSw); go_simp; first | done | with_reducible rfl) trivial ?_; try simp only [Act.put, List.setIfInBounds_toArray, List.set_cons_zero, List.set_cons_succ])
    (refine held_take (i := 34) rfl rfl (by kernel_rfl) (by kernel_rfl) (by kernel_rfl) (fun _ _ _ h => h) (by rfl) (by intro w hSw; (try dsimp only at hSw); go_simp; first | done | with_reducible rfl) trivial ?_; try simp only [Act.put, List.setIfInBounds_toArray, List.set_cons_zero, List.set_cons_succ])
    (refine held_take (i := 35) rfl rfl (by kernel_rfl) (by kernel_rfl) (by kernel_rfl) (fun _ _ _ h => h) (by rfl) (by intro w hSw; (try dsimp only at hSw); go_simp; first | done | with_reducible rfl) trivial ?_; try simp only [Act.put, List.setIfInBounds_toArray, List.set_cons_zero, List.set_cons_succ])
    (refine held_take (i := 36) rfl rfl (by kernel_rfl) (by kernel_rfl) (by kernel_rfl) (fun _ _ _ h => h) (by rfl) (by intro w hSw; (try dsimp only at hSw); go_simp; first | done | with_reducible rfl) trivial ?_; try simp only [Act.put, List.setIfInBounds_toArray, List.set_cons_zero, List.set_cons_succ])
    (refine held_take (i := 37) rfl rfl (by kernel_rfl) (by kernel_rfl) (by kernel_rfl) (fun _ _ _ h => h) (by rfl) (by intro w hSw; (try dsimp only at hSw); go_simp; first | done | with_reducible rfl) trivial ?_; try simp only [Act.put, List.setIfInBounds_toArray, List.set_cons_zero, List.set_cons_succ])
    (refine held_take (i := 38) rfl rfl (by kernel_rfl) (by kernel_rfl) (by kernel_rfl) (fun _ _ _ h => h) (by rfl) (by intro w hSw; (try dsimp only at hSw); go_simp; first | done | with_reducible rfl) trivial ?_; try simp only [Act.put, List.setIfInBounds_toArray, List.set_cons_zero, List.set_cons_succ])
    (refine held_take (i := 39) rfl rfl (by kernel_rfl) (by kernel_rfl) (by kernel_rfl) (fun _ _ _ h => h) (by rfl) (by intro w hSw; (try dsimp only at hSw); go_simp; first | done | with_reducible rfl) trivial ?_; try simp only [Act.put, List.setIfInBounds_toArray, List.set_cons_zero, List.set_cons_succ])
    (refine held_take (i := 40) rfl rfl (by kernel_rfl) (by kernel_rfl) (by kernel_rfl) (fun _ _ _ h => h) (by rfl) (by intro w hSw; (try dsimp only at hSw); go_simp; first | done | with_reducible rfl) trivial ?_; try simp only [Act.put, List.setIfInBounds_toArray, List.set_cons_zero, List.set_cons_succ])
    (refine held_take (i := 41) rfl rfl (by kernel_rfl) (by kernel_rfl) (by kernel_rfl) (fun _ _ _ h => h) (by rfl) (by intro w hSw; (try dsimp only at hSw); go_simp; first | done | with_reducible rfl) trivial ?_; try simp only [Act.put, List.setIfInBounds_toArray, List.set_cons_zero, List.set_cons_succ])
    (refine held_take (i := 42) rfl rfl (by kernel_rfl) (by kernel_rfl) (by kernel_rfl) (fun _ _ _ h => h) (by rfl) (by intro w hSw; (try dsimp only at hSw); go_simp; first | done | with_reducible rfl) trivial ?_; try simp only [Act.put, List.setIfInBounds_toArray, List.set_cons_zero, List.set_cons_succ])
    (refine held_take (i := 43) rfl rfl (by kernel_rfl) (by kernel_rfl) (by kernel_rfl) (fun _ _ _ h => h) (by rfl) (by intro w hSw; (try dsimp only at hSw); go_simp; first | done | with_reducible rfl) trivial ?_; try simp only [Act.put, List.setIfInBounds_toArray, List.set_cons_zero, List.set_cons_succ])
    (refine held_take (i := 44) rfl rfl (by kernel_rfl) (by kernel_rfl) (by kernel_rfl) (fun _ _ _ h => h) (by rfl) (by intro w hSw; (try dsimp only at hSw); go_simp; first | done | with_reducible rfl) trivial ?_; try simp only [Act.put, List.setIfInBounds_toArray, List.set_cons_zero, List.set_cons_succ])
    (refine held_take (i := 45) rfl rfl (by kernel_rfl) (by kernel_rfl) (by kernel_rfl) (fun _ _ _ h => h) (by rfl) (by intro w hSw; (try dsimp only at hSw); go_simp; first | done | with_reducible rfl) trivial ?_; try simp only [Act.put, List.setIfInBounds_toArray, List.set_cons_zero, List.set_cons_succ])
    (refine held_take (i := 46) rfl rfl (by kernel_rfl) (by kernel_rfl) (by kernel_rfl) (fun _ _ _ h => h) (by rfl) (by intro w hSw; (try dsimp only at hSw); go_simp; first | done | with_reducible rfl) trivial ?_; try simp only [Act.put, List.setIfInBounds_toArray, List.set_cons_zero, List.set_cons_succ])
    (refine held_take (i := 47) rfl rfl (by kernel_rfl) (by kernel_rfl) (by kernel_rfl) (fun _ _ _ h => h) (by rfl) (by intro w hSw; (try dsimp only at hSw); go_simp; first | done | with_reducible rfl) trivial ?_; try simp only [Act.put, List.setIfInBounds_toArray, List.set_cons_zero, List.set_cons_succ])
    (refine held_take (i := 48) rfl rfl (by kernel_rfl) (by kernel_rfl) (by kernel_rfl) (fun _ _ _ h => h) (by rfl) (by intro w hSw; (try dsimp only at hSw); go_simp; first | done | with_reducible rfl) trivial ?_; try simp only [Act.put, List.setIfInBounds_toArray, List.set_cons_zero, List.set_cons_succ])
    (refine held_take (i := 49) rfl rfl (by kernel_rfl) (by kernel_rfl) (by kernel_rfl) (fun _ _ _ h => h) (by rfl) (by intro w hSw; (try dsimp only at hSw); go_simp; first | done | with_reducible rfl) trivial ?_; try simp only [Act.put, List.setIfInBounds_toArray, List.set_cons_zero, List.set_cons_succ])
    (refine held_take (i := 50) rfl rfl (by kernel_rfl) (by kernel_rfl) (by kernel_rfl) (fun _ _ _ h => h) (by rfl) (by intro w hSw; (try dsimp only at hSw); go_simp; first | done | with_reducible rfl) trivial ?_; try simp only [Act.put, List.setIfInBounds_toArray, List.set_cons_zero, List.set_cons_succ])
    (refine held_take (i := 51) rfl rfl (by kernel_rfl) (by kernel_rfl) (by kernel_rfl) (fun _ _ _ h => h) (by rfl) (by intro w hSw; (try dsimp only at hSw); go_simp; first | done | with_reducible rfl) trivial ?_; try simp only [Act.put, List.setIfInBounds_toArray, List.set_cons_zero, List.set_cons_succ])
    (refine held_take (i := 52) rfl rfl (by kernel_rfl) (by kernel_rfl) (by kernel_rfl) (fun _ _ _ h => h) (by rfl) (by intro w hSw; (try dsimp only at hSw); go_simp; first | done | with_reducible rfl) trivial ?_; try simp only [Act.put, List.setIfInBounds_toArray, List.set_cons_zero, List.set_cons_succ])
    (refine held_take (i := 53) rfl rfl (by kernel_rfl) (by kernel_rfl) (by kernel_rfl) (fun _ _ _ h => h) (by rfl) (by intro w hSw; (try dsimp only at hSw); go_simp; first | done | with_reducible rfl) trivial ?_; try simp only [Act.put, List.setIfInBounds_toArray, List.set_cons_zero, List.set_cons_succ])
    refine wpAnyH_done (by kernel_rfl) ?_ _
    go_wp2_with fail
    obtain ⟨W3, hW3⟩ : ∃ W3, W3 = ((((w10.alloc (.cells #[.string s, .string t] 9)).alloc (.cells #[.string s] 9)).alloc (.cells #[.slice (some ⟨w10.heap.size, 0, none⟩) 2 2, .slice (some ⟨w10.heap.size + 1, 0, none⟩) 1 1, .slice none 0 0] 33)).alloc (.cells #[.int .i64 (1 + (n0 : Int)), .int .i64 (1 + (m0 : Int))] 3)) := ⟨_, rfl⟩
    have hs3 : W3.heap.size = w10.heap.size + 4 := by rw [hW3]; simp
    have rz : Rowz W3 W3.heap.size (some ⟨w10.heap.size + 1 + 1, 0, none⟩) [⟨some ⟨w10.heap.size, 0, none⟩, 2, [s, t]⟩, ⟨some ⟨w10.heap.size + 1, 0, none⟩, 1, [s]⟩, ⟨none, 0, []⟩] := by
      refine ⟨seg_heap (cs := #[.slice (some ⟨w10.heap.size, 0, none⟩) 2 2, .slice (some ⟨w10.heap.size + 1, 0, none⟩) 1 1, .slice none 0 0]) (e := 33) (fz := (0, 0)) (by rw [hW3]; exact al2 _ _ _ _ _) (by omega), fun x hx => ?_⟩
      rcases List.mem_cons.1 hx with rfl | hx
      · exact seg_heap (cs := #[.string s, .string t]) (e := 9) (fz := (0, 0)) (by rw [hW3]; exact al0 _ _ _ _ _) (by omega)
      · rcases List.mem_cons.1 hx with rfl | hx
        · exact seg_heap (cs := #[.string s]) (e := 9) (fz := (0, 0)) (by rw [hW3]; exact al1 _ _ _ _ _) (by omega)
        · obtain rfl := List.mem_singleton.1 hx
          exact Seg.nil
    have si : Seg W3 W3.heap.size (some ⟨w10.heap.size + 1 + 1 + 1, 0, none⟩) (ints [1 + (n0 : Int), 1 + (m0 : Int)]) := seg_heap (cs := #[.int .i64 (1 + (n0 : Int)), .int .i64 (1 + (m0 : Int))]) (e := 3) (fz := (0, 0)) (by rw [hW3]; exact al3 _ _ _ _ _) (by omega)
    have b3 : Below w10.heap.size w10 W3 := by
      rw [hW3]
      exact ((((Below.refl _ w10).alloc (Nat.le_refl _) _).alloc (by simp) _).alloc (by simp; omega) _).alloc (by simp; omega) _
    have B11 := Lib.hid (B10.out.trans (b3.mono B10.out.size))
    have PC := pcols_any (some ⟨w10.heap.size + 1 + 1, 0, none⟩) 3 3 [⟨some ⟨w10.heap.size, 0, none⟩, 2, [s, t]⟩, ⟨some ⟨w10.heap.size + 1, 0, none⟩, 1, [s]⟩, ⟨none, 0, []⟩] rfl ⟨by simp, by simp, by simp; omega⟩ (some ⟨w10.heap.size + 1 + 1 + 1, 0, none⟩) 2 2 [1 + (n0 : Int), 1 + (m0 : Int)] rfl (by omega) W3 W3.heap.size (Nat.le_refl _) rz si
    rw [← hW3]
    clear rz si b3 hs3 hW3
    refine PC.mono ?_
    clear PC
    rintro e w12 ⟨hc, hb12⟩
    rw [show tdat _ = [[nl s, nl t], [nl s], []] from rfl, wid_cols s t n0 m0 hn0 hm0] at hc
    obtain ⟨A9, c9, t9, rfl, ho9, hd9⟩ := hc
    obtain ⟨x, y, rfl, hx⟩ := wid_three hd9
    obtain ⟨g, hg, _, _⟩ := own_head ho9 (by simp)
    subst hg
    have y0 : w12.cell? ⟨g, 0, none⟩ = some (.string x) := by rw [ho9.cellAt 0 (by simp)]; rfl
    have y2 : w12.cell? ⟨g, 2, none⟩ = some (.string ⟨#[]⟩) := by rw [ho9.cellAt 2 (by simp)]; rfl
    have B12 := Lib.hid (B11.out.trans (hb12.mono B11.out.size))
    have hfull : nl x = trimN (nl (a ++ (⟨#[32]⟩ : ByteArray) ++ b)) := by
      rw [hx, nl_app, nl_app, FA.out, FB.out, show nl (⟨#[32]⟩ : ByteArray) = [32] from by decide]
      simp
    have HF := Lib.hid hfull
    clear ho9 hd9 hb12 hx hfull
    go_wp2_with fail
    go_loop [16] (fun fv => ∃ f : ByteArray, fv = .string f ∧ nl x = trimN (nl f) ∧ f.size ≤ 50000) (fun fv => strLen fv)
    case atStart => exact ⟨_, rfl, HF.out, by rw [ByteArray.size_append, ByteArray.size_append]; show a.size + 1 + b.size ≤ _; omega⟩
    case round =>
      obtain ⟨f, rfl, hf, hfz⟩ := hrel
      have HF2 := Lib.hid hf
      clear hf
      rcases Nat.eq_zero_or_pos f.size with h0 | h0
      · have hfi : decide ((0 : Int) < (f.size : Int)) = false := decide_eq_false (by omega)
        have hfi2 : decide (0 < f.size) = false := decide_eq_false (by omega)
        have hcmp : (x.toList == f.toList) = true := beq_iff_eq.2 (by
          have e : nl f = [] := List.eq_nil_of_length_eq_zero (by rw [nl_len]; exact h0)
          rw [show x = f from nl_inj (by rw [HF2.out, e]; rfl)])
        clear h0
        go_wp2_with fail
        go_ret
        exact ⟨rfl, B12.out⟩
      · have hfi : decide ((0 : Int) < (f.size : Int)) = true := decide_eq_true (by omega)
        have hfi2 : decide (0 < f.size) = true := by simpa using h0
        have hf1 : (1 : Int) ≤ (f.size : Int) := by omega
        obtain ⟨c, hc⟩ : ∃ c : Nat, (f[f.size - 1]'(by omega)).toNat = c := ⟨_, rfl⟩
        have hix : ∀ W : World, (Instr.index 9 (.string f) (.int .i64 ((f.size : Int) - 1))).run Tryd.prog W = .ok (.int .u8 (c : Int)) W := fun W => by
          rw [run_index_string W 9 f .i64 ((f.size : Int) - 1) Tryd.underlying9, dif_pos ⟨by omega, by omega⟩]
          have : ((f.size : Int) - 1).toNat = f.size - 1 := by omega
          simp only [this]
          rw [← hc]
        obtain ⟨T, hT⟩ : ∃ T, T = f.extract 0 (f.size - 1) := ⟨_, rfl⟩
        have hsl : ∀ W : World, (Instr.slice 9 (.string f) none (some (.int .i64 ((f.size : Int) - 1))) none).run Tryd.prog W = .ok (.string T) W := fun W => by rw [run_slice_string_to_if _ _ _ _ _ Tryd.underlying9, if_pos ⟨by omega, by omega⟩, hT, show ((f.size : Int) - 1).toNat = f.size - 1 from by omega]
        have hnl : nl f = nl T ++ [c] := by
          rw [hT, nl_extract, List.drop_zero, Nat.sub_zero, ← hc, ← nl_at f (f.size - 1) (by omega), ← List.take_succ_eq_append_getElem (by rw [nl_len]; omega), List.take_of_length_le (by rw [nl_len]; omega)]
        have hTz : T.size + 1 = f.size := by
          have := congrArg List.length hnl
          rw [List.length_append, nl_len, nl_len] at this
          simpa using this.symm
        have HNL := Lib.hid hnl
        have HTZ := Lib.hid hTz
        clear hnl hT hc hTz
        by_cases h32 : c = 32
        · subst h32
          clear h0
          go_wp2_with fail
          refine ⟨⟨T, rfl, ?_, by have := HTZ.out; omega⟩, by show T.size < f.size; have := HTZ.out; omega⟩
          rw [HF2.out, HNL.out, trimN_snoc]
        · have h32d : ((c : Int) == 32) = false := by simp; omega
          have hcmp : (x.toList == f.toList) = true := beq_iff_eq.2 (by
            rw [show x = f from nl_inj (by
              rw [HF2.out]
              exact trimN_stop (by rw [HNL.out]; simpa using h32))])
          clear h0 h32
          go_wp2_with fail
          go_ret
          exact ⟨rfl, B12.out⟩
end Go.Proofs.YtfipljhlponcoaaDoor
