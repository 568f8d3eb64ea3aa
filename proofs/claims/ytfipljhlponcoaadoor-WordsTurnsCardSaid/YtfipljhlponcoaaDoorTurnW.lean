/- The walk of WordsTurns. -/
import Derived.Test.YtfipljhlponcoaaDoorTurnLaw
import Derived.Test.YtfipljhlponcoaaDoorWorks
import Derived.Deep.QuietTactic
import Derived.BigQuiet
import Derived.Lib.ItoaLen
set_option linter.unusedVariables false
namespace Go.Proofs.YtfipljhlponcoaaDoor
open Go.RowKit
theorem info52 : (Tryd.prog.info? 52).map (fun i => (i.zero, i.size, i.bytes)) = some (some (.int .i8 0), 1, 1) := by kernel_rfl
set_option maxRecDepth 100000 in
set_option maxHeartbeats 32000000 in
theorem turns_walk (n : Int) (n1 : -9223372036854775808 ≤ n) (n2 : n ≤ 9223372036854775807) (u : Nat) (hu : u < 18446744073709551616) (A : Option Addr) (m cap : Nat) (zs : List Int) (w : World)
    (hs : Seg w w.heap.size A (i8s zs)) (h8 : In8 zs) (hm : m = zs.length) (hl : m ≤ 140737488351232) (hy : Lay w) :
    Calls Tryd.prog 9 #[.int .i64 n, .int .u64 u, .slice A m cap] w fun e w' => e = .returned (.bool true) ∧ Below w.heap.size w w' := by
  obtain ⟨i0, fi, fz0, fz1, fz2⟩ := info_parts info52
  have HS := Lib.hid hs
  have H8 := Lib.hid h8
  have HM := Lib.hid hm
  have HY := Lib.hid hy
  have HU := Lib.hid hu
  have N12 := Lib.hid (And.intro n1 n2)
  have M1 := Lib.hid (show 0 + m ≤ maxLen by unfold maxLen; omega)
  have M2 := Lib.hid (show (0 + m) * 1 ≤ 140737488355328 by omega)
  have HL := Lib.hid hl
  have WK := works_any w hy
  have nn : (n != n) = false := by simp
  have ne : (n == n) = true := by simp
  have uu : ((u : Int) != (u : Int)) = false := by simp
  clear hs h8 hm hy hu
  go_enter Tryd.func9, Tryd.ntmps9
  go_wp2_with fail
  refine WK.mono ?_
  clear WK
  rintro e w1 ⟨rfl, hb1⟩
  have B1 := Lib.hid hb1
  have Y1 := Lib.hid (HY.out.below hb1)
  clear hb1
  go_wp2_with fail
  refine (fint_any n N12.out.1 N12.out.2 w1 Y1.out.p10).mono ?_
  rintro e w2 ⟨rfl, hb2⟩
  have B2 := Lib.hid (B1.out.trans (hb2.mono B1.out.size))
  have Y2 := Lib.hid (Y1.out.below hb2)
  clear hb2
  go_wp2_with fail
  have NA := num_any ⟨(Lib.itoa n).toArray⟩ (by
    have := Lib.itoa_length_le n N12.out.1 N12.out.2
    show ((Lib.itoa n).toArray).size ≤ _
    simp
    omega) w2 Y2.out.e1 Y2.out.e2 Y2.out.p10
  rw [num_itoa n N12.out.1 N12.out.2] at NA
  refine NA.mono ?_
  clear NA
  rintro e w3 ⟨rfl, hb3⟩
  have B3 := Lib.hid (B2.out.trans (hb3.mono B2.out.size))
  have Y3 := Lib.hid (Y2.out.below hb3)
  clear hb3
  go_wp2_with fail
  refine (dig_any 14 (.inl rfl) u HU.out w3 Y3.out.h5 Y3.out.c5).mono ?_
  rintro e w4 ⟨rfl, hb4⟩
  have B4 := Lib.hid (B3.out.trans (hb4.mono B3.out.size))
  have Y4 := Lib.hid (Y3.out.below hb4)
  clear hb4
  go_wp2_with fail
  have HX := phex_any (digT u) (by
    have := hexS_len 16 (by decide) u (by rw [show (16 : Nat) ^ 16 = 18446744073709551616 by decide]; exact HU.out)
    show ((48 :: 120 :: hexS u).toArray).size ≤ _
    simp
    omega) w4 Y4.out.e1 Y4.out.e2 Y4.out.h5 Y4.out.c5
  rw [hex_dig u HU.out] at HX
  refine HX.mono ?_
  clear HX
  rintro e w5 ⟨rfl, hb5⟩
  have B5 := Lib.hid (B4.out.trans (hb5.mono B4.out.size))
  have S5 := Lib.hid (HS.out.below B5.out)
  have hs5 := B5.out.size
  clear hb5 B1 B2 B3 B4 Y1 Y2 Y3 Y4 HY
  obtain ⟨a1, a2, a3⟩ := wrap8_bd n
  obtain ⟨b1, b2, b3⟩ := wrap16_bd n
  have W8 := Lib.hid fun W => pwrap8_any n W
  have W16 := Lib.hid fun W => pwrap16_any n W
  have WW16 := Lib.hid fun W => pwrap16_any (IntKind.i16.wrap n) W
  have e16 : IntKind.i16.wrap (IntKind.i16.wrap n) = IntKind.i16.wrap n := IntWalk.i16_in _ ⟨b1, b2⟩
  rw [e16] at WW16
  have x1 : n - IntKind.i8.wrap n = 256 * a3.choose := by have := a3.choose_spec; omega
  have x2 : n - IntKind.i16.wrap n = 65536 * b3.choose := by have := b3.choose_spec; omega
  have y1 := wrap64_mod _ _ x1
  have y2 := wrap64_mod16 _ _ x2
  have y3 : (n - IntKind.i8.wrap n).tmod 256 = 0 := by rw [x1]; exact Int.mul_tmod_right 256 _
  have y4 : (n - IntKind.i16.wrap n).tmod 65536 = 0 := by rw [x2]; exact Int.mul_tmod_right 65536 _
  have a4 : -128 ≤ n → n ≤ 127 → IntKind.i8.wrap n = n := fun h1 h2 => by simp [IntKind.wrap, IntKind.bits, IntKind.signed]; omega
  have S8 := Lib.hid fun W => psat8_any n W N12.out.1 N12.out.2
  have S16 := Lib.hid fun W => psat16_any n W N12.out.1 N12.out.2
  obtain ⟨c1, c2, c3⟩ := sat16_bd n
  have SS16 := Lib.hid fun W => psat16_any (sat16 n) W (by omega) (by omega)
  have e17 : sat16 (sat16 n) = sat16 n := by unfold sat16; omega
  rw [e17] at SS16
  clear e16 e17 x1 x2 a3 b3 c3
  generalize IntKind.i8.wrap n = p8 at W8 a1 a2 a4 y1 y3
  generalize IntKind.i16.wrap n = p16 at W16 WW16 b1 b2 y2 y4
  generalize sat16 n = q16 at S16 SS16 c1 c2
  have A4 := Lib.hid a4
  have Y1 := Lib.hid y1
  have Y2 := Lib.hid y2
  have Y3 := Lib.hid y3
  have Y4 := Lib.hid y4
  clear a4 y1 y2 y3 y4
  have qq : (q16 != q16) = false := by simp
  have pp : (p16 != p16) = false := by simp
  have z1 : ((wrap64 (n - p8)).tmod 256 != 0) = false := by rw [Y1.out]; rfl
  have z2 : ((wrap64 (n - p16)).tmod 65536 != 0) = false := by rw [Y2.out]; rfl
  have z3 : ((n - p8).tmod 256 != 0) = false := by rw [Y3.out]; rfl
  have z4 : ((n - p16).tmod 65536 != 0) = false := by rw [Y4.out]; rfl
  have OE := Lib.hid (own_empty w5 w5.heap.size 52 1 w5.heap.size rfl (Nat.le_refl _))
  have hm0 : m = 0 ↔ zs = [] := by rw [HM.out]; simp
  have HM0 := Lib.hid hm0
  clear hm0
  rcases Nat.eq_zero_or_pos m with h0 | h0
  · have hz := HM0.out.1 h0
    have g1 : meanI zs = 0 := by rw [hz]; rfl
    have g2 : meanE zs = 1 := by rw [hz]; rfl
    have PM0 := Lib.hid fun (A6 : Option Addr) (c6 : Nat) (w6 : World) (B : Nat) (h : Seg w6 B A6 (i8s zs)) => (by
      have := pmean_any A6 c6 zs m HM.out B w6 h H8.out HL.out
      rw [g1, g2] at this
      exact this : Calls Tryd.prog 33 #[.slice A6 m c6] w6 fun e w' => e = .returned (.tuple #[.int .i8 0, .int .i64 1]) ∧ w6 = w')
    have hmz : ((m : Int) == 0) = true := by simp; omega
    clear hz g1 g2 h0
    by_cases hin : -128 ≤ n ∧ n ≤ 127
    · obtain ⟨h1, h2⟩ := hin
      have e8 : sat8 n = n := by unfold sat8; omega
      have e9 := A4.out h1 h2
      rw [e8] at S8
      subst e9
      have d1 : decide (-128 ≤ p8) = true := by simpa using h1
      have d2 : decide (p8 ≤ 127) = true := by simpa using h2
      clear e8
      go_wp2_with (first
        | (go_at_call 35; refine (S8.out _).mono ?_; rintro e w' ⟨rfl, rfl⟩)
        | (go_at_call 34; refine (W8.out _).mono ?_; rintro e w' ⟨rfl, rfl⟩)
        | (go_at_call 37; ((with_reducible refine (S16.out _).mono ?_); rintro e w' ⟨rfl, rfl⟩))
        | (go_at_call 37; ((with_reducible refine (SS16.out _).mono ?_); rintro e w' ⟨rfl, rfl⟩))
        | (go_at_call 36; ((with_reducible refine (W16.out _).mono ?_); rintro e w' ⟨rfl, rfl⟩))
        | (go_at_call 36; ((with_reducible refine (WW16.out _).mono ?_); rintro e w' ⟨rfl, rfl⟩))
        | (at_builtin; refine wpList_append_seg _ rfl (.tmp 109) (.tmp 110) 55 rfl w5.heap.size 52 i0 _ 1 1 Tryd.underlying55 fi fz0 fz1 fz2 rfl (by decide) (.slice (some ⟨w5.heap.size, 0, none⟩) 0 0) 0 [] rfl OE.out w.heap.size A m cap (i8s zs) rfl (by rw [i8s_length, Nat.mul_one]; exact HM.out.symm) (S5.out.alloc hs5 _) (i8s_one zs) M1.out M2.out (by simp) ?_
           intro v6 w6 hown6 hg6 _
           rw [Nat.zero_add, List.nil_append] at hown6
           have hb6 : Below w5.heap.size w5 w6 := ((Below.refl _ w5).alloc (Nat.le_refl _) _).grown hg6 (by simp) (fun g hg => (OE.out.lt g hg).1)
           obtain ⟨A6, c6, rfl⟩ := own_shape hown6
           have PM := Lib.hid (PM0.out A6 c6 w6 _ (own_seg hown6))
           have S6 := Lib.hid ((S5.out.more hs5).below hb6); have B6 := Lib.hid (B5.out.trans (hb6.mono hs5)); clear hown6 hg6 hb6)
        | (go_at_call 33; refine PM.out.mono ?_; rintro e w' ⟨rfl, rfl⟩)
        | fail)
      go_ret
      exact ⟨rfl, B6.out⟩
    · by_cases h1 : n < -128
      · have e8 : sat8 n = -128 := by unfold sat8; omega
        rw [e8] at S8
        have d1 : decide (-128 ≤ n) = false := by simp; omega
        have d3 : ((-128 : Int) == n) = false := by simp; omega
        clear e8 hin
        go_wp2_with (first
          | (go_at_call 35; refine (S8.out _).mono ?_; rintro e w' ⟨rfl, rfl⟩)
          | (go_at_call 34; refine (W8.out _).mono ?_; rintro e w' ⟨rfl, rfl⟩)
          | (go_at_call 37; ((with_reducible refine (S16.out _).mono ?_); rintro e w' ⟨rfl, rfl⟩))
          | (go_at_call 37; ((with_reducible refine (SS16.out _).mono ?_); rintro e w' ⟨rfl, rfl⟩))
          | (go_at_call 36; ((with_reducible refine (W16.out _).mono ?_); rintro e w' ⟨rfl, rfl⟩))
          | (go_at_call 36; ((with_reducible refine (WW16.out _).mono ?_); rintro e w' ⟨rfl, rfl⟩))
          | (at_builtin; refine wpList_append_seg _ rfl (.tmp 109) (.tmp 110) 55 rfl w5.heap.size 52 i0 _ 1 1 Tryd.underlying55 fi fz0 fz1 fz2 rfl (by decide) (.slice (some ⟨w5.heap.size, 0, none⟩) 0 0) 0 [] rfl OE.out w.heap.size A m cap (i8s zs) rfl (by rw [i8s_length, Nat.mul_one]; exact HM.out.symm) (S5.out.alloc hs5 _) (i8s_one zs) M1.out M2.out (by simp) ?_
             intro v6 w6 hown6 hg6 _
             rw [Nat.zero_add, List.nil_append] at hown6
             have hb6 : Below w5.heap.size w5 w6 := ((Below.refl _ w5).alloc (Nat.le_refl _) _).grown hg6 (by simp) (fun g hg => (OE.out.lt g hg).1)
             obtain ⟨A6, c6, rfl⟩ := own_shape hown6
             have PM := Lib.hid (PM0.out A6 c6 w6 _ (own_seg hown6))
             have S6 := Lib.hid ((S5.out.more hs5).below hb6); have B6 := Lib.hid (B5.out.trans (hb6.mono hs5)); clear hown6 hg6 hb6)
          | (go_at_call 33; refine PM.out.mono ?_; rintro e w' ⟨rfl, rfl⟩)
          | fail)
        go_ret
        exact ⟨rfl, B6.out⟩
      · have e8 : sat8 n = 127 := by unfold sat8; omega
        rw [e8] at S8
        have d1 : decide (-128 ≤ n) = true := by simp; omega
        have d2 : decide (n ≤ 127) = false := by simp; omega
        have d3 : ((127 : Int) == n) = false := by simp; omega
        clear e8 hin
        go_wp2_with (first
          | (go_at_call 35; refine (S8.out _).mono ?_; rintro e w' ⟨rfl, rfl⟩)
          | (go_at_call 34; refine (W8.out _).mono ?_; rintro e w' ⟨rfl, rfl⟩)
          | (go_at_call 37; ((with_reducible refine (S16.out _).mono ?_); rintro e w' ⟨rfl, rfl⟩))
          | (go_at_call 37; ((with_reducible refine (SS16.out _).mono ?_); rintro e w' ⟨rfl, rfl⟩))
          | (go_at_call 36; ((with_reducible refine (W16.out _).mono ?_); rintro e w' ⟨rfl, rfl⟩))
          | (go_at_call 36; ((with_reducible refine (WW16.out _).mono ?_); rintro e w' ⟨rfl, rfl⟩))
          | (at_builtin; refine wpList_append_seg _ rfl (.tmp 109) (.tmp 110) 55 rfl w5.heap.size 52 i0 _ 1 1 Tryd.underlying55 fi fz0 fz1 fz2 rfl (by decide) (.slice (some ⟨w5.heap.size, 0, none⟩) 0 0) 0 [] rfl OE.out w.heap.size A m cap (i8s zs) rfl (by rw [i8s_length, Nat.mul_one]; exact HM.out.symm) (S5.out.alloc hs5 _) (i8s_one zs) M1.out M2.out (by simp) ?_
             intro v6 w6 hown6 hg6 _
             rw [Nat.zero_add, List.nil_append] at hown6
             have hb6 : Below w5.heap.size w5 w6 := ((Below.refl _ w5).alloc (Nat.le_refl _) _).grown hg6 (by simp) (fun g hg => (OE.out.lt g hg).1)
             obtain ⟨A6, c6, rfl⟩ := own_shape hown6
             have PM := Lib.hid (PM0.out A6 c6 w6 _ (own_seg hown6))
             have S6 := Lib.hid ((S5.out.more hs5).below hb6); have B6 := Lib.hid (B5.out.trans (hb6.mono hs5)); clear hown6 hg6 hb6)
          | (go_at_call 33; refine PM.out.mono ?_; rintro e w' ⟨rfl, rfl⟩)
          | fail)
        go_ret
        exact ⟨rfl, B6.out⟩
  · have g2 : meanE zs = 0 := by unfold meanE; rw [if_neg (fun e => by have := HM0.out.2 e; omega)]
    have PM0 := Lib.hid fun (A6 : Option Addr) (c6 : Nat) (w6 : World) (B : Nat) (h : Seg w6 B A6 (i8s zs)) => (by
      have := pmean_any A6 c6 zs m HM.out B w6 h H8.out HL.out
      rw [g2] at this
      exact this : Calls Tryd.prog 33 #[.slice A6 m c6] w6 fun e w' => e = .returned (.tuple #[.int .i8 (meanI zs), .int .i64 0]) ∧ w6 = w')
    clear g2
    by_cases hin : -128 ≤ n ∧ n ≤ 127
    · obtain ⟨h1, h2⟩ := hin
      have e8 : sat8 n = n := by unfold sat8; omega
      have e9 := A4.out h1 h2
      rw [e8] at S8
      subst e9
      have d1 : decide (-128 ≤ p8) = true := by simpa using h1
      have d2 : decide (p8 ≤ 127) = true := by simpa using h2
      clear e8
      go_wp2_with (first
        | (go_at_call 35; refine (S8.out _).mono ?_; rintro e w' ⟨rfl, rfl⟩)
        | (go_at_call 34; refine (W8.out _).mono ?_; rintro e w' ⟨rfl, rfl⟩)
        | (go_at_call 37; ((with_reducible refine (S16.out _).mono ?_); rintro e w' ⟨rfl, rfl⟩))
        | (go_at_call 37; ((with_reducible refine (SS16.out _).mono ?_); rintro e w' ⟨rfl, rfl⟩))
        | (go_at_call 36; ((with_reducible refine (W16.out _).mono ?_); rintro e w' ⟨rfl, rfl⟩))
        | (go_at_call 36; ((with_reducible refine (WW16.out _).mono ?_); rintro e w' ⟨rfl, rfl⟩))
        | (at_builtin; refine wpList_append_seg _ rfl (.tmp 109) (.tmp 110) 55 rfl w5.heap.size 52 i0 _ 1 1 Tryd.underlying55 fi fz0 fz1 fz2 rfl (by decide) (.slice (some ⟨w5.heap.size, 0, none⟩) 0 0) 0 [] rfl OE.out w.heap.size A m cap (i8s zs) rfl (by rw [i8s_length, Nat.mul_one]; exact HM.out.symm) (S5.out.alloc hs5 _) (i8s_one zs) M1.out M2.out (by simp) ?_
           intro v6 w6 hown6 hg6 _
           rw [Nat.zero_add, List.nil_append] at hown6
           have hb6 : Below w5.heap.size w5 w6 := ((Below.refl _ w5).alloc (Nat.le_refl _) _).grown hg6 (by simp) (fun g hg => (OE.out.lt g hg).1)
           obtain ⟨A6, c6, rfl⟩ := own_shape hown6
           have PM := Lib.hid (PM0.out A6 c6 w6 _ (own_seg hown6))
           have S6 := Lib.hid ((S5.out.more hs5).below hb6); have B6 := Lib.hid (B5.out.trans (hb6.mono hs5)); clear hown6 hg6 hb6)
        | (go_at_call 33; refine PM.out.mono ?_; rintro e w' ⟨rfl, rfl⟩)
        | fail)
      obtain ⟨b, off, hA, hbB, x0⟩ := S6.out.i8 (k := 0) (by rw [← HM.out]; exact h0)
      obtain ⟨r1, r2⟩ := H8.out.get 0
      rw [Nat.add_zero] at x0
      have h0i : (0 : Int) < (m : Int) := by omega
      generalize zs[0]?.getD 0 = z0 at x0 r1 r2
      subst hA
      go_quiet (fail)
      go_wp2_with fail
      have ML := Lib.hid fun lo hi h => mean_in (zs := zs) (lo := lo) (hi := hi) (fun e => by have := HM0.out.2 e; omega) h
      clear h0i x0
      go_loop [13, 14, 15] (fun lv hv iv => ∃ (k : Nat) (lo hi : Int), lv = .int .i8 lo ∧ hv = .int .i8 hi ∧ iv = .int .i64 k ∧ k ≤ m ∧ -128 ≤ lo ∧ lo ≤ 127 ∧ -128 ≤ hi ∧ hi ≤ 127 ∧ ∀ z ∈ zs.take k, lo ≤ z ∧ z ≤ hi) (fun _ _ iv => m - (intOf iv).toNat)
      case atStart => exact ⟨0, z0, z0, rfl, rfl, rfl, by omega, r1, r2, r1, r2, by simp⟩
      case round =>
        obtain ⟨k, lo, hi, rfl, rfl, rfl, hk, l1, l2, k1, k2, hall⟩ := hrel
        have HA := Lib.hid hall
        clear hall
        by_cases hlt : k < m
        · have hki : (k : Int) < (m : Int) := by omega
          have hkz : k < zs.length := by rw [← HM.out]; exact hlt
          obtain ⟨b', off', hA', _, xk⟩ := S6.out.i8 hkz
          injection hA' with hA'
          injection hA' with hb' ho'
          subst hb'
          subst ho'
          obtain ⟨t1, t2⟩ := H8.out.get k
          have hz : zs[k]?.getD 0 = zs[k] := by simp [hkz]
          have HZ := Lib.hid hz
          clear hz
          generalize zs[k]?.getD 0 = z at xk t1 t2 HZ
          go_wp2_with fail
          go_round
          case rel =>
            refine ⟨k + 1, min lo z, max hi z, rfl, rfl, by go_num, by omega, by omega, by omega, by omega, by omega, fun y hy => ?_⟩
            rw [List.take_succ_eq_append_getElem hkz, ← HZ.out] at hy
            rcases List.mem_append.1 hy with hy | hy
            · have := HA.out y hy
              omega
            · obtain rfl : y = z := by simpa using hy
              omega
          case measure => simp [intOf]; omega
        · obtain rfl : k = m := by omega
          have hki : ¬ (k : Int) < (k : Int) := by omega
          have hfin := HA.out
          rw [List.take_of_length_le (by rw [HM.out]; exact Nat.le_refl _)] at hfin
          obtain ⟨f1, f2⟩ := ML.out lo hi hfin
          generalize meanI zs = M at f1 f2 ⊢
          have f3 : decide (lo ≤ M) = true := by simpa using f1
          have f4 : decide (M ≤ hi) = true := by simpa using f2
          clear hfin
          go_wp2_with fail
          go_ret
          exact ⟨rfl, below_drewN B6.out nq⟩
    · by_cases h1 : n < -128
      · have e8 : sat8 n = -128 := by unfold sat8; omega
        rw [e8] at S8
        have d1 : decide (-128 ≤ n) = false := by simp; omega
        have d3 : ((-128 : Int) == n) = false := by simp; omega
        clear e8 hin
        go_wp2_with (first
          | (go_at_call 35; refine (S8.out _).mono ?_; rintro e w' ⟨rfl, rfl⟩)
          | (go_at_call 34; refine (W8.out _).mono ?_; rintro e w' ⟨rfl, rfl⟩)
          | (go_at_call 37; ((with_reducible refine (S16.out _).mono ?_); rintro e w' ⟨rfl, rfl⟩))
          | (go_at_call 37; ((with_reducible refine (SS16.out _).mono ?_); rintro e w' ⟨rfl, rfl⟩))
          | (go_at_call 36; ((with_reducible refine (W16.out _).mono ?_); rintro e w' ⟨rfl, rfl⟩))
          | (go_at_call 36; ((with_reducible refine (WW16.out _).mono ?_); rintro e w' ⟨rfl, rfl⟩))
          | (at_builtin; refine wpList_append_seg _ rfl (.tmp 109) (.tmp 110) 55 rfl w5.heap.size 52 i0 _ 1 1 Tryd.underlying55 fi fz0 fz1 fz2 rfl (by decide) (.slice (some ⟨w5.heap.size, 0, none⟩) 0 0) 0 [] rfl OE.out w.heap.size A m cap (i8s zs) rfl (by rw [i8s_length, Nat.mul_one]; exact HM.out.symm) (S5.out.alloc hs5 _) (i8s_one zs) M1.out M2.out (by simp) ?_
             intro v6 w6 hown6 hg6 _
             rw [Nat.zero_add, List.nil_append] at hown6
             have hb6 : Below w5.heap.size w5 w6 := ((Below.refl _ w5).alloc (Nat.le_refl _) _).grown hg6 (by simp) (fun g hg => (OE.out.lt g hg).1)
             obtain ⟨A6, c6, rfl⟩ := own_shape hown6
             have PM := Lib.hid (PM0.out A6 c6 w6 _ (own_seg hown6))
             have S6 := Lib.hid ((S5.out.more hs5).below hb6); have B6 := Lib.hid (B5.out.trans (hb6.mono hs5)); clear hown6 hg6 hb6)
          | (go_at_call 33; refine PM.out.mono ?_; rintro e w' ⟨rfl, rfl⟩)
          | fail)
        obtain ⟨b, off, hA, hbB, x0⟩ := S6.out.i8 (k := 0) (by rw [← HM.out]; exact h0)
        obtain ⟨r1, r2⟩ := H8.out.get 0
        rw [Nat.add_zero] at x0
        have h0i : (0 : Int) < (m : Int) := by omega
        generalize zs[0]?.getD 0 = z0 at x0 r1 r2
        subst hA
        go_quiet (fail)
        go_wp2_with fail
        have ML := Lib.hid fun lo hi h => mean_in (zs := zs) (lo := lo) (hi := hi) (fun e => by have := HM0.out.2 e; omega) h
        clear h0i x0
        go_loop [13, 14, 15] (fun lv hv iv => ∃ (k : Nat) (lo hi : Int), lv = .int .i8 lo ∧ hv = .int .i8 hi ∧ iv = .int .i64 k ∧ k ≤ m ∧ -128 ≤ lo ∧ lo ≤ 127 ∧ -128 ≤ hi ∧ hi ≤ 127 ∧ ∀ z ∈ zs.take k, lo ≤ z ∧ z ≤ hi) (fun _ _ iv => m - (intOf iv).toNat)
        case atStart => exact ⟨0, z0, z0, rfl, rfl, rfl, by omega, r1, r2, r1, r2, by simp⟩
        case round =>
          obtain ⟨k, lo, hi, rfl, rfl, rfl, hk, l1, l2, k1, k2, hall⟩ := hrel
          have HA := Lib.hid hall
          clear hall
          by_cases hlt : k < m
          · have hki : (k : Int) < (m : Int) := by omega
            have hkz : k < zs.length := by rw [← HM.out]; exact hlt
            obtain ⟨b', off', hA', _, xk⟩ := S6.out.i8 hkz
            injection hA' with hA'
            injection hA' with hb' ho'
            subst hb'
            subst ho'
            obtain ⟨t1, t2⟩ := H8.out.get k
            have hz : zs[k]?.getD 0 = zs[k] := by simp [hkz]
            have HZ := Lib.hid hz
            clear hz
            generalize zs[k]?.getD 0 = z at xk t1 t2 HZ
            go_wp2_with fail
            go_round
            case rel =>
              refine ⟨k + 1, min lo z, max hi z, rfl, rfl, by go_num, by omega, by omega, by omega, by omega, by omega, fun y hy => ?_⟩
              rw [List.take_succ_eq_append_getElem hkz, ← HZ.out] at hy
              rcases List.mem_append.1 hy with hy | hy
              · have := HA.out y hy
                omega
              · obtain rfl : y = z := by simpa using hy
                omega
            case measure => simp [intOf]; omega
          · obtain rfl : k = m := by omega
            have hki : ¬ (k : Int) < (k : Int) := by omega
            have hfin := HA.out
            rw [List.take_of_length_le (by rw [HM.out]; exact Nat.le_refl _)] at hfin
            obtain ⟨f1, f2⟩ := ML.out lo hi hfin
            generalize meanI zs = M at f1 f2 ⊢
            have f3 : decide (lo ≤ M) = true := by simpa using f1
            have f4 : decide (M ≤ hi) = true := by simpa using f2
            clear hfin
            go_wp2_with fail
            go_ret
            exact ⟨rfl, below_drewN B6.out nq⟩
      · have e8 : sat8 n = 127 := by unfold sat8; omega
        rw [e8] at S8
        have d1 : decide (-128 ≤ n) = true := by simp; omega
        have d2 : decide (n ≤ 127) = false := by simp; omega
        have d3 : ((127 : Int) == n) = false := by simp; omega
        clear e8 hin
        go_wp2_with (first
          | (go_at_call 35; refine (S8.out _).mono ?_; rintro e w' ⟨rfl, rfl⟩)
          | (go_at_call 34; refine (W8.out _).mono ?_; rintro e w' ⟨rfl, rfl⟩)
          | (go_at_call 37; ((with_reducible refine (S16.out _).mono ?_); rintro e w' ⟨rfl, rfl⟩))
          | (go_at_call 37; ((with_reducible refine (SS16.out _).mono ?_); rintro e w' ⟨rfl, rfl⟩))
          | (go_at_call 36; ((with_reducible refine (W16.out _).mono ?_); rintro e w' ⟨rfl, rfl⟩))
          | (go_at_call 36; ((with_reducible refine (WW16.out _).mono ?_); rintro e w' ⟨rfl, rfl⟩))
          | (at_builtin; refine wpList_append_seg _ rfl (.tmp 109) (.tmp 110) 55 rfl w5.heap.size 52 i0 _ 1 1 Tryd.underlying55 fi fz0 fz1 fz2 rfl (by decide) (.slice (some ⟨w5.heap.size, 0, none⟩) 0 0) 0 [] rfl OE.out w.heap.size A m cap (i8s zs) rfl (by rw [i8s_length, Nat.mul_one]; exact HM.out.symm) (S5.out.alloc hs5 _) (i8s_one zs) M1.out M2.out (by simp) ?_
             intro v6 w6 hown6 hg6 _
             rw [Nat.zero_add, List.nil_append] at hown6
             have hb6 : Below w5.heap.size w5 w6 := ((Below.refl _ w5).alloc (Nat.le_refl _) _).grown hg6 (by simp) (fun g hg => (OE.out.lt g hg).1)
             obtain ⟨A6, c6, rfl⟩ := own_shape hown6
             have PM := Lib.hid (PM0.out A6 c6 w6 _ (own_seg hown6))
             have S6 := Lib.hid ((S5.out.more hs5).below hb6); have B6 := Lib.hid (B5.out.trans (hb6.mono hs5)); clear hown6 hg6 hb6)
          | (go_at_call 33; refine PM.out.mono ?_; rintro e w' ⟨rfl, rfl⟩)
          | fail)
        obtain ⟨b, off, hA, hbB, x0⟩ := S6.out.i8 (k := 0) (by rw [← HM.out]; exact h0)
        obtain ⟨r1, r2⟩ := H8.out.get 0
        rw [Nat.add_zero] at x0
        have h0i : (0 : Int) < (m : Int) := by omega
        generalize zs[0]?.getD 0 = z0 at x0 r1 r2
        subst hA
        go_quiet (fail)
        go_wp2_with fail
        have ML := Lib.hid fun lo hi h => mean_in (zs := zs) (lo := lo) (hi := hi) (fun e => by have := HM0.out.2 e; omega) h
        clear h0i x0
        go_loop [13, 14, 15] (fun lv hv iv => ∃ (k : Nat) (lo hi : Int), lv = .int .i8 lo ∧ hv = .int .i8 hi ∧ iv = .int .i64 k ∧ k ≤ m ∧ -128 ≤ lo ∧ lo ≤ 127 ∧ -128 ≤ hi ∧ hi ≤ 127 ∧ ∀ z ∈ zs.take k, lo ≤ z ∧ z ≤ hi) (fun _ _ iv => m - (intOf iv).toNat)
        case atStart => exact ⟨0, z0, z0, rfl, rfl, rfl, by omega, r1, r2, r1, r2, by simp⟩
        case round =>
          obtain ⟨k, lo, hi, rfl, rfl, rfl, hk, l1, l2, k1, k2, hall⟩ := hrel
          have HA := Lib.hid hall
          clear hall
          by_cases hlt : k < m
          · have hki : (k : Int) < (m : Int) := by omega
            have hkz : k < zs.length := by rw [← HM.out]; exact hlt
            obtain ⟨b', off', hA', _, xk⟩ := S6.out.i8 hkz
            injection hA' with hA'
            injection hA' with hb' ho'
            subst hb'
            subst ho'
            obtain ⟨t1, t2⟩ := H8.out.get k
            have hz : zs[k]?.getD 0 = zs[k] := by simp [hkz]
            have HZ := Lib.hid hz
            clear hz
            generalize zs[k]?.getD 0 = z at xk t1 t2 HZ
            go_wp2_with fail
            go_round
            case rel =>
              refine ⟨k + 1, min lo z, max hi z, rfl, rfl, by go_num, by omega, by omega, by omega, by omega, by omega, fun y hy => ?_⟩
              rw [List.take_succ_eq_append_getElem hkz, ← HZ.out] at hy
              rcases List.mem_append.1 hy with hy | hy
              · have := HA.out y hy
                omega
              · obtain rfl : y = z := by simpa using hy
                omega
            case measure => simp [intOf]; omega
          · obtain rfl : k = m := by omega
            have hki : ¬ (k : Int) < (k : Int) := by omega
            have hfin := HA.out
            rw [List.take_of_length_le (by rw [HM.out]; exact Nat.le_refl _)] at hfin
            obtain ⟨f1, f2⟩ := ML.out lo hi hfin
            generalize meanI zs = M at f1 f2 ⊢
            have f3 : decide (lo ≤ M) = true := by simpa using f1
            have f4 : decide (M ≤ hi) = true := by simpa using f2
            clear hfin
            go_wp2_with fail
            go_ret
            exact ⟨rfl, below_drewN B6.out nq⟩
end Go.Proofs.YtfipljhlponcoaaDoor
