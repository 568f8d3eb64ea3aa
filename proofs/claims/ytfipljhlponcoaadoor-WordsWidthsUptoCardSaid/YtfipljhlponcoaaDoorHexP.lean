/- internal/strconv.ParseUint at base 16 -/
import Derived.Test.YtfipljhlponcoaaDoorRFit
import Derived.Deep.Cut
import Derived.Deep.CutRange
import Derived.Test.YtfipljhlponcoaaDoorShelf2
set_option linter.unusedVariables false
namespace Go.Proofs.YtfipljhlponcoaaDoor
open Go.RowKit
/-- What a digit to the base 16 is worth, upper or lower; none: it is none. -/
def hexV (c : Nat) : Option Nat := if 48 ≤ c ∧ c ≤ 57 then some (c - 48) else if 97 ≤ c ∧ c ≤ 102 then some (c - 87) else if 65 ≤ c ∧ c ≤ 70 then some (c - 55) else none
/-- The number that the digits say behind n, and what is wrong (2: a sign; 1: too great). -/
def hexGo (mx : Nat) : Nat → List Nat → Nat × Nat
  | n, [] => (n, 0)
  | n, c :: t => match hexV c with
    | none => (0, 2)
    | some d => if 1152921504606846976 ≤ n ∨ mx < 16 * n + d then (mx, 1) else hexGo mx (16 * n + d) t
def hexPU (mx : Nat) (l : List Nat) : Nat × Nat := if l = [] then (0, 2) else hexGo mx 0 l
def errV : Nat → Value
  | 0 => .nilIface
  | k => .iface 118 (.int .i64 k)
def mxOf (bits : Nat) : Nat := 2 ^ bits - 1
theorem lower_bit (c : Nat) (h : c < 256) : bits BinOp.or IntKind.u8 (c : Int) 32 = ((c ||| 32 : Nat) : Int) := by
  have : ∀ c : Fin 256, bits BinOp.or IntKind.u8 (c.1 : Int) 32 = ((c.1 ||| 32 : Nat) : Int) := by decide +kernel
  exact this ⟨c, h⟩
/-- The three ways through the switch. -/
theorem hex_cases (c : Nat) (h : c < 256) : (48 ≤ c ∧ c ≤ 57 ∧ hexV c = some (c - 48)) ∨ (¬ (48 ≤ c ∧ c ≤ 57) ∧ 97 ≤ (c ||| 32) ∧ (c ||| 32) ≤ 122 ∧ (c ||| 32) < 256 ∧ (((c ||| 32) - 87 < 16 ∧ hexV c = some ((c ||| 32) - 87)) ∨ (16 ≤ (c ||| 32) - 87 ∧ hexV c = none))) ∨ (¬ (48 ≤ c ∧ c ≤ 57) ∧ ¬ (97 ≤ (c ||| 32) ∧ (c ||| 32) ≤ 122) ∧ hexV c = none) := by
  have : ∀ c : Fin 256, (48 ≤ c.1 ∧ c.1 ≤ 57 ∧ hexV c.1 = some (c.1 - 48)) ∨ (¬ (48 ≤ c.1 ∧ c.1 ≤ 57) ∧ 97 ≤ (c.1 ||| 32) ∧ (c.1 ||| 32) ≤ 122 ∧ (c.1 ||| 32) < 256 ∧ (((c.1 ||| 32) - 87 < 16 ∧ hexV c.1 = some ((c.1 ||| 32) - 87)) ∨ (16 ≤ (c.1 ||| 32) - 87 ∧ hexV c.1 = none))) ∨ (¬ (48 ≤ c.1 ∧ c.1 ≤ 57) ∧ ¬ (97 ≤ (c.1 ||| 32) ∧ (c.1 ||| 32) ≤ 122) ∧ hexV c.1 = none) := by decide +kernel
  exact this ⟨c, h⟩
theorem hexGo_none {mx n c : Nat} {t : List Nat} (h : hexV c = none) : hexGo mx n (c :: t) = (0, 2) := by simp [hexGo, h]
theorem hexGo_big {mx n c d : Nat} {t : List Nat} (h : hexV c = some d) (hb : 1152921504606846976 ≤ n ∨ mx < 16 * n + d) : hexGo mx n (c :: t) = (mx, 1) := by simp only [hexGo, h]; rw [if_pos hb]
theorem hexGo_step {mx n c d : Nat} {t : List Nat} (h : hexV c = some d) (hb : ¬ (1152921504606846976 ≤ n ∨ mx < 16 * n + d)) : hexGo mx n (c :: t) = hexGo mx (16 * n + d) t := by simp only [hexGo, h]; rw [if_neg hb]
set_option maxRecDepth 100000 in
set_option maxHeartbeats 16000000 in
theorem hexi_any (s : ByteArray) (bs : Nat) (hbs : bs = 8 ∨ bs = 64) (hz : s.size ≤ 4611686018427387904) (w : World) :
    Calls Tryd.prog 66 #[.string s, .int .i64 16, .int .i64 bs] w fun e w' => e = .returned (.tuple #[.int .u64 ((hexPU (mxOf bs) (nl s)).1 : Nat), errV (hexPU (mxOf bs) (nl s)).2]) ∧ Below w.heap.size w w' := by
  obtain ⟨R, hR⟩ : ∃ R, hexPU (mxOf bs) (nl s) = R := ⟨_, rfl⟩
  rw [hR]
  by_cases h0 : s.size = 0
  · have hs : s = ⟨#[]⟩ := by
      cases s with
      | mk a => have : a = #[] := Array.eq_empty_of_size_eq_zero h0; rw [this]
    subst hs
    have : R = (0, 2) := by rw [← hR]; rfl
    subst this
    go_enter Tryd.func66, Tryd.ntmps66
    go_wp2_with (fail)
    go_ret2
    exact ⟨rfl, Below.refl _ _⟩
  have hne : nl s ≠ [] := fun e => h0 (by have := nl_len s; rw [e] at this; exact this.symm)
  have hgo : hexGo (mxOf bs) 0 (nl s) = R := by rw [← hR]; unfold hexPU; rw [if_neg hne]
  have hse : s.toList = [] → False := fun e => by
    have : s = ⟨#[]⟩ := by
      have h1 : s.data.toList = [] := by rw [ByteArray.toList_eq] at e; exact e
      cases s with
      | mk a => have : a = #[] := Array.toList_eq_nil_iff.1 h1; rw [this]
    rw [this] at h0
    exact h0 rfl
  have he1 : (s.toList == []) = false := by rw [beq_eq_false_iff_ne]; exact hse
  have he2 : s.toList.isEmpty = false := by
    cases hh : s.toList with
    | nil => exact absurd hh hse
    | cons a t => rfl
  obtain ⟨cp, W, hW1, hW2, hW3, hW4⟩ := Frz.new (P := Tryd.prog) w 9 72 s Tryd.underlying9 Tryd.underlying72 Tryd.underlying5
  have H2 := Lib.hid hW2
  have HC := Lib.hid fun k (hk : k < (nl s).length) => hW4.cell hk
  have HG := Lib.hid hgo
  obtain ⟨mx, hmx⟩ : ∃ mx, mxOf bs = mx := ⟨_, rfl⟩
  rw [hmx] at HG
  have hmx64 : mx ≤ 18446744073709551615 ∧ (mx : Int) = 2 ^ bs - 1 := by
    rw [← hmx]
    rcases hbs with rfl | rfl
    · decide
    · decide
  have hsi : (s.size : Int) ≤ 4611686018427387904 := by omega
  have hb2 : ((bs : Int) == 0) = false := by rcases hbs with rfl | rfl <;> decide
  have hb3 : ¬ (bs : Int) < 0 := by omega
  have hb4 : ¬ (64 : Int) < (bs : Int) := by omega
  clear hR hne hgo hse hW2 hW4
  rcases hbs with rfl | rfl
  · obtain rfl : mx = 255 := by rw [← hmx]; rfl
    go_enter Tryd.func66, Tryd.ntmps66
    go_wp2_with (fail)
    go_loop [12, 13, 101] (fun uv nv iv => ∃ (k n : Nat), iv = .int .i64 k ∧ k ≤ s.size ∧ uv = .bool false ∧ nv = .int .u64 n ∧ n ≤ 255 ∧ hexGo 255 n ((nl s).drop k) = R) (fun _ _ iv => s.size - (intOf iv).toNat)
    case atStart => exact ⟨0, 0, rfl, by omega, rfl, rfl, by omega, HG.out⟩
    case round =>
      obtain ⟨k, n, rfl, hk, rfl, rfl, hn, hgk⟩ := hrel
      have hnm := Lib.hid hn
      have hn64 : (n : Int) ≤ 18446744073709551615 := by omega
      by_cases hlt : k < s.size
      · have hki : (k : Int) < (s.size : Int) := by omega
        have hkl : k < (nl s).length := by rw [nl_len]; exact hlt
        have x0 := HC.out k hkl
        rw [List.drop_eq_getElem_cons hkl] at hgk
        have hc := nl_lt s _ (List.getElem_mem hkl)
        obtain ⟨c, hce⟩ : ∃ c, c = (nl s)[k] := ⟨_, rfl⟩
        rw [← hce] at x0 hgk hc
        have HGK := Lib.hid hgk
        have HLB := Lib.hid (lower_bit c hc)
        have h95 : ((c : Int) == 95) = true ∨ ((c : Int) == 95) = false := by cases ((c : Int) == 95) <;> simp
        have hcc := hex_cases c hc
        obtain ⟨L, hL⟩ : ∃ L, c ||| 32 = L := ⟨_, rfl⟩
        rw [hL] at HLB hcc
        have hci : (c : Int) < 256 := by omega
        clear hgk hce hL hkl hn
        rcases hcc with ⟨c1, c2, hv⟩ | ⟨c1, c2, c3, c4, ⟨c5, hv⟩ | ⟨c5, hv⟩⟩ | ⟨c1, c2, hv⟩
        · have HV := Lib.hid hv
          have d1 : decide (48 ≤ (c : Int)) = true := by simp; omega
          have d2 : decide ((c : Int) ≤ 57) = true := by simp; omega
          have d3 : (48 : Int) ≤ (c : Int) := by omega
          have d4 : (c : Int) ≤ 57 := by omega
          have e95 : ((c : Int) == 95) = false := by simp; omega
          obtain ⟨D, hD⟩ : ∃ D, c - 48 = D := ⟨_, rfl⟩
          rw [hD] at HV
          have hDI : (c : Int) - 48 = (D : Int) := by omega
          have hD16 : (D : Int) < 16 := by omega
          clear hv h95 hD
          by_cases hbig : 1152921504606846976 ≤ n
          · have HR2 := Lib.hid (show (255, 1) = R from by rw [← HGK.out, hexGo_big HV.out (.inl hbig)])
            have hbi : (1152921504606846976 : Int) ≤ (n : Int) := by omega
            clear hbig
            go_wp2_with (first
              | (go_at_call 92; refine (Tryd.internal_strconv_lower _ _).mono ?_; rintro e w' ⟨rfl, hw⟩; obtain rfl : W = w' := hw.symm; rw [HLB.out])
              | (fail))
            go_ret2
            rw [← HR2.out]
            exact ⟨rfl, H2.out⟩
          have hbi : ¬ (1152921504606846976 : Int) ≤ (n : Int) := by omega
          have hn60 : (n : Int) ≤ 1152921504606846975 := by omega
          by_cases hov : 255 < 16 * n + D
          · have HR2 := Lib.hid (show (255, 1) = R from by rw [← HGK.out, hexGo_big HV.out (.inr hov)])
            have hoi : (255 : Int) < (n : Int) * 16 + (D : Int) := by omega
            clear hov hbig
            go_wp2_with (first
              | (go_at_call 92; refine (Tryd.internal_strconv_lower _ _).mono ?_; rintro e w' ⟨rfl, hw⟩; obtain rfl : W = w' := hw.symm; rw [HLB.out])
              | (fail))
            go_ret2
            rw [← HR2.out]
            exact ⟨rfl, H2.out⟩
          · have HR2 := Lib.hid (show hexGo 255 (16 * n + D) ((nl s).drop (k + 1)) = R from by rw [← HGK.out, hexGo_step HV.out (by omega)])
            have hoi : ¬ (255 : Int) < (n : Int) * 16 + (D : Int) := by omega
            have hle := Lib.hid (show 16 * n + D ≤ 255 by omega)
            have hcast := Lib.hid (show (n : Int) * 16 + (D : Int) = ((16 * n + D : Nat) : Int) by omega)
            clear hov hbig
            go_wp2_with (first
              | (go_at_call 92; refine (Tryd.internal_strconv_lower _ _).mono ?_; rintro e w' ⟨rfl, hw⟩; obtain rfl : W = w' := hw.symm; rw [HLB.out])
              | (fail))
            exact ⟨⟨k + 1, 16 * n + D, by go_num, hlt, rfl, by rw [← hcast.out], hle.out, HR2.out⟩, by simp [intOf]; omega⟩
        · have HV := Lib.hid hv
          obtain ⟨M, rfl⟩ : ∃ M, L = M + 97 := ⟨L - 97, by omega⟩
          rw [show ((M + 97 : Nat) : Int) = (M : Int) + 97 by omega] at HLB
          rw [show M + 97 - 87 = M + 10 by omega] at HV
          have hM6 : (M : Int) < 6 := by omega
          have hM0 : (0 : Int) ≤ (M : Int) := by omega
          obtain ⟨D, hD⟩ : ∃ D, M + 10 = D := ⟨_, rfl⟩
          rw [hD] at HV
          have HD := Lib.hid (show (M : Int) + 10 = (D : Int) by omega)
          have hD16 : (D : Int) < 16 := by omega
          clear c2 c3 c4 c5 hD
          by_cases c48 : 48 ≤ c
          · have d1 : decide (48 ≤ (c : Int)) = true := by simp; omega
            have d2 : decide ((c : Int) ≤ 57) = false := by simp; omega
            have d2i : ¬ (c : Int) ≤ 57 := by omega
            clear hv c1
            rcases h95 with e95 | e95
            all_goals
              go_upto_region 46 with (first
                | (go_at_call 92; refine (Tryd.internal_strconv_lower _ _).mono ?_; rintro e w' ⟨rfl, hw⟩; obtain rfl : W = w' := hw.symm; rw [HLB.out])
                | (fail))
              go_cut [16, 101, 137] from 101 to 163 (fun dv iv bv wx => dv = .int .u8 (D : Int) ∧ iv = .int .i64 (k : Int) ∧ bv = .bool false ∧ W = wx)
              case first =>
                go_wp2_with (first
                  | (go_at_call 92; refine (Tryd.internal_strconv_lower _ _).mono ?_; rintro e w' ⟨rfl, hw⟩; obtain rfl : W = w' := hw.symm; rw [HLB.out])
                  | (fail))
                go_meet
                exact ⟨by rw [HD.out], rfl, by simp; omega, rfl⟩
              case rest =>
              obtain ⟨rfl, rfl, rfl, rfl⟩ := hcut
              by_cases hbig : 1152921504606846976 ≤ n
              · have HR2 := Lib.hid (show (255, 1) = R from by rw [← HGK.out, hexGo_big HV.out (.inl hbig)])
                have hbi : (1152921504606846976 : Int) ≤ (n : Int) := by omega
                clear hbig
                go_wp2_with (fail)
                go_ret2
                rw [← HR2.out]
                exact ⟨rfl, H2.out⟩
              have hbi : ¬ (1152921504606846976 : Int) ≤ (n : Int) := by omega
              have hn60 : (n : Int) ≤ 1152921504606846975 := by omega
              by_cases hov : 255 < 16 * n + D
              · have HR2 := Lib.hid (show (255, 1) = R from by rw [← HGK.out, hexGo_big HV.out (.inr hov)])
                have hoi : (255 : Int) < (n : Int) * 16 + (D : Int) := by omega
                clear hov hbig
                go_wp2_with (fail)
                go_ret2
                rw [← HR2.out]
                exact ⟨rfl, H2.out⟩
              · have HR2 := Lib.hid (show hexGo 255 (16 * n + D) ((nl s).drop (k + 1)) = R from by rw [← HGK.out, hexGo_step HV.out (by omega)])
                have hoi : ¬ (255 : Int) < (n : Int) * 16 + (D : Int) := by omega
                have hle := Lib.hid (show 16 * n + D ≤ 255 by omega)
                have hcast := Lib.hid (show (n : Int) * 16 + (D : Int) = ((16 * n + D : Nat) : Int) by omega)
                clear hov hbig
                go_wp2_with (fail)
                exact ⟨⟨k + 1, 16 * n + D, by go_num, hlt, rfl, by rw [← hcast.out], hle.out, HR2.out⟩, by simp [intOf]; omega⟩
          · have d1 : decide (48 ≤ (c : Int)) = false := by simp; omega
            have d1i : ¬ (48 : Int) ≤ (c : Int) := by omega
            clear hv c1
            rcases h95 with e95 | e95
            all_goals
              go_upto_region 46 with (first
                | (go_at_call 92; refine (Tryd.internal_strconv_lower _ _).mono ?_; rintro e w' ⟨rfl, hw⟩; obtain rfl : W = w' := hw.symm; rw [HLB.out])
                | (fail))
              go_cut [16, 101, 137] from 101 to 163 (fun dv iv bv wx => dv = .int .u8 (D : Int) ∧ iv = .int .i64 (k : Int) ∧ bv = .bool false ∧ W = wx)
              case first =>
                go_wp2_with (first
                  | (go_at_call 92; refine (Tryd.internal_strconv_lower _ _).mono ?_; rintro e w' ⟨rfl, hw⟩; obtain rfl : W = w' := hw.symm; rw [HLB.out])
                  | (fail))
                go_meet
                exact ⟨by rw [HD.out], rfl, by simp; omega, rfl⟩
              case rest =>
              obtain ⟨rfl, rfl, rfl, rfl⟩ := hcut
              by_cases hbig : 1152921504606846976 ≤ n
              · have HR2 := Lib.hid (show (255, 1) = R from by rw [← HGK.out, hexGo_big HV.out (.inl hbig)])
                have hbi : (1152921504606846976 : Int) ≤ (n : Int) := by omega
                clear hbig
                go_wp2_with (fail)
                go_ret2
                rw [← HR2.out]
                exact ⟨rfl, H2.out⟩
              have hbi : ¬ (1152921504606846976 : Int) ≤ (n : Int) := by omega
              have hn60 : (n : Int) ≤ 1152921504606846975 := by omega
              by_cases hov : 255 < 16 * n + D
              · have HR2 := Lib.hid (show (255, 1) = R from by rw [← HGK.out, hexGo_big HV.out (.inr hov)])
                have hoi : (255 : Int) < (n : Int) * 16 + (D : Int) := by omega
                clear hov hbig
                go_wp2_with (fail)
                go_ret2
                rw [← HR2.out]
                exact ⟨rfl, H2.out⟩
              · have HR2 := Lib.hid (show hexGo 255 (16 * n + D) ((nl s).drop (k + 1)) = R from by rw [← HGK.out, hexGo_step HV.out (by omega)])
                have hoi : ¬ (255 : Int) < (n : Int) * 16 + (D : Int) := by omega
                have hle := Lib.hid (show 16 * n + D ≤ 255 by omega)
                have hcast := Lib.hid (show (n : Int) * 16 + (D : Int) = ((16 * n + D : Nat) : Int) by omega)
                clear hov hbig
                go_wp2_with (fail)
                exact ⟨⟨k + 1, 16 * n + D, by go_num, hlt, rfl, by rw [← hcast.out], hle.out, HR2.out⟩, by simp [intOf]; omega⟩
        · have HV := Lib.hid hv
          have l1 : (97 : Int) ≤ (L : Int) := by omega
          have l2 : (103 : Int) ≤ (L : Int) := by omega
          have l3 : (L : Int) ≤ 122 := by omega
          by_cases c48 : 48 ≤ c
          · have d1 : decide (48 ≤ (c : Int)) = true := by simp; omega
            have d2 : decide ((c : Int) ≤ 57) = false := by simp; omega
            have d2i : ¬ (c : Int) ≤ 57 := by omega
            clear hv c1
            rcases h95 with e95 | e95
            all_goals
              have HR2 := Lib.hid (show (0, 2) = R from by rw [← HGK.out, hexGo_none HV.out])
              go_wp2_with (first
                | (go_at_call 92; refine (Tryd.internal_strconv_lower _ _).mono ?_; rintro e w' ⟨rfl, hw⟩; obtain rfl : W = w' := hw.symm; rw [HLB.out])
                | (fail))
              go_ret2
              rw [← HR2.out]
              exact ⟨rfl, H2.out⟩
          · have d1 : decide (48 ≤ (c : Int)) = false := by simp; omega
            have d1i : ¬ (48 : Int) ≤ (c : Int) := by omega
            clear hv c1
            rcases h95 with e95 | e95
            all_goals
              have HR2 := Lib.hid (show (0, 2) = R from by rw [← HGK.out, hexGo_none HV.out])
              go_wp2_with (first
                | (go_at_call 92; refine (Tryd.internal_strconv_lower _ _).mono ?_; rintro e w' ⟨rfl, hw⟩; obtain rfl : W = w' := hw.symm; rw [HLB.out])
                | (fail))
              go_ret2
              rw [← HR2.out]
              exact ⟨rfl, H2.out⟩
        · have HV := Lib.hid hv
          have hl : (decide ((97 : Int) ≤ (L : Int)) = true ∧ decide ((L : Int) ≤ 122) = false) ∨ decide ((97 : Int) ≤ (L : Int)) = false := by
            by_cases h : 97 ≤ L
            · exact .inl ⟨by simp; omega, by simp; omega⟩
            · exact .inr (by simp; omega)
          by_cases c48 : 48 ≤ c
          · have d1 : decide (48 ≤ (c : Int)) = true := by simp; omega
            have d2 : decide ((c : Int) ≤ 57) = false := by simp; omega
            clear hv c1 c2 c48
            rcases h95 with e95 | e95
            all_goals
              rcases hl with ⟨l1, l2⟩ | l1
              all_goals
                have HR2 := Lib.hid (show (0, 2) = R from by rw [← HGK.out, hexGo_none HV.out])
                go_wp2_with (first
                  | (go_at_call 92; refine (Tryd.internal_strconv_lower _ _).mono ?_; rintro e w' ⟨rfl, hw⟩; obtain rfl : W = w' := hw.symm; rw [HLB.out])
                  | (fail))
                go_ret2
                rw [← HR2.out]
                exact ⟨rfl, H2.out⟩
          · have d1 : decide (48 ≤ (c : Int)) = false := by simp; omega
            clear hv c1 c2 c48
            rcases h95 with e95 | e95
            all_goals
              rcases hl with ⟨l1, l2⟩ | l1
              all_goals
                have HR2 := Lib.hid (show (0, 2) = R from by rw [← HGK.out, hexGo_none HV.out])
                go_wp2_with (first
                  | (go_at_call 92; refine (Tryd.internal_strconv_lower _ _).mono ?_; rintro e w' ⟨rfl, hw⟩; obtain rfl : W = w' := hw.symm; rw [HLB.out])
                  | (fail))
                go_ret2
                rw [← HR2.out]
                exact ⟨rfl, H2.out⟩
      · have hki : ¬ (k : Int) < (s.size : Int) := by omega
        obtain rfl : k = s.size := by omega
        rw [List.drop_of_length_le (by rw [nl_len]; exact Nat.le_refl _)] at hgk
        have HR2 := Lib.hid (show (n, 0) = R from by rw [← hgk]; rfl)
        clear hgk hn
        go_wp2_with (fail)
        go_ret2
        rw [← HR2.out]
        exact ⟨rfl, H2.out⟩
  · obtain rfl : mx = 18446744073709551615 := by rw [← hmx]; rfl
    have hwr : IntKind.u64.wrap (IntKind.u64.wrap 18446744073709551616 - 1) = 18446744073709551615 := by decide
    go_enter Tryd.func66, Tryd.ntmps66
    go_wp2_with (fail)
    go_loop [12, 13, 101] (fun uv nv iv => ∃ (k n : Nat), iv = .int .i64 k ∧ k ≤ s.size ∧ uv = .bool false ∧ nv = .int .u64 n ∧ n ≤ 18446744073709551615 ∧ hexGo 18446744073709551615 n ((nl s).drop k) = R) (fun _ _ iv => s.size - (intOf iv).toNat)
    case atStart => exact ⟨0, 0, rfl, by omega, rfl, rfl, by omega, HG.out⟩
    case round =>
      obtain ⟨k, n, rfl, hk, rfl, rfl, hn, hgk⟩ := hrel
      have hnm := Lib.hid hn
      have hn64 : (n : Int) ≤ 18446744073709551615 := by omega
      by_cases hlt : k < s.size
      · have hki : (k : Int) < (s.size : Int) := by omega
        have hkl : k < (nl s).length := by rw [nl_len]; exact hlt
        have x0 := HC.out k hkl
        rw [List.drop_eq_getElem_cons hkl] at hgk
        have hc := nl_lt s _ (List.getElem_mem hkl)
        obtain ⟨c, hce⟩ : ∃ c, c = (nl s)[k] := ⟨_, rfl⟩
        rw [← hce] at x0 hgk hc
        have HGK := Lib.hid hgk
        have HLB := Lib.hid (lower_bit c hc)
        have h95 : ((c : Int) == 95) = true ∨ ((c : Int) == 95) = false := by cases ((c : Int) == 95) <;> simp
        have hcc := hex_cases c hc
        obtain ⟨L, hL⟩ : ∃ L, c ||| 32 = L := ⟨_, rfl⟩
        rw [hL] at HLB hcc
        have hci : (c : Int) < 256 := by omega
        clear hgk hce hL hkl hn
        rcases hcc with ⟨c1, c2, hv⟩ | ⟨c1, c2, c3, c4, ⟨c5, hv⟩ | ⟨c5, hv⟩⟩ | ⟨c1, c2, hv⟩
        · have HV := Lib.hid hv
          have d1 : decide (48 ≤ (c : Int)) = true := by simp; omega
          have d2 : decide ((c : Int) ≤ 57) = true := by simp; omega
          have d3 : (48 : Int) ≤ (c : Int) := by omega
          have d4 : (c : Int) ≤ 57 := by omega
          have e95 : ((c : Int) == 95) = false := by simp; omega
          obtain ⟨D, hD⟩ : ∃ D, c - 48 = D := ⟨_, rfl⟩
          rw [hD] at HV
          have hDI : (c : Int) - 48 = (D : Int) := by omega
          have hD16 : (D : Int) < 16 := by omega
          clear hv h95 hD
          by_cases hbig : 1152921504606846976 ≤ n
          · have HR2 := Lib.hid (show (18446744073709551615, 1) = R from by rw [← HGK.out, hexGo_big HV.out (.inl hbig)])
            have hbi : (1152921504606846976 : Int) ≤ (n : Int) := by omega
            clear hbig
            go_wp2_with (first
              | (go_at_call 92; refine (Tryd.internal_strconv_lower _ _).mono ?_; rintro e w' ⟨rfl, hw⟩; obtain rfl : W = w' := hw.symm; rw [HLB.out])
              | (fail))
            go_ret2
            rw [← HR2.out]
            exact ⟨rfl, H2.out⟩
          have hbi : ¬ (1152921504606846976 : Int) ≤ (n : Int) := by omega
          have hn60 : (n : Int) ≤ 1152921504606846975 := by omega
          by_cases hov : 18446744073709551615 < 16 * n + D
          · exact absurd hov (by omega)
          · have HR2 := Lib.hid (show hexGo 18446744073709551615 (16 * n + D) ((nl s).drop (k + 1)) = R from by rw [← HGK.out, hexGo_step HV.out (by omega)])
            have hoi : ¬ (18446744073709551615 : Int) < (n : Int) * 16 + (D : Int) := by omega
            have hle := Lib.hid (show 16 * n + D ≤ 18446744073709551615 by omega)
            have hcast := Lib.hid (show (n : Int) * 16 + (D : Int) = ((16 * n + D : Nat) : Int) by omega)
            clear hov hbig
            go_wp2_with (first
              | (go_at_call 92; refine (Tryd.internal_strconv_lower _ _).mono ?_; rintro e w' ⟨rfl, hw⟩; obtain rfl : W = w' := hw.symm; rw [HLB.out])
              | (fail))
            exact ⟨⟨k + 1, 16 * n + D, by go_num, hlt, rfl, by rw [← hcast.out], hle.out, HR2.out⟩, by simp [intOf]; omega⟩
        · have HV := Lib.hid hv
          obtain ⟨M, rfl⟩ : ∃ M, L = M + 97 := ⟨L - 97, by omega⟩
          rw [show ((M + 97 : Nat) : Int) = (M : Int) + 97 by omega] at HLB
          rw [show M + 97 - 87 = M + 10 by omega] at HV
          have hM6 : (M : Int) < 6 := by omega
          have hM0 : (0 : Int) ≤ (M : Int) := by omega
          obtain ⟨D, hD⟩ : ∃ D, M + 10 = D := ⟨_, rfl⟩
          rw [hD] at HV
          have HD := Lib.hid (show (M : Int) + 10 = (D : Int) by omega)
          have hD16 : (D : Int) < 16 := by omega
          clear c2 c3 c4 c5 hD
          by_cases c48 : 48 ≤ c
          · have d1 : decide (48 ≤ (c : Int)) = true := by simp; omega
            have d2 : decide ((c : Int) ≤ 57) = false := by simp; omega
            have d2i : ¬ (c : Int) ≤ 57 := by omega
            clear hv c1
            rcases h95 with e95 | e95
            all_goals
              go_upto_region 46 with (first
                | (go_at_call 92; refine (Tryd.internal_strconv_lower _ _).mono ?_; rintro e w' ⟨rfl, hw⟩; obtain rfl : W = w' := hw.symm; rw [HLB.out])
                | (fail))
              go_cut [16, 101, 137] from 101 to 163 (fun dv iv bv wx => dv = .int .u8 (D : Int) ∧ iv = .int .i64 (k : Int) ∧ bv = .bool false ∧ W = wx)
              case first =>
                go_wp2_with (first
                  | (go_at_call 92; refine (Tryd.internal_strconv_lower _ _).mono ?_; rintro e w' ⟨rfl, hw⟩; obtain rfl : W = w' := hw.symm; rw [HLB.out])
                  | (fail))
                go_meet
                exact ⟨by rw [HD.out], rfl, by simp; omega, rfl⟩
              case rest =>
              obtain ⟨rfl, rfl, rfl, rfl⟩ := hcut
              by_cases hbig : 1152921504606846976 ≤ n
              · have HR2 := Lib.hid (show (18446744073709551615, 1) = R from by rw [← HGK.out, hexGo_big HV.out (.inl hbig)])
                have hbi : (1152921504606846976 : Int) ≤ (n : Int) := by omega
                clear hbig
                go_wp2_with (fail)
                go_ret2
                rw [← HR2.out]
                exact ⟨rfl, H2.out⟩
              have hbi : ¬ (1152921504606846976 : Int) ≤ (n : Int) := by omega
              have hn60 : (n : Int) ≤ 1152921504606846975 := by omega
              by_cases hov : 18446744073709551615 < 16 * n + D
              · exact absurd hov (by omega)
              · have HR2 := Lib.hid (show hexGo 18446744073709551615 (16 * n + D) ((nl s).drop (k + 1)) = R from by rw [← HGK.out, hexGo_step HV.out (by omega)])
                have hoi : ¬ (18446744073709551615 : Int) < (n : Int) * 16 + (D : Int) := by omega
                have hle := Lib.hid (show 16 * n + D ≤ 18446744073709551615 by omega)
                have hcast := Lib.hid (show (n : Int) * 16 + (D : Int) = ((16 * n + D : Nat) : Int) by omega)
                clear hov hbig
                go_wp2_with (fail)
                exact ⟨⟨k + 1, 16 * n + D, by go_num, hlt, rfl, by rw [← hcast.out], hle.out, HR2.out⟩, by simp [intOf]; omega⟩
          · have d1 : decide (48 ≤ (c : Int)) = false := by simp; omega
            have d1i : ¬ (48 : Int) ≤ (c : Int) := by omega
            clear hv c1
            rcases h95 with e95 | e95
            all_goals
              go_upto_region 46 with (first
                | (go_at_call 92; refine (Tryd.internal_strconv_lower _ _).mono ?_; rintro e w' ⟨rfl, hw⟩; obtain rfl : W = w' := hw.symm; rw [HLB.out])
                | (fail))
              go_cut [16, 101, 137] from 101 to 163 (fun dv iv bv wx => dv = .int .u8 (D : Int) ∧ iv = .int .i64 (k : Int) ∧ bv = .bool false ∧ W = wx)
              case first =>
                go_wp2_with (first
                  | (go_at_call 92; refine (Tryd.internal_strconv_lower _ _).mono ?_; rintro e w' ⟨rfl, hw⟩; obtain rfl : W = w' := hw.symm; rw [HLB.out])
                  | (fail))
                go_meet
                exact ⟨by rw [HD.out], rfl, by simp; omega, rfl⟩
              case rest =>
              obtain ⟨rfl, rfl, rfl, rfl⟩ := hcut
              by_cases hbig : 1152921504606846976 ≤ n
              · have HR2 := Lib.hid (show (18446744073709551615, 1) = R from by rw [← HGK.out, hexGo_big HV.out (.inl hbig)])
                have hbi : (1152921504606846976 : Int) ≤ (n : Int) := by omega
                clear hbig
                go_wp2_with (fail)
                go_ret2
                rw [← HR2.out]
                exact ⟨rfl, H2.out⟩
              have hbi : ¬ (1152921504606846976 : Int) ≤ (n : Int) := by omega
              have hn60 : (n : Int) ≤ 1152921504606846975 := by omega
              by_cases hov : 18446744073709551615 < 16 * n + D
              · exact absurd hov (by omega)
              · have HR2 := Lib.hid (show hexGo 18446744073709551615 (16 * n + D) ((nl s).drop (k + 1)) = R from by rw [← HGK.out, hexGo_step HV.out (by omega)])
                have hoi : ¬ (18446744073709551615 : Int) < (n : Int) * 16 + (D : Int) := by omega
                have hle := Lib.hid (show 16 * n + D ≤ 18446744073709551615 by omega)
                have hcast := Lib.hid (show (n : Int) * 16 + (D : Int) = ((16 * n + D : Nat) : Int) by omega)
                clear hov hbig
                go_wp2_with (fail)
                exact ⟨⟨k + 1, 16 * n + D, by go_num, hlt, rfl, by rw [← hcast.out], hle.out, HR2.out⟩, by simp [intOf]; omega⟩
        · have HV := Lib.hid hv
          have l1 : (97 : Int) ≤ (L : Int) := by omega
          have l2 : (103 : Int) ≤ (L : Int) := by omega
          have l3 : (L : Int) ≤ 122 := by omega
          by_cases c48 : 48 ≤ c
          · have d1 : decide (48 ≤ (c : Int)) = true := by simp; omega
            have d2 : decide ((c : Int) ≤ 57) = false := by simp; omega
            have d2i : ¬ (c : Int) ≤ 57 := by omega
            clear hv c1
            rcases h95 with e95 | e95
            all_goals
              have HR2 := Lib.hid (show (0, 2) = R from by rw [← HGK.out, hexGo_none HV.out])
              go_wp2_with (first
                | (go_at_call 92; refine (Tryd.internal_strconv_lower _ _).mono ?_; rintro e w' ⟨rfl, hw⟩; obtain rfl : W = w' := hw.symm; rw [HLB.out])
                | (fail))
              go_ret2
              rw [← HR2.out]
              exact ⟨rfl, H2.out⟩
          · have d1 : decide (48 ≤ (c : Int)) = false := by simp; omega
            have d1i : ¬ (48 : Int) ≤ (c : Int) := by omega
            clear hv c1
            rcases h95 with e95 | e95
            all_goals
              have HR2 := Lib.hid (show (0, 2) = R from by rw [← HGK.out, hexGo_none HV.out])
              go_wp2_with (first
                | (go_at_call 92; refine (Tryd.internal_strconv_lower _ _).mono ?_; rintro e w' ⟨rfl, hw⟩; obtain rfl : W = w' := hw.symm; rw [HLB.out])
                | (fail))
              go_ret2
              rw [← HR2.out]
              exact ⟨rfl, H2.out⟩
        · have HV := Lib.hid hv
          have hl : (decide ((97 : Int) ≤ (L : Int)) = true ∧ decide ((L : Int) ≤ 122) = false) ∨ decide ((97 : Int) ≤ (L : Int)) = false := by
            by_cases h : 97 ≤ L
            · exact .inl ⟨by simp; omega, by simp; omega⟩
            · exact .inr (by simp; omega)
          by_cases c48 : 48 ≤ c
          · have d1 : decide (48 ≤ (c : Int)) = true := by simp; omega
            have d2 : decide ((c : Int) ≤ 57) = false := by simp; omega
            clear hv c1 c2 c48
            rcases h95 with e95 | e95
            all_goals
              rcases hl with ⟨l1, l2⟩ | l1
              all_goals
                have HR2 := Lib.hid (show (0, 2) = R from by rw [← HGK.out, hexGo_none HV.out])
                go_wp2_with (first
                  | (go_at_call 92; refine (Tryd.internal_strconv_lower _ _).mono ?_; rintro e w' ⟨rfl, hw⟩; obtain rfl : W = w' := hw.symm; rw [HLB.out])
                  | (fail))
                go_ret2
                rw [← HR2.out]
                exact ⟨rfl, H2.out⟩
          · have d1 : decide (48 ≤ (c : Int)) = false := by simp; omega
            clear hv c1 c2 c48
            rcases h95 with e95 | e95
            all_goals
              rcases hl with ⟨l1, l2⟩ | l1
              all_goals
                have HR2 := Lib.hid (show (0, 2) = R from by rw [← HGK.out, hexGo_none HV.out])
                go_wp2_with (first
                  | (go_at_call 92; refine (Tryd.internal_strconv_lower _ _).mono ?_; rintro e w' ⟨rfl, hw⟩; obtain rfl : W = w' := hw.symm; rw [HLB.out])
                  | (fail))
                go_ret2
                rw [← HR2.out]
                exact ⟨rfl, H2.out⟩
      · have hki : ¬ (k : Int) < (s.size : Int) := by omega
        obtain rfl : k = s.size := by omega
        rw [List.drop_of_length_le (by rw [nl_len]; exact Nat.le_refl _)] at hgk
        have HR2 := Lib.hid (show (n, 0) = R from by rw [← hgk]; rfl)
        clear hgk hn
        go_wp2_with (fail)
        go_ret2
        rw [← HR2.out]
        exact ⟨rfl, H2.out⟩
end Go.Proofs.YtfipljhlponcoaaDoor
