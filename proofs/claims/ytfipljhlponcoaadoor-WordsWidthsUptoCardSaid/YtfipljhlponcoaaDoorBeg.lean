/- ref01.begins: the contract. -/
import Derived.Test.YtfipljhlponcoaaDoorHeld
import Derived.Deep.QuietTactic
import Derived.BigQuiet
set_option linter.unusedVariables false
namespace Go.Proofs.YtfipljhlponcoaaDoor
open Go.RowKit
theorem cand_bd {r j b : Nat} (hj : 1 ≤ j) (h : r < 256 * 64 ^ (j - 1)) : 64 * r + b % 64 < 256 * 64 ^ (j + 1 - 1) := by
  obtain ⟨i, rfl⟩ : ∃ i, j = i + 1 := ⟨j - 1, by omega⟩
  simp only [Nat.add_sub_cancel] at h ⊢
  rw [Nat.pow_succ]
  omega
theorem cand_next {s : ByteArray} {r j b h0 : Nat} (hj : 1 ≤ j) (hs : j < s.size) (hb : b = (s[j]'hs).toNat) (hr : r = (((nl s).take j).drop 1).foldl (fun r b => 64 * r + b % 64) h0) : 64 * r + b % 64 = (((nl s).take (j + 1)).drop 1).foldl (fun r b => 64 * r + b % 64) h0 := by
  have hl : j < (nl s).length := by rw [nl_len]; exact hs
  have hg : (nl s)[j] = b := by rw [hb]; simp [nl]; rfl
  rw [List.take_succ_eq_append_getElem hl, hg, List.drop_append_of_le_length (by rw [List.length_take]; omega), List.foldl_append, ← hr]
  rfl
theorem cand_head {s : ByteArray} (h : 0 < s.size) (k b0 : Nat) (hb : b0 = (s[0]'h).toNat) : b0 = (nl s).headD 0 := by
  rw [hb]
  have hl : 0 < (nl s).length := by rw [nl_len]; exact h
  have hg : (nl s)[0] = (s[0]'h).toNat := by simp [nl]; rfl
  cases hn : nl s with
  | nil => rw [hn] at hl; simp at hl
  | cons a t => simp [hn] at hg ⊢; exact hg.symm
theorem nl_inj {a b : ByteArray} (h : nl a = nl b) : a = b := by
  have h2 : a.data.toList = b.data.toList := (List.map_inj_right (fun x y hxy => UInt8.toNat_inj.1 hxy)).1 h
  cases a; cases b
  simp only [ByteArray.mk.injEq]
  exact Array.toList_inj.1 h2
theorem cut_ok {s : ByteArray} {k : Nat} (hk : k ≤ s.size) : nl (s.extract 0 k) = (nl s).take k := by
  rw [nl_extract, List.drop_zero, Nat.sub_zero]
theorem str_inj {t s : ByteArray} (h : t.toList = s.toList) : t = s := by
  rw [ByteArray.toList_eq, ByteArray.toList_eq] at h
  obtain ⟨a⟩ := t
  obtain ⟨b⟩ := s
  have : a = b := Array.toList_inj.1 h
  rw [this]
theorem str_ne {a b : ByteArray} (h : ¬ a = b) : (a.toList == b.toList) = false := by
  rw [beq_eq_false_iff_ne]
  intro e
  exact h (str_inj e)
theorem no_step {s : ByteArray} {j : Nat} (h : ∀ m, 1 ≤ m → m < j → m ≤ s.size → ¬ hitN (nl s) m) (hj : ¬ hitN (nl s) j) : ∀ m, 1 ≤ m → m < j + 1 → m ≤ s.size → ¬ hitN (nl s) m := fun m h1 h2 h3 => by
  rcases Nat.lt_or_ge m j with hm | hm
  · exact h m h1 hm h3
  · obtain rfl : m = j := by omega
    exact hj
theorem take_drop_one (l : List Nat) : (l.take 1).drop 1 = [] := by cases l <;> simp
theorem pc_none {l : List Nat} (hl : ∀ x ∈ l, x < 256) (h : ∀ m, 1 ≤ m → m < 5 → m ≤ l.length → ¬ hitN l m) : pcN l = none := by
  rcases hp : pcN l with _ | ⟨r, n⟩
  · rfl
  · obtain ⟨h1, h2, h3, h4, h5⟩ := pc_hit hl hp
    exact absurd h1 (h n h4 (by omega) h3)
set_option maxRecDepth 100000 in
set_option maxHeartbeats 16000000 in
theorem begins_any (s : ByteArray) (hz : s.size ≤ 1048576) (w : World) :
    Calls Tryd.prog 100 #[.string s] w fun e w' => e = .returned (.tuple #[.int .i32 (((pcN (nl s)).getD (0, 0)).1 : Nat), .int .i64 (((pcN (nl s)).getD (0, 0)).2 : Nat)]) ∧ Below w.heap.size w w' := by
  go_enter Tryd.func100, Tryd.ntmps100
  go_wp2_with (fail)
  go_loopw [4] (fun v wx => ∃ k : Nat, v = .int .i64 k ∧ 1 ≤ k ∧ k ≤ 5 ∧ (∀ m, 1 ≤ m → m < k → m ≤ s.size → ¬ hitN (nl s) m) ∧ Below w.heap.size w wx) (fun v _ => 5 - (intOf v).toNat)
  case atStart => exact ⟨1, rfl, by omega, by omega, by omega, Below.refl _ _⟩
  case round =>
    obtain ⟨k, rfl, hk1, hk5, hno, hb⟩ := hrel
    have HB := Lib.hid hb
    have HNO := Lib.hid hno
    clear hb hno
    by_cases hk4 : k ≤ 4
    · have hk4d : decide ((k : Int) ≤ 4) = true := by simp; omega
      by_cases hks : k ≤ s.size
      · have hksd : decide ((k : Int) ≤ (s.size : Int)) = true := by simp; omega
        have hd0 : 0 < s.size := by omega
        obtain ⟨b0, hb0⟩ : ∃ b0 : Nat, b0 = ((s[0]'hd0).toNat) := ⟨_, rfl⟩
        have hb256 : b0 < 256 := by rw [hb0]; exact UInt8.toNat_lt _
        have hix : ∀ w1, (Instr.index 9 (Value.string s) (Value.int IntKind.i64 0)).run Tryd.prog w1 = .ok (.int .u8 (b0 : Int)) w1 := fun w1 => by
          rw [run_index_string w1 9 s .i64 0 Tryd.underlying9, dif_pos ⟨by omega, by omega⟩, hb0]; rfl
        have HB0 := Lib.hid hb0
        clear hb0
        rcases (show k = 1 ∨ k = 2 ∨ k = 3 ∨ k = 4 by omega) with hk | hk | hk | hk
        · have e2 : ((k : Int) == 2) = false := by simp; omega
          have e3 : ((k : Int) == 3) = false := by simp; omega
          have e4 : ((k : Int) == 4) = false := by simp; omega
          have HK := Lib.hid hk
          clear hk
          go_wp2
          go_loopw [5, 6] (fun rv jv wx => ∃ (j r : Nat), jv = .int .i64 j ∧ rv = .int .i32 r ∧ 1 ≤ j ∧ j ≤ k ∧ r < 256 * 64 ^ (j - 1) ∧ r = (((nl s).take j).drop 1).foldl (fun r b => 64 * r + b % 64) (headN k b0) ∧ Below w.heap.size w wx) (fun _ jv _ => k - (intOf jv).toNat)
          case atStart => exact ⟨1, headN k b0, rfl, by rw [HK.out]; simp [headN], by omega, by omega, by rw [HK.out]; simp [headN]; omega, by rw [take_drop_one]; rfl, HB.out⟩
          case round =>
            obtain ⟨j, r, rfl, rfl, hj1, hjk, hr, hrv, hbx⟩ := hrel
            have HB2 := Lib.hid hbx
            have HR := Lib.hid hrv
            have HRL := Lib.hid hr
            clear hbx hrv
            by_cases hj : j < k
            · have hji : (j : Int) < (k : Int) := by omega
              have hjs : j < s.size := by omega
              have hr20 : (r : Int) ≤ 1048575 := by
                have : 64 ^ (j - 1) ≤ 64 ^ 2 := Nat.pow_le_pow_right (by omega) (by omega)
                omega
              obtain ⟨b, hb⟩ : ∃ b : Nat, b = (s[j]'hjs).toNat := ⟨_, rfl⟩
              have hb2 : b < 256 := by rw [hb]; exact UInt8.toNat_lt _
              have hjx : ∀ w1, (Instr.index 9 (Value.string s) (Value.int IntKind.i64 (j : Int))).run Tryd.prog w1 = .ok (.int .u8 (b : Int)) w1 := fun w1 => by
                rw [run_index_string w1 9 s .i64 j Tryd.underlying9, dif_pos ⟨by omega, by omega⟩, hb]; rfl
              have HBJ := Lib.hid hb
              clear hb hr
              go_wp2
              refine ⟨⟨j + 1, 64 * r + b % 64, by go_num, by simp, by omega, hj, cand_bd hj1 HRL.out, ?_, HB2.out⟩, by simp [intOf]; omega⟩
              exact cand_next hj1 hjs HBJ.out HR.out
            · obtain rfl : j = k := by omega
              have HC := Lib.hid (show r = candN (nl s) j from by rw [HR.out, cand_head hd0 j b0 HB0.out]; rfl)
              clear hr hj hjk
              go_wp2
              by_cases hok : okR r
              · have hle : r ≤ 1114111 := by unfold okR at hok; omega
                have r1 : decide ((r : Int) ≤ 1114111) = true := by simp; omega
                by_cases hlow : r < 55296
                · have r2 : decide ((r : Int) < 55296) = true := by simp; omega
                  have HCD := Lib.hid fun W => coded_any r hle W
                  by_cases heq : encN r = (nl s).take j
                  · have HIT := Lib.hid (show hitN (nl s) j from ⟨by rw [← HC.out]; exact hok, by rw [← HC.out]; exact heq⟩)
                    have HEQ := Lib.hid heq
                    clear heq hok
                    have hsl : nl (s.extract 0 j) = (nl s).take j := cut_ok hks
                    obtain ⟨T, hT⟩ : ∃ T, s.extract 0 j = T := ⟨_, rfl⟩
                    rw [hT] at hsl
                    have hsx : ∀ W : World, (Instr.slice 9 (.string s) none (some (.int .i64 (j : Int))) none).run Tryd.prog W = .ok (.string T) W := fun W => by rw [← hT, run_slice_string_to_if _ _ _ _ _ Tryd.underlying9, if_pos ⟨by omega, by omega⟩]; rfl
                    refine wp_region_held_drew (S := fun _ => True) (by kernel_rfl) trivial (fun hHeld => ?_)
                    (refine held_take (i := 0) rfl rfl (by kernel_rfl) (by kernel_rfl) (by kernel_rfl) (fun _ _ _ h => h) (by rfl) (by intro w hSw; (try dsimp only at hSw); go_simp; first | done | with_reducible rfl) (by assumption) ?_; try simp only [Act.put, List.setIfInBounds_toArray, List.set_cons_zero, List.set_cons_succ])
                    (refine held_take (i := 1) rfl rfl (by kernel_rfl) (by kernel_rfl) (by kernel_rfl) (fun _ _ _ h => h) (by rfl) (by intro w hSw; (try dsimp only at hSw); go_simp; first | done | with_reducible rfl) (by assumption) ?_; try simp only [Act.put, List.setIfInBounds_toArray, List.set_cons_zero, List.set_cons_succ])
                    (refine held_take (i := 2) rfl rfl (by kernel_rfl) (by kernel_rfl) (by kernel_rfl) (fun _ _ _ h => h) (by rfl) (by intro w hSw; (try dsimp only at hSw); go_simp; first | done | with_reducible rfl) (by assumption) ?_; try simp only [Act.put, List.setIfInBounds_toArray, List.set_cons_zero, List.set_cons_succ])
                    (refine held_take (i := 3) rfl rfl (by kernel_rfl) (by kernel_rfl) (by kernel_rfl) (fun _ _ _ h => h) (by rfl) (by intro w hSw; (try dsimp only at hSw); go_simp; first | done | with_reducible rfl) (by assumption) ?_; try simp only [Act.put, List.setIfInBounds_toArray, List.set_cons_zero, List.set_cons_succ])
                    (refine held_take (i := 4) rfl rfl (by kernel_rfl) (by kernel_rfl) (by kernel_rfl) (fun _ _ _ h => h) (by rfl) (by intro w hSw; (try dsimp only at hSw); go_simp; first | done | with_reducible rfl) (by assumption) ?_; try simp only [Act.put, List.setIfInBounds_toArray, List.set_cons_zero, List.set_cons_succ])
                    (refine held_take (i := 5) rfl rfl (by kernel_rfl) (by kernel_rfl) (by kernel_rfl) (fun _ _ _ h => h) (by rfl) (by intro w hSw; (try dsimp only at hSw); go_simp; first | done | with_reducible rfl) (by assumption) ?_; try simp only [Act.put, List.setIfInBounds_toArray, List.set_cons_zero, List.set_cons_succ])
                    (refine held_skip (i := 6) rfl rfl (by kernel_rfl) (by kernel_rfl) (by kernel_rfl) (fun _ _ _ h => h) (by rfl) (by assumption) ?_; try simp only [Act.put, List.setIfInBounds_toArray, List.set_cons_zero, List.set_cons_succ])
                    (refine held_skip (i := 7) rfl rfl (by kernel_rfl) (by kernel_rfl) (by kernel_rfl) (fun _ _ _ h => h) (by rfl) (by assumption) ?_; try simp only [Act.put, List.setIfInBounds_toArray, List.set_cons_zero, List.set_cons_succ])
                    (refine held_take (i := 8) rfl rfl (by kernel_rfl) (by kernel_rfl) (by kernel_rfl) (fun _ _ _ h => h) (by rfl) (by intro w hSw; (try dsimp only at hSw); go_simp; first | done | with_reducible rfl) (by assumption) ?_; try simp only [Act.put, List.setIfInBounds_toArray, List.set_cons_zero, List.set_cons_succ])
                    (refine held_take (i := 9) rfl rfl (by kernel_rfl) (by kernel_rfl) (by kernel_rfl) (fun _ _ _ h => h) (by rfl) (by intro w hSw; (try dsimp only at hSw); go_simp; first | done | with_reducible rfl) (by assumption) ?_; try simp only [Act.put, List.setIfInBounds_toArray, List.set_cons_zero, List.set_cons_succ])
                    (refine held_take (i := 10) rfl rfl (by kernel_rfl) (by kernel_rfl) (by kernel_rfl) (fun _ _ _ h => h) (by rfl) (by intro w hSw; (try dsimp only at hSw); go_simp; first | done | with_reducible rfl) (by assumption) ?_; try simp only [Act.put, List.setIfInBounds_toArray, List.set_cons_zero, List.set_cons_succ])
                    (refine held_take (i := 11) rfl rfl (by kernel_rfl) (by kernel_rfl) (by kernel_rfl) (fun _ _ _ h => h) (by rfl) (by intro w hSw; (try dsimp only at hSw); go_simp; first | done | with_reducible rfl) (by assumption) ?_; try simp only [Act.put, List.setIfInBounds_toArray, List.set_cons_zero, List.set_cons_succ])
                    (refine held_take (i := 13) rfl rfl (by kernel_rfl) (by kernel_rfl) (by kernel_rfl) (fun _ _ _ h => h) (by rfl) (by intro w hSw; (try dsimp only at hSw); go_simp; first | done | with_reducible rfl) (by assumption) ?_; try simp only [Act.put, List.setIfInBounds_toArray, List.set_cons_zero, List.set_cons_succ])
                    (refine held_take (i := 14) rfl rfl (by kernel_rfl) (by kernel_rfl) (by kernel_rfl) (fun _ _ _ h => h) (by rfl) (by intro w hSw; (try dsimp only at hSw); go_simp; first | done | with_reducible rfl) (by assumption) ?_; try simp only [Act.put, List.setIfInBounds_toArray, List.set_cons_zero, List.set_cons_succ])
                    (refine held_take (i := 15) rfl rfl (by kernel_rfl) (by kernel_rfl) (by kernel_rfl) (fun _ _ _ h => h) (by rfl) (by intro w hSw; (try dsimp only at hSw); go_simp; first | done | with_reducible rfl) (by assumption) ?_; try simp only [Act.put, List.setIfInBounds_toArray, List.set_cons_zero, List.set_cons_succ])
                    refine wpAnyH_ready (rs := [12]) (by kernel_rfl) (by simp) ?_
                    refine AllReadyH.cons rfl (fun K hK => ?_) AllReadyH.nil
                    go_simp
                    go_at_call 116
                    refine (HCD.out _).mono ?_
                    rintro e w1 ⟨t, rfl, ht, hb⟩
                    have HB3 := Lib.hid hb
                    refine hK.out _ _ trivial (fun hHeld => ?_)
                    clear hK K
                    try simp only [Act.put, List.setIfInBounds_toArray, List.set_cons_zero, List.set_cons_succ]
                    have hcmp : (t.toList == T.toList) = true := beq_iff_eq.2 (by rw [show t = T from nl_inj (by rw [ht, hsl, HEQ.out])]); clear ht hb
                    (refine held_take (i := 16) rfl rfl (by kernel_rfl) (by kernel_rfl) (by kernel_rfl) (fun _ _ _ h => h) (by rfl) (by intro w hSw; (try dsimp only at hSw); go_simp; first | done | with_reducible rfl) (by assumption) ?_; try simp only [Act.put, List.setIfInBounds_toArray, List.set_cons_zero, List.set_cons_succ])
                    (refine held_take (i := 17) rfl rfl (by kernel_rfl) (by kernel_rfl) (by kernel_rfl) (fun _ _ _ h => h) (by rfl) (by intro w hSw; (try dsimp only at hSw); go_simp; first | done | with_reducible rfl) (by assumption) ?_; try simp only [Act.put, List.setIfInBounds_toArray, List.set_cons_zero, List.set_cons_succ])
                    refine wpAnyH_done (by kernel_rfl) ?_ _
                    go_wp2
                    go_ret2
                    exact ⟨by rw [hit_pc (by rw [nl_len]; exact hks) HIT.out, ← HC.out]; rfl, HB2.out.drew.trans (HB3.out.mono HB2.out.size)⟩
                  · have HNH := Lib.hid (show ¬ hitN (nl s) j from fun h => heq (by have := h.2; rwa [← HC.out] at this))
                    have HEQ := Lib.hid heq
                    clear heq hok
                    have hsl : nl (s.extract 0 j) = (nl s).take j := cut_ok hks
                    obtain ⟨T, hT⟩ : ∃ T, s.extract 0 j = T := ⟨_, rfl⟩
                    rw [hT] at hsl
                    have hsx : ∀ W : World, (Instr.slice 9 (.string s) none (some (.int .i64 (j : Int))) none).run Tryd.prog W = .ok (.string T) W := fun W => by rw [← hT, run_slice_string_to_if _ _ _ _ _ Tryd.underlying9, if_pos ⟨by omega, by omega⟩]; rfl
                    refine wp_region_held_drew (S := fun _ => True) (by kernel_rfl) trivial (fun hHeld => ?_)
                    (refine held_take (i := 0) rfl rfl (by kernel_rfl) (by kernel_rfl) (by kernel_rfl) (fun _ _ _ h => h) (by rfl) (by intro w hSw; (try dsimp only at hSw); go_simp; first | done | with_reducible rfl) (by assumption) ?_; try simp only [Act.put, List.setIfInBounds_toArray, List.set_cons_zero, List.set_cons_succ])
                    (refine held_take (i := 1) rfl rfl (by kernel_rfl) (by kernel_rfl) (by kernel_rfl) (fun _ _ _ h => h) (by rfl) (by intro w hSw; (try dsimp only at hSw); go_simp; first | done | with_reducible rfl) (by assumption) ?_; try simp only [Act.put, List.setIfInBounds_toArray, List.set_cons_zero, List.set_cons_succ])
                    (refine held_take (i := 2) rfl rfl (by kernel_rfl) (by kernel_rfl) (by kernel_rfl) (fun _ _ _ h => h) (by rfl) (by intro w hSw; (try dsimp only at hSw); go_simp; first | done | with_reducible rfl) (by assumption) ?_; try simp only [Act.put, List.setIfInBounds_toArray, List.set_cons_zero, List.set_cons_succ])
                    (refine held_take (i := 3) rfl rfl (by kernel_rfl) (by kernel_rfl) (by kernel_rfl) (fun _ _ _ h => h) (by rfl) (by intro w hSw; (try dsimp only at hSw); go_simp; first | done | with_reducible rfl) (by assumption) ?_; try simp only [Act.put, List.setIfInBounds_toArray, List.set_cons_zero, List.set_cons_succ])
                    (refine held_take (i := 4) rfl rfl (by kernel_rfl) (by kernel_rfl) (by kernel_rfl) (fun _ _ _ h => h) (by rfl) (by intro w hSw; (try dsimp only at hSw); go_simp; first | done | with_reducible rfl) (by assumption) ?_; try simp only [Act.put, List.setIfInBounds_toArray, List.set_cons_zero, List.set_cons_succ])
                    (refine held_take (i := 5) rfl rfl (by kernel_rfl) (by kernel_rfl) (by kernel_rfl) (fun _ _ _ h => h) (by rfl) (by intro w hSw; (try dsimp only at hSw); go_simp; first | done | with_reducible rfl) (by assumption) ?_; try simp only [Act.put, List.setIfInBounds_toArray, List.set_cons_zero, List.set_cons_succ])
                    (refine held_skip (i := 6) rfl rfl (by kernel_rfl) (by kernel_rfl) (by kernel_rfl) (fun _ _ _ h => h) (by rfl) (by assumption) ?_; try simp only [Act.put, List.setIfInBounds_toArray, List.set_cons_zero, List.set_cons_succ])
                    (refine held_skip (i := 7) rfl rfl (by kernel_rfl) (by kernel_rfl) (by kernel_rfl) (fun _ _ _ h => h) (by rfl) (by assumption) ?_; try simp only [Act.put, List.setIfInBounds_toArray, List.set_cons_zero, List.set_cons_succ])
                    (refine held_take (i := 8) rfl rfl (by kernel_rfl) (by kernel_rfl) (by kernel_rfl) (fun _ _ _ h => h) (by rfl) (by intro w hSw; (try dsimp only at hSw); go_simp; first | done | with_reducible rfl) (by assumption) ?_; try simp only [Act.put, List.setIfInBounds_toArray, List.set_cons_zero, List.set_cons_succ])
                    (refine held_take (i := 9) rfl rfl (by kernel_rfl) (by kernel_rfl) (by kernel_rfl) (fun _ _ _ h => h) (by rfl) (by intro w hSw; (try dsimp only at hSw); go_simp; first | done | with_reducible rfl) (by assumption) ?_; try simp only [Act.put, List.setIfInBounds_toArray, List.set_cons_zero, List.set_cons_succ])
                    (refine held_take (i := 10) rfl rfl (by kernel_rfl) (by kernel_rfl) (by kernel_rfl) (fun _ _ _ h => h) (by rfl) (by intro w hSw; (try dsimp only at hSw); go_simp; first | done | with_reducible rfl) (by assumption) ?_; try simp only [Act.put, List.setIfInBounds_toArray, List.set_cons_zero, List.set_cons_succ])
                    (refine held_take (i := 11) rfl rfl (by kernel_rfl) (by kernel_rfl) (by kernel_rfl) (fun _ _ _ h => h) (by rfl) (by intro w hSw; (try dsimp only at hSw); go_simp; first | done | with_reducible rfl) (by assumption) ?_; try simp only [Act.put, List.setIfInBounds_toArray, List.set_cons_zero, List.set_cons_succ])
                    (refine held_take (i := 13) rfl rfl (by kernel_rfl) (by kernel_rfl) (by kernel_rfl) (fun _ _ _ h => h) (by rfl) (by intro w hSw; (try dsimp only at hSw); go_simp; first | done | with_reducible rfl) (by assumption) ?_; try simp only [Act.put, List.setIfInBounds_toArray, List.set_cons_zero, List.set_cons_succ])
                    (refine held_take (i := 14) rfl rfl (by kernel_rfl) (by kernel_rfl) (by kernel_rfl) (fun _ _ _ h => h) (by rfl) (by intro w hSw; (try dsimp only at hSw); go_simp; first | done | with_reducible rfl) (by assumption) ?_; try simp only [Act.put, List.setIfInBounds_toArray, List.set_cons_zero, List.set_cons_succ])
                    (refine held_take (i := 15) rfl rfl (by kernel_rfl) (by kernel_rfl) (by kernel_rfl) (fun _ _ _ h => h) (by rfl) (by intro w hSw; (try dsimp only at hSw); go_simp; first | done | with_reducible rfl) (by assumption) ?_; try simp only [Act.put, List.setIfInBounds_toArray, List.set_cons_zero, List.set_cons_succ])
                    refine wpAnyH_ready (rs := [12]) (by kernel_rfl) (by simp) ?_
                    refine AllReadyH.cons rfl (fun K hK => ?_) AllReadyH.nil
                    go_simp
                    go_at_call 116
                    refine (HCD.out _).mono ?_
                    rintro e w1 ⟨t, rfl, ht, hb⟩
                    have HB3 := Lib.hid hb
                    refine hK.out _ _ trivial (fun hHeld => ?_)
                    clear hK K
                    try simp only [Act.put, List.setIfInBounds_toArray, List.set_cons_zero, List.set_cons_succ]
                    have hcmp : (t.toList == T.toList) = false := str_ne (fun e => HEQ.out (by rw [← ht, e, hsl])); clear ht hb
                    (refine held_take (i := 16) rfl rfl (by kernel_rfl) (by kernel_rfl) (by kernel_rfl) (fun _ _ _ h => h) (by rfl) (by intro w hSw; (try dsimp only at hSw); go_simp; first | done | with_reducible rfl) (by assumption) ?_; try simp only [Act.put, List.setIfInBounds_toArray, List.set_cons_zero, List.set_cons_succ])
                    (refine held_take (i := 17) rfl rfl (by kernel_rfl) (by kernel_rfl) (by kernel_rfl) (fun _ _ _ h => h) (by rfl) (by intro w hSw; (try dsimp only at hSw); go_simp; first | done | with_reducible rfl) (by assumption) ?_; try simp only [Act.put, List.setIfInBounds_toArray, List.set_cons_zero, List.set_cons_succ])
                    refine wpAnyH_done (by kernel_rfl) ?_ _
                    go_wp2
                    refine ⟨⟨j + 1, by go_num, by omega, by omega, ?_, HB2.out.drew.trans (HB3.out.mono HB2.out.size)⟩, by simp [intOf]; omega⟩
                    exact no_step HNO.out HNH.out
                · have r2 : decide ((r : Int) < 55296) = false := by simp; omega
                  have r3 : decide ((57343 : Int) < (r : Int)) = true := by unfold okR at hok; simp; omega
                  have HCD := Lib.hid fun W => coded_any r hle W
                  by_cases heq : encN r = (nl s).take j
                  · have HIT := Lib.hid (show hitN (nl s) j from ⟨by rw [← HC.out]; exact hok, by rw [← HC.out]; exact heq⟩)
                    have HEQ := Lib.hid heq
                    clear heq hok
                    have hsl : nl (s.extract 0 j) = (nl s).take j := cut_ok hks
                    obtain ⟨T, hT⟩ : ∃ T, s.extract 0 j = T := ⟨_, rfl⟩
                    rw [hT] at hsl
                    have hsx : ∀ W : World, (Instr.slice 9 (.string s) none (some (.int .i64 (j : Int))) none).run Tryd.prog W = .ok (.string T) W := fun W => by rw [← hT, run_slice_string_to_if _ _ _ _ _ Tryd.underlying9, if_pos ⟨by omega, by omega⟩]; rfl
                    go_region_held3 (fun _ => True) (trivial) (first
                      | (go_at_call 116; refine (HCD.out _).mono ?_; rintro e w1 ⟨t, rfl, ht, hb⟩; have HB3 := Lib.hid hb; have hcmp : (t.toList == T.toList) = true := beq_iff_eq.2 (by rw [show t = T from nl_inj (by rw [ht, hsl, HEQ.out])]); clear ht hb)
                      | (fail))
                    go_wp2
                    go_ret2
                    exact ⟨by rw [hit_pc (by rw [nl_len]; exact hks) HIT.out, ← HC.out]; rfl, HB2.out.drew.trans (HB3.out.mono HB2.out.size)⟩
                  · have HNH := Lib.hid (show ¬ hitN (nl s) j from fun h => heq (by have := h.2; rwa [← HC.out] at this))
                    have HEQ := Lib.hid heq
                    clear heq hok
                    have hsl : nl (s.extract 0 j) = (nl s).take j := cut_ok hks
                    obtain ⟨T, hT⟩ : ∃ T, s.extract 0 j = T := ⟨_, rfl⟩
                    rw [hT] at hsl
                    have hsx : ∀ W : World, (Instr.slice 9 (.string s) none (some (.int .i64 (j : Int))) none).run Tryd.prog W = .ok (.string T) W := fun W => by rw [← hT, run_slice_string_to_if _ _ _ _ _ Tryd.underlying9, if_pos ⟨by omega, by omega⟩]; rfl
                    go_region_held3 (fun _ => True) (trivial) (first
                      | (go_at_call 116; refine (HCD.out _).mono ?_; rintro e w1 ⟨t, rfl, ht, hb⟩; have HB3 := Lib.hid hb; have hcmp : (t.toList == T.toList) = false := str_ne (fun e => HEQ.out (by rw [← ht, e, hsl])); clear ht hb)
                      | (fail))
                    go_wp2
                    refine ⟨⟨j + 1, by go_num, by omega, by omega, ?_, HB2.out.drew.trans (HB3.out.mono HB2.out.size)⟩, by simp [intOf]; omega⟩
                    exact no_step HNO.out HNH.out
              · have hnh : ¬ hitN (nl s) j := fun h => hok (by have := h.1; rwa [← HC.out] at this)
                by_cases hle : r ≤ 1114111
                · have r1 : decide ((r : Int) ≤ 1114111) = true := by simp; omega
                  have r2 : decide ((r : Int) < 55296) = false := by unfold okR at hok; simp; omega
                  have r3 : decide ((57343 : Int) < (r : Int)) = false := by unfold okR at hok; simp; omega
                  have HNH := Lib.hid hnh
                  clear hnh hok
                  go_quiet (fail)
                  go_wp2
                  refine ⟨⟨j + 1, by go_num, by omega, by omega, no_step HNO.out HNH.out, below_drewN HB2.out _⟩, by simp [intOf]; omega⟩
                · have r1 : decide ((r : Int) ≤ 1114111) = false := by simp; omega
                  have HNH := Lib.hid hnh
                  clear hnh hok
                  go_quiet (fail)
                  go_wp2
                  refine ⟨⟨j + 1, by go_num, by omega, by omega, no_step HNO.out HNH.out, below_drewN HB2.out _⟩, by simp [intOf]; omega⟩
        · have e2 : ((k : Int) == 2) = true := by simp; omega
          have e3 : ((k : Int) == 3) = false := by simp; omega
          have e4 : ((k : Int) == 4) = false := by simp; omega
          have HK := Lib.hid hk
          clear hk
          go_wp2
          go_loopw [5, 6] (fun rv jv wx => ∃ (j r : Nat), jv = .int .i64 j ∧ rv = .int .i32 r ∧ 1 ≤ j ∧ j ≤ k ∧ r < 256 * 64 ^ (j - 1) ∧ r = (((nl s).take j).drop 1).foldl (fun r b => 64 * r + b % 64) (headN k b0) ∧ Below w.heap.size w wx) (fun _ jv _ => k - (intOf jv).toNat)
          case atStart => exact ⟨1, headN k b0, rfl, by rw [HK.out]; simp [headN], by omega, by omega, by rw [HK.out]; simp [headN]; omega, by rw [take_drop_one]; rfl, HB.out⟩
          case round =>
            obtain ⟨j, r, rfl, rfl, hj1, hjk, hr, hrv, hbx⟩ := hrel
            have HB2 := Lib.hid hbx
            have HR := Lib.hid hrv
            have HRL := Lib.hid hr
            clear hbx hrv
            by_cases hj : j < k
            · have hji : (j : Int) < (k : Int) := by omega
              have hjs : j < s.size := by omega
              have hr20 : (r : Int) ≤ 1048575 := by
                have : 64 ^ (j - 1) ≤ 64 ^ 2 := Nat.pow_le_pow_right (by omega) (by omega)
                omega
              obtain ⟨b, hb⟩ : ∃ b : Nat, b = (s[j]'hjs).toNat := ⟨_, rfl⟩
              have hb2 : b < 256 := by rw [hb]; exact UInt8.toNat_lt _
              have hjx : ∀ w1, (Instr.index 9 (Value.string s) (Value.int IntKind.i64 (j : Int))).run Tryd.prog w1 = .ok (.int .u8 (b : Int)) w1 := fun w1 => by
                rw [run_index_string w1 9 s .i64 j Tryd.underlying9, dif_pos ⟨by omega, by omega⟩, hb]; rfl
              have HBJ := Lib.hid hb
              clear hb hr
              go_wp2
              refine ⟨⟨j + 1, 64 * r + b % 64, by go_num, by simp, by omega, hj, cand_bd hj1 HRL.out, ?_, HB2.out⟩, by simp [intOf]; omega⟩
              exact cand_next hj1 hjs HBJ.out HR.out
            · obtain rfl : j = k := by omega
              have HC := Lib.hid (show r = candN (nl s) j from by rw [HR.out, cand_head hd0 j b0 HB0.out]; rfl)
              clear hr hj hjk
              go_wp2
              by_cases hok : okR r
              · have hle : r ≤ 1114111 := by unfold okR at hok; omega
                have r1 : decide ((r : Int) ≤ 1114111) = true := by simp; omega
                by_cases hlow : r < 55296
                · have r2 : decide ((r : Int) < 55296) = true := by simp; omega
                  have HCD := Lib.hid fun W => coded_any r hle W
                  by_cases heq : encN r = (nl s).take j
                  · have HIT := Lib.hid (show hitN (nl s) j from ⟨by rw [← HC.out]; exact hok, by rw [← HC.out]; exact heq⟩)
                    have HEQ := Lib.hid heq
                    clear heq hok
                    have hsl : nl (s.extract 0 j) = (nl s).take j := cut_ok hks
                    obtain ⟨T, hT⟩ : ∃ T, s.extract 0 j = T := ⟨_, rfl⟩
                    rw [hT] at hsl
                    have hsx : ∀ W : World, (Instr.slice 9 (.string s) none (some (.int .i64 (j : Int))) none).run Tryd.prog W = .ok (.string T) W := fun W => by rw [← hT, run_slice_string_to_if _ _ _ _ _ Tryd.underlying9, if_pos ⟨by omega, by omega⟩]; rfl
                    refine wp_region_held_drew (S := fun _ => True) (by kernel_rfl) trivial (fun hHeld => ?_)
                    (refine held_take (i := 0) rfl rfl (by kernel_rfl) (by kernel_rfl) (by kernel_rfl) (fun _ _ _ h => h) (by rfl) (by intro w hSw; (try dsimp only at hSw); go_simp; first | done | with_reducible rfl) (by assumption) ?_; try simp only [Act.put, List.setIfInBounds_toArray, List.set_cons_zero, List.set_cons_succ])
                    (refine held_take (i := 1) rfl rfl (by kernel_rfl) (by kernel_rfl) (by kernel_rfl) (fun _ _ _ h => h) (by rfl) (by intro w hSw; (try dsimp only at hSw); go_simp; first | done | with_reducible rfl) (by assumption) ?_; try simp only [Act.put, List.setIfInBounds_toArray, List.set_cons_zero, List.set_cons_succ])
                    (refine held_take (i := 2) rfl rfl (by kernel_rfl) (by kernel_rfl) (by kernel_rfl) (fun _ _ _ h => h) (by rfl) (by intro w hSw; (try dsimp only at hSw); go_simp; first | done | with_reducible rfl) (by assumption) ?_; try simp only [Act.put, List.setIfInBounds_toArray, List.set_cons_zero, List.set_cons_succ])
                    (refine held_take (i := 3) rfl rfl (by kernel_rfl) (by kernel_rfl) (by kernel_rfl) (fun _ _ _ h => h) (by rfl) (by intro w hSw; (try dsimp only at hSw); go_simp; first | done | with_reducible rfl) (by assumption) ?_; try simp only [Act.put, List.setIfInBounds_toArray, List.set_cons_zero, List.set_cons_succ])
                    (refine held_take (i := 4) rfl rfl (by kernel_rfl) (by kernel_rfl) (by kernel_rfl) (fun _ _ _ h => h) (by rfl) (by intro w hSw; (try dsimp only at hSw); go_simp; first | done | with_reducible rfl) (by assumption) ?_; try simp only [Act.put, List.setIfInBounds_toArray, List.set_cons_zero, List.set_cons_succ])
                    (refine held_take (i := 5) rfl rfl (by kernel_rfl) (by kernel_rfl) (by kernel_rfl) (fun _ _ _ h => h) (by rfl) (by intro w hSw; (try dsimp only at hSw); go_simp; first | done | with_reducible rfl) (by assumption) ?_; try simp only [Act.put, List.setIfInBounds_toArray, List.set_cons_zero, List.set_cons_succ])
                    (refine held_skip (i := 6) rfl rfl (by kernel_rfl) (by kernel_rfl) (by kernel_rfl) (fun _ _ _ h => h) (by rfl) (by assumption) ?_; try simp only [Act.put, List.setIfInBounds_toArray, List.set_cons_zero, List.set_cons_succ])
                    (refine held_skip (i := 7) rfl rfl (by kernel_rfl) (by kernel_rfl) (by kernel_rfl) (fun _ _ _ h => h) (by rfl) (by assumption) ?_; try simp only [Act.put, List.setIfInBounds_toArray, List.set_cons_zero, List.set_cons_succ])
                    (refine held_take (i := 8) rfl rfl (by kernel_rfl) (by kernel_rfl) (by kernel_rfl) (fun _ _ _ h => h) (by rfl) (by intro w hSw; (try dsimp only at hSw); go_simp; first | done | with_reducible rfl) (by assumption) ?_; try simp only [Act.put, List.setIfInBounds_toArray, List.set_cons_zero, List.set_cons_succ])
                    (refine held_take (i := 9) rfl rfl (by kernel_rfl) (by kernel_rfl) (by kernel_rfl) (fun _ _ _ h => h) (by rfl) (by intro w hSw; (try dsimp only at hSw); go_simp; first | done | with_reducible rfl) (by assumption) ?_; try simp only [Act.put, List.setIfInBounds_toArray, List.set_cons_zero, List.set_cons_succ])
                    (refine held_take (i := 10) rfl rfl (by kernel_rfl) (by kernel_rfl) (by kernel_rfl) (fun _ _ _ h => h) (by rfl) (by intro w hSw; (try dsimp only at hSw); go_simp; first | done | with_reducible rfl) (by assumption) ?_; try simp only [Act.put, List.setIfInBounds_toArray, List.set_cons_zero, List.set_cons_succ])
                    (refine held_take (i := 11) rfl rfl (by kernel_rfl) (by kernel_rfl) (by kernel_rfl) (fun _ _ _ h => h) (by rfl) (by intro w hSw; (try dsimp only at hSw); go_simp; first | done | with_reducible rfl) (by assumption) ?_; try simp only [Act.put, List.setIfInBounds_toArray, List.set_cons_zero, List.set_cons_succ])
                    (refine held_take (i := 13) rfl rfl (by kernel_rfl) (by kernel_rfl) (by kernel_rfl) (fun _ _ _ h => h) (by rfl) (by intro w hSw; (try dsimp only at hSw); go_simp; first | done | with_reducible rfl) (by assumption) ?_; try simp only [Act.put, List.setIfInBounds_toArray, List.set_cons_zero, List.set_cons_succ])
                    (refine held_take (i := 14) rfl rfl (by kernel_rfl) (by kernel_rfl) (by kernel_rfl) (fun _ _ _ h => h) (by rfl) (by intro w hSw; (try dsimp only at hSw); go_simp; first | done | with_reducible rfl) (by assumption) ?_; try simp only [Act.put, List.setIfInBounds_toArray, List.set_cons_zero, List.set_cons_succ])
                    (refine held_take (i := 15) rfl rfl (by kernel_rfl) (by kernel_rfl) (by kernel_rfl) (fun _ _ _ h => h) (by rfl) (by intro w hSw; (try dsimp only at hSw); go_simp; first | done | with_reducible rfl) (by assumption) ?_; try simp only [Act.put, List.setIfInBounds_toArray, List.set_cons_zero, List.set_cons_succ])
                    refine wpAnyH_ready (rs := [12]) (by kernel_rfl) (by simp) ?_
                    refine AllReadyH.cons rfl (fun K hK => ?_) AllReadyH.nil
                    go_simp
                    go_at_call 116
                    refine (HCD.out _).mono ?_
                    rintro e w1 ⟨t, rfl, ht, hb⟩
                    have HB3 := Lib.hid hb
                    refine hK.out _ _ trivial (fun hHeld => ?_)
                    clear hK K
                    try simp only [Act.put, List.setIfInBounds_toArray, List.set_cons_zero, List.set_cons_succ]
                    have hcmp : (t.toList == T.toList) = true := beq_iff_eq.2 (by rw [show t = T from nl_inj (by rw [ht, hsl, HEQ.out])]); clear ht hb
                    (refine held_take (i := 16) rfl rfl (by kernel_rfl) (by kernel_rfl) (by kernel_rfl) (fun _ _ _ h => h) (by rfl) (by intro w hSw; (try dsimp only at hSw); go_simp; first | done | with_reducible rfl) (by assumption) ?_; try simp only [Act.put, List.setIfInBounds_toArray, List.set_cons_zero, List.set_cons_succ])
                    (refine held_take (i := 17) rfl rfl (by kernel_rfl) (by kernel_rfl) (by kernel_rfl) (fun _ _ _ h => h) (by rfl) (by intro w hSw; (try dsimp only at hSw); go_simp; first | done | with_reducible rfl) (by assumption) ?_; try simp only [Act.put, List.setIfInBounds_toArray, List.set_cons_zero, List.set_cons_succ])
                    refine wpAnyH_done (by kernel_rfl) ?_ _
                    go_wp2
                    go_ret2
                    exact ⟨by rw [hit_pc (by rw [nl_len]; exact hks) HIT.out, ← HC.out]; rfl, HB2.out.drew.trans (HB3.out.mono HB2.out.size)⟩
                  · have HNH := Lib.hid (show ¬ hitN (nl s) j from fun h => heq (by have := h.2; rwa [← HC.out] at this))
                    have HEQ := Lib.hid heq
                    clear heq hok
                    have hsl : nl (s.extract 0 j) = (nl s).take j := cut_ok hks
                    obtain ⟨T, hT⟩ : ∃ T, s.extract 0 j = T := ⟨_, rfl⟩
                    rw [hT] at hsl
                    have hsx : ∀ W : World, (Instr.slice 9 (.string s) none (some (.int .i64 (j : Int))) none).run Tryd.prog W = .ok (.string T) W := fun W => by rw [← hT, run_slice_string_to_if _ _ _ _ _ Tryd.underlying9, if_pos ⟨by omega, by omega⟩]; rfl
                    refine wp_region_held_drew (S := fun _ => True) (by kernel_rfl) trivial (fun hHeld => ?_)
                    (refine held_take (i := 0) rfl rfl (by kernel_rfl) (by kernel_rfl) (by kernel_rfl) (fun _ _ _ h => h) (by rfl) (by intro w hSw; (try dsimp only at hSw); go_simp; first | done | with_reducible rfl) (by assumption) ?_; try simp only [Act.put, List.setIfInBounds_toArray, List.set_cons_zero, List.set_cons_succ])
                    (refine held_take (i := 1) rfl rfl (by kernel_rfl) (by kernel_rfl) (by kernel_rfl) (fun _ _ _ h => h) (by rfl) (by intro w hSw; (try dsimp only at hSw); go_simp; first | done | with_reducible rfl) (by assumption) ?_; try simp only [Act.put, List.setIfInBounds_toArray, List.set_cons_zero, List.set_cons_succ])
                    (refine held_take (i := 2) rfl rfl (by kernel_rfl) (by kernel_rfl) (by kernel_rfl) (fun _ _ _ h => h) (by rfl) (by intro w hSw; (try dsimp only at hSw); go_simp; first | done | with_reducible rfl) (by assumption) ?_; try simp only [Act.put, List.setIfInBounds_toArray, List.set_cons_zero, List.set_cons_succ])
                    (refine held_take (i := 3) rfl rfl (by kernel_rfl) (by kernel_rfl) (by kernel_rfl) (fun _ _ _ h => h) (by rfl) (by intro w hSw; (try dsimp only at hSw); go_simp; first | done | with_reducible rfl) (by assumption) ?_; try simp only [Act.put, List.setIfInBounds_toArray, List.set_cons_zero, List.set_cons_succ])
                    (refine held_take (i := 4) rfl rfl (by kernel_rfl) (by kernel_rfl) (by kernel_rfl) (fun _ _ _ h => h) (by rfl) (by intro w hSw; (try dsimp only at hSw); go_simp; first | done | with_reducible rfl) (by assumption) ?_; try simp only [Act.put, List.setIfInBounds_toArray, List.set_cons_zero, List.set_cons_succ])
                    (refine held_take (i := 5) rfl rfl (by kernel_rfl) (by kernel_rfl) (by kernel_rfl) (fun _ _ _ h => h) (by rfl) (by intro w hSw; (try dsimp only at hSw); go_simp; first | done | with_reducible rfl) (by assumption) ?_; try simp only [Act.put, List.setIfInBounds_toArray, List.set_cons_zero, List.set_cons_succ])
                    (refine held_skip (i := 6) rfl rfl (by kernel_rfl) (by kernel_rfl) (by kernel_rfl) (fun _ _ _ h => h) (by rfl) (by assumption) ?_; try simp only [Act.put, List.setIfInBounds_toArray, List.set_cons_zero, List.set_cons_succ])
                    (refine held_skip (i := 7) rfl rfl (by kernel_rfl) (by kernel_rfl) (by kernel_rfl) (fun _ _ _ h => h) (by rfl) (by assumption) ?_; try simp only [Act.put, List.setIfInBounds_toArray, List.set_cons_zero, List.set_cons_succ])
                    (refine held_take (i := 8) rfl rfl (by kernel_rfl) (by kernel_rfl) (by kernel_rfl) (fun _ _ _ h => h) (by rfl) (by intro w hSw; (try dsimp only at hSw); go_simp; first | done | with_reducible rfl) (by assumption) ?_; try simp only [Act.put, List.setIfInBounds_toArray, List.set_cons_zero, List.set_cons_succ])
                    (refine held_take (i := 9) rfl rfl (by kernel_rfl) (by kernel_rfl) (by kernel_rfl) (fun _ _ _ h => h) (by rfl) (by intro w hSw; (try dsimp only at hSw); go_simp; first | done | with_reducible rfl) (by assumption) ?_; try simp only [Act.put, List.setIfInBounds_toArray, List.set_cons_zero, List.set_cons_succ])
                    (refine held_take (i := 10) rfl rfl (by kernel_rfl) (by kernel_rfl) (by kernel_rfl) (fun _ _ _ h => h) (by rfl) (by intro w hSw; (try dsimp only at hSw); go_simp; first | done | with_reducible rfl) (by assumption) ?_; try simp only [Act.put, List.setIfInBounds_toArray, List.set_cons_zero, List.set_cons_succ])
                    (refine held_take (i := 11) rfl rfl (by kernel_rfl) (by kernel_rfl) (by kernel_rfl) (fun _ _ _ h => h) (by rfl) (by intro w hSw; (try dsimp only at hSw); go_simp; first | done | with_reducible rfl) (by assumption) ?_; try simp only [Act.put, List.setIfInBounds_toArray, List.set_cons_zero, List.set_cons_succ])
                    (refine held_take (i := 13) rfl rfl (by kernel_rfl) (by kernel_rfl) (by kernel_rfl) (fun _ _ _ h => h) (by rfl) (by intro w hSw; (try dsimp only at hSw); go_simp; first | done | with_reducible rfl) (by assumption) ?_; try simp only [Act.put, List.setIfInBounds_toArray, List.set_cons_zero, List.set_cons_succ])
                    (refine held_take (i := 14) rfl rfl (by kernel_rfl) (by kernel_rfl) (by kernel_rfl) (fun _ _ _ h => h) (by rfl) (by intro w hSw; (try dsimp only at hSw); go_simp; first | done | with_reducible rfl) (by assumption) ?_; try simp only [Act.put, List.setIfInBounds_toArray, List.set_cons_zero, List.set_cons_succ])
                    (refine held_take (i := 15) rfl rfl (by kernel_rfl) (by kernel_rfl) (by kernel_rfl) (fun _ _ _ h => h) (by rfl) (by intro w hSw; (try dsimp only at hSw); go_simp; first | done | with_reducible rfl) (by assumption) ?_; try simp only [Act.put, List.setIfInBounds_toArray, List.set_cons_zero, List.set_cons_succ])
                    refine wpAnyH_ready (rs := [12]) (by kernel_rfl) (by simp) ?_
                    refine AllReadyH.cons rfl (fun K hK => ?_) AllReadyH.nil
                    go_simp
                    go_at_call 116
                    refine (HCD.out _).mono ?_
                    rintro e w1 ⟨t, rfl, ht, hb⟩
                    have HB3 := Lib.hid hb
                    refine hK.out _ _ trivial (fun hHeld => ?_)
                    clear hK K
                    try simp only [Act.put, List.setIfInBounds_toArray, List.set_cons_zero, List.set_cons_succ]
                    have hcmp : (t.toList == T.toList) = false := str_ne (fun e => HEQ.out (by rw [← ht, e, hsl])); clear ht hb
                    (refine held_take (i := 16) rfl rfl (by kernel_rfl) (by kernel_rfl) (by kernel_rfl) (fun _ _ _ h => h) (by rfl) (by intro w hSw; (try dsimp only at hSw); go_simp; first | done | with_reducible rfl) (by assumption) ?_; try simp only [Act.put, List.setIfInBounds_toArray, List.set_cons_zero, List.set_cons_succ])
                    (refine held_take (i := 17) rfl rfl (by kernel_rfl) (by kernel_rfl) (by kernel_rfl) (fun _ _ _ h => h) (by rfl) (by intro w hSw; (try dsimp only at hSw); go_simp; first | done | with_reducible rfl) (by assumption) ?_; try simp only [Act.put, List.setIfInBounds_toArray, List.set_cons_zero, List.set_cons_succ])
                    refine wpAnyH_done (by kernel_rfl) ?_ _
                    go_wp2
                    refine ⟨⟨j + 1, by go_num, by omega, by omega, ?_, HB2.out.drew.trans (HB3.out.mono HB2.out.size)⟩, by simp [intOf]; omega⟩
                    exact no_step HNO.out HNH.out
                · have r2 : decide ((r : Int) < 55296) = false := by simp; omega
                  have r3 : decide ((57343 : Int) < (r : Int)) = true := by unfold okR at hok; simp; omega
                  have HCD := Lib.hid fun W => coded_any r hle W
                  by_cases heq : encN r = (nl s).take j
                  · have HIT := Lib.hid (show hitN (nl s) j from ⟨by rw [← HC.out]; exact hok, by rw [← HC.out]; exact heq⟩)
                    have HEQ := Lib.hid heq
                    clear heq hok
                    have hsl : nl (s.extract 0 j) = (nl s).take j := cut_ok hks
                    obtain ⟨T, hT⟩ : ∃ T, s.extract 0 j = T := ⟨_, rfl⟩
                    rw [hT] at hsl
                    have hsx : ∀ W : World, (Instr.slice 9 (.string s) none (some (.int .i64 (j : Int))) none).run Tryd.prog W = .ok (.string T) W := fun W => by rw [← hT, run_slice_string_to_if _ _ _ _ _ Tryd.underlying9, if_pos ⟨by omega, by omega⟩]; rfl
                    go_region_held3 (fun _ => True) (trivial) (first
                      | (go_at_call 116; refine (HCD.out _).mono ?_; rintro e w1 ⟨t, rfl, ht, hb⟩; have HB3 := Lib.hid hb; have hcmp : (t.toList == T.toList) = true := beq_iff_eq.2 (by rw [show t = T from nl_inj (by rw [ht, hsl, HEQ.out])]); clear ht hb)
                      | (fail))
                    go_wp2
                    go_ret2
                    exact ⟨by rw [hit_pc (by rw [nl_len]; exact hks) HIT.out, ← HC.out]; rfl, HB2.out.drew.trans (HB3.out.mono HB2.out.size)⟩
                  · have HNH := Lib.hid (show ¬ hitN (nl s) j from fun h => heq (by have := h.2; rwa [← HC.out] at this))
                    have HEQ := Lib.hid heq
                    clear heq hok
                    have hsl : nl (s.extract 0 j) = (nl s).take j := cut_ok hks
                    obtain ⟨T, hT⟩ : ∃ T, s.extract 0 j = T := ⟨_, rfl⟩
                    rw [hT] at hsl
                    have hsx : ∀ W : World, (Instr.slice 9 (.string s) none (some (.int .i64 (j : Int))) none).run Tryd.prog W = .ok (.string T) W := fun W => by rw [← hT, run_slice_string_to_if _ _ _ _ _ Tryd.underlying9, if_pos ⟨by omega, by omega⟩]; rfl
                    go_region_held3 (fun _ => True) (trivial) (first
                      | (go_at_call 116; refine (HCD.out _).mono ?_; rintro e w1 ⟨t, rfl, ht, hb⟩; have HB3 := Lib.hid hb; have hcmp : (t.toList == T.toList) = false := str_ne (fun e => HEQ.out (by rw [← ht, e, hsl])); clear ht hb)
                      | (fail))
                    go_wp2
                    refine ⟨⟨j + 1, by go_num, by omega, by omega, ?_, HB2.out.drew.trans (HB3.out.mono HB2.out.size)⟩, by simp [intOf]; omega⟩
                    exact no_step HNO.out HNH.out
              · have hnh : ¬ hitN (nl s) j := fun h => hok (by have := h.1; rwa [← HC.out] at this)
                by_cases hle : r ≤ 1114111
                · have r1 : decide ((r : Int) ≤ 1114111) = true := by simp; omega
                  have r2 : decide ((r : Int) < 55296) = false := by unfold okR at hok; simp; omega
                  have r3 : decide ((57343 : Int) < (r : Int)) = false := by unfold okR at hok; simp; omega
                  have HNH := Lib.hid hnh
                  clear hnh hok
                  go_quiet (fail)
                  go_wp2
                  refine ⟨⟨j + 1, by go_num, by omega, by omega, no_step HNO.out HNH.out, below_drewN HB2.out _⟩, by simp [intOf]; omega⟩
                · have r1 : decide ((r : Int) ≤ 1114111) = false := by simp; omega
                  have HNH := Lib.hid hnh
                  clear hnh hok
                  go_quiet (fail)
                  go_wp2
                  refine ⟨⟨j + 1, by go_num, by omega, by omega, no_step HNO.out HNH.out, below_drewN HB2.out _⟩, by simp [intOf]; omega⟩
        · have e2 : ((k : Int) == 2) = false := by simp; omega
          have e3 : ((k : Int) == 3) = true := by simp; omega
          have e4 : ((k : Int) == 4) = false := by simp; omega
          have HK := Lib.hid hk
          clear hk
          go_wp2
          go_loopw [5, 6] (fun rv jv wx => ∃ (j r : Nat), jv = .int .i64 j ∧ rv = .int .i32 r ∧ 1 ≤ j ∧ j ≤ k ∧ r < 256 * 64 ^ (j - 1) ∧ r = (((nl s).take j).drop 1).foldl (fun r b => 64 * r + b % 64) (headN k b0) ∧ Below w.heap.size w wx) (fun _ jv _ => k - (intOf jv).toNat)
          case atStart => exact ⟨1, headN k b0, rfl, by rw [HK.out]; simp [headN], by omega, by omega, by rw [HK.out]; simp [headN]; omega, by rw [take_drop_one]; rfl, HB.out⟩
          case round =>
            obtain ⟨j, r, rfl, rfl, hj1, hjk, hr, hrv, hbx⟩ := hrel
            have HB2 := Lib.hid hbx
            have HR := Lib.hid hrv
            have HRL := Lib.hid hr
            clear hbx hrv
            by_cases hj : j < k
            · have hji : (j : Int) < (k : Int) := by omega
              have hjs : j < s.size := by omega
              have hr20 : (r : Int) ≤ 1048575 := by
                have : 64 ^ (j - 1) ≤ 64 ^ 2 := Nat.pow_le_pow_right (by omega) (by omega)
                omega
              obtain ⟨b, hb⟩ : ∃ b : Nat, b = (s[j]'hjs).toNat := ⟨_, rfl⟩
              have hb2 : b < 256 := by rw [hb]; exact UInt8.toNat_lt _
              have hjx : ∀ w1, (Instr.index 9 (Value.string s) (Value.int IntKind.i64 (j : Int))).run Tryd.prog w1 = .ok (.int .u8 (b : Int)) w1 := fun w1 => by
                rw [run_index_string w1 9 s .i64 j Tryd.underlying9, dif_pos ⟨by omega, by omega⟩, hb]; rfl
              have HBJ := Lib.hid hb
              clear hb hr
              go_wp2
              refine ⟨⟨j + 1, 64 * r + b % 64, by go_num, by simp, by omega, hj, cand_bd hj1 HRL.out, ?_, HB2.out⟩, by simp [intOf]; omega⟩
              exact cand_next hj1 hjs HBJ.out HR.out
            · obtain rfl : j = k := by omega
              have HC := Lib.hid (show r = candN (nl s) j from by rw [HR.out, cand_head hd0 j b0 HB0.out]; rfl)
              clear hr hj hjk
              go_wp2
              by_cases hok : okR r
              · have hle : r ≤ 1114111 := by unfold okR at hok; omega
                have r1 : decide ((r : Int) ≤ 1114111) = true := by simp; omega
                by_cases hlow : r < 55296
                · have r2 : decide ((r : Int) < 55296) = true := by simp; omega
                  have HCD := Lib.hid fun W => coded_any r hle W
                  by_cases heq : encN r = (nl s).take j
                  · have HIT := Lib.hid (show hitN (nl s) j from ⟨by rw [← HC.out]; exact hok, by rw [← HC.out]; exact heq⟩)
                    have HEQ := Lib.hid heq
                    clear heq hok
                    have hsl : nl (s.extract 0 j) = (nl s).take j := cut_ok hks
                    obtain ⟨T, hT⟩ : ∃ T, s.extract 0 j = T := ⟨_, rfl⟩
                    rw [hT] at hsl
                    have hsx : ∀ W : World, (Instr.slice 9 (.string s) none (some (.int .i64 (j : Int))) none).run Tryd.prog W = .ok (.string T) W := fun W => by rw [← hT, run_slice_string_to_if _ _ _ _ _ Tryd.underlying9, if_pos ⟨by omega, by omega⟩]; rfl
                    refine wp_region_held_drew (S := fun _ => True) (by kernel_rfl) trivial (fun hHeld => ?_)
                    (refine held_take (i := 0) rfl rfl (by kernel_rfl) (by kernel_rfl) (by kernel_rfl) (fun _ _ _ h => h) (by rfl) (by intro w hSw; (try dsimp only at hSw); go_simp; first | done | with_reducible rfl) (by assumption) ?_; try simp only [Act.put, List.setIfInBounds_toArray, List.set_cons_zero, List.set_cons_succ])
                    (refine held_take (i := 1) rfl rfl (by kernel_rfl) (by kernel_rfl) (by kernel_rfl) (fun _ _ _ h => h) (by rfl) (by intro w hSw; (try dsimp only at hSw); go_simp; first | done | with_reducible rfl) (by assumption) ?_; try simp only [Act.put, List.setIfInBounds_toArray, List.set_cons_zero, List.set_cons_succ])
                    (refine held_take (i := 2) rfl rfl (by kernel_rfl) (by kernel_rfl) (by kernel_rfl) (fun _ _ _ h => h) (by rfl) (by intro w hSw; (try dsimp only at hSw); go_simp; first | done | with_reducible rfl) (by assumption) ?_; try simp only [Act.put, List.setIfInBounds_toArray, List.set_cons_zero, List.set_cons_succ])
                    (refine held_take (i := 3) rfl rfl (by kernel_rfl) (by kernel_rfl) (by kernel_rfl) (fun _ _ _ h => h) (by rfl) (by intro w hSw; (try dsimp only at hSw); go_simp; first | done | with_reducible rfl) (by assumption) ?_; try simp only [Act.put, List.setIfInBounds_toArray, List.set_cons_zero, List.set_cons_succ])
                    (refine held_take (i := 4) rfl rfl (by kernel_rfl) (by kernel_rfl) (by kernel_rfl) (fun _ _ _ h => h) (by rfl) (by intro w hSw; (try dsimp only at hSw); go_simp; first | done | with_reducible rfl) (by assumption) ?_; try simp only [Act.put, List.setIfInBounds_toArray, List.set_cons_zero, List.set_cons_succ])
                    (refine held_take (i := 5) rfl rfl (by kernel_rfl) (by kernel_rfl) (by kernel_rfl) (fun _ _ _ h => h) (by rfl) (by intro w hSw; (try dsimp only at hSw); go_simp; first | done | with_reducible rfl) (by assumption) ?_; try simp only [Act.put, List.setIfInBounds_toArray, List.set_cons_zero, List.set_cons_succ])
                    (refine held_skip (i := 6) rfl rfl (by kernel_rfl) (by kernel_rfl) (by kernel_rfl) (fun _ _ _ h => h) (by rfl) (by assumption) ?_; try simp only [Act.put, List.setIfInBounds_toArray, List.set_cons_zero, List.set_cons_succ])
                    (refine held_skip (i := 7) rfl rfl (by kernel_rfl) (by kernel_rfl) (by kernel_rfl) (fun _ _ _ h => h) (by rfl) (by assumption) ?_; try simp only [Act.put, List.setIfInBounds_toArray, List.set_cons_zero, List.set_cons_succ])
                    (refine held_take (i := 8) rfl rfl (by kernel_rfl) (by kernel_rfl) (by kernel_rfl) (fun _ _ _ h => h) (by rfl) (by intro w hSw; (try dsimp only at hSw); go_simp; first | done | with_reducible rfl) (by assumption) ?_; try simp only [Act.put, List.setIfInBounds_toArray, List.set_cons_zero, List.set_cons_succ])
                    (refine held_take (i := 9) rfl rfl (by kernel_rfl) (by kernel_rfl) (by kernel_rfl) (fun _ _ _ h => h) (by rfl) (by intro w hSw; (try dsimp only at hSw); go_simp; first | done | with_reducible rfl) (by assumption) ?_; try simp only [Act.put, List.setIfInBounds_toArray, List.set_cons_zero, List.set_cons_succ])
                    (refine held_take (i := 10) rfl rfl (by kernel_rfl) (by kernel_rfl) (by kernel_rfl) (fun _ _ _ h => h) (by rfl) (by intro w hSw; (try dsimp only at hSw); go_simp; first | done | with_reducible rfl) (by assumption) ?_; try simp only [Act.put, List.setIfInBounds_toArray, List.set_cons_zero, List.set_cons_succ])
                    (refine held_take (i := 11) rfl rfl (by kernel_rfl) (by kernel_rfl) (by kernel_rfl) (fun _ _ _ h => h) (by rfl) (by intro w hSw; (try dsimp only at hSw); go_simp; first | done | with_reducible rfl) (by assumption) ?_; try simp only [Act.put, List.setIfInBounds_toArray, List.set_cons_zero, List.set_cons_succ])
                    (refine held_take (i := 13) rfl rfl (by kernel_rfl) (by kernel_rfl) (by kernel_rfl) (fun _ _ _ h => h) (by rfl) (by intro w hSw; (try dsimp only at hSw); go_simp; first | done | with_reducible rfl) (by assumption) ?_; try simp only [Act.put, List.setIfInBounds_toArray, List.set_cons_zero, List.set_cons_succ])
                    (refine held_take (i := 14) rfl rfl (by kernel_rfl) (by kernel_rfl) (by kernel_rfl) (fun _ _ _ h => h) (by rfl) (by intro w hSw; (try dsimp only at hSw); go_simp; first | done | with_reducible rfl) (by assumption) ?_; try simp only [Act.put, List.setIfInBounds_toArray, List.set_cons_zero, List.set_cons_succ])
                    (refine held_take (i := 15) rfl rfl (by kernel_rfl) (by kernel_rfl) (by kernel_rfl) (fun _ _ _ h => h) (by rfl) (by intro w hSw; (try dsimp only at hSw); go_simp; first | done | with_reducible rfl) (by assumption) ?_; try simp only [Act.put, List.setIfInBounds_toArray, List.set_cons_zero, List.set_cons_succ])
                    refine wpAnyH_ready (rs := [12]) (by kernel_rfl) (by simp) ?_
                    refine AllReadyH.cons rfl (fun K hK => ?_) AllReadyH.nil
                    go_simp
                    go_at_call 116
                    refine (HCD.out _).mono ?_
                    rintro e w1 ⟨t, rfl, ht, hb⟩
                    have HB3 := Lib.hid hb
                    refine hK.out _ _ trivial (fun hHeld => ?_)
                    clear hK K
                    try simp only [Act.put, List.setIfInBounds_toArray, List.set_cons_zero, List.set_cons_succ]
                    have hcmp : (t.toList == T.toList) = true := beq_iff_eq.2 (by rw [show t = T from nl_inj (by rw [ht, hsl, HEQ.out])]); clear ht hb
                    (refine held_take (i := 16) rfl rfl (by kernel_rfl) (by kernel_rfl) (by kernel_rfl) (fun _ _ _ h => h) (by rfl) (by intro w hSw; (try dsimp only at hSw); go_simp; first | done | with_reducible rfl) (by assumption) ?_; try simp only [Act.put, List.setIfInBounds_toArray, List.set_cons_zero, List.set_cons_succ])
                    (refine held_take (i := 17) rfl rfl (by kernel_rfl) (by kernel_rfl) (by kernel_rfl) (fun _ _ _ h => h) (by rfl) (by intro w hSw; (try dsimp only at hSw); go_simp; first | done | with_reducible rfl) (by assumption) ?_; try simp only [Act.put, List.setIfInBounds_toArray, List.set_cons_zero, List.set_cons_succ])
                    refine wpAnyH_done (by kernel_rfl) ?_ _
                    go_wp2
                    go_ret2
                    exact ⟨by rw [hit_pc (by rw [nl_len]; exact hks) HIT.out, ← HC.out]; rfl, HB2.out.drew.trans (HB3.out.mono HB2.out.size)⟩
                  · have HNH := Lib.hid (show ¬ hitN (nl s) j from fun h => heq (by have := h.2; rwa [← HC.out] at this))
                    have HEQ := Lib.hid heq
                    clear heq hok
                    have hsl : nl (s.extract 0 j) = (nl s).take j := cut_ok hks
                    obtain ⟨T, hT⟩ : ∃ T, s.extract 0 j = T := ⟨_, rfl⟩
                    rw [hT] at hsl
                    have hsx : ∀ W : World, (Instr.slice 9 (.string s) none (some (.int .i64 (j : Int))) none).run Tryd.prog W = .ok (.string T) W := fun W => by rw [← hT, run_slice_string_to_if _ _ _ _ _ Tryd.underlying9, if_pos ⟨by omega, by omega⟩]; rfl
                    refine wp_region_held_drew (S := fun _ => True) (by kernel_rfl) trivial (fun hHeld => ?_)
                    (refine held_take (i := 0) rfl rfl (by kernel_rfl) (by kernel_rfl) (by kernel_rfl) (fun _ _ _ h => h) (by rfl) (by intro w hSw; (try dsimp only at hSw); go_simp; first | done | with_reducible rfl) (by assumption) ?_; try simp only [Act.put, List.setIfInBounds_toArray, List.set_cons_zero, List.set_cons_succ])
                    (refine held_take (i := 1) rfl rfl (by kernel_rfl) (by kernel_rfl) (by kernel_rfl) (fun _ _ _ h => h) (by rfl) (by intro w hSw; (try dsimp only at hSw); go_simp; first | done | with_reducible rfl) (by assumption) ?_; try simp only [Act.put, List.setIfInBounds_toArray, List.set_cons_zero, List.set_cons_succ])
                    (refine held_take (i := 2) rfl rfl (by kernel_rfl) (by kernel_rfl) (by kernel_rfl) (fun _ _ _ h => h) (by rfl) (by intro w hSw; (try dsimp only at hSw); go_simp; first | done | with_reducible rfl) (by assumption) ?_; try simp only [Act.put, List.setIfInBounds_toArray, List.set_cons_zero, List.set_cons_succ])
                    (refine held_take (i := 3) rfl rfl (by kernel_rfl) (by kernel_rfl) (by kernel_rfl) (fun _ _ _ h => h) (by rfl) (by intro w hSw; (try dsimp only at hSw); go_simp; first | done | with_reducible rfl) (by assumption) ?_; try simp only [Act.put, List.setIfInBounds_toArray, List.set_cons_zero, List.set_cons_succ])
                    (refine held_take (i := 4) rfl rfl (by kernel_rfl) (by kernel_rfl) (by kernel_rfl) (fun _ _ _ h => h) (by rfl) (by intro w hSw; (try dsimp only at hSw); go_simp; first | done | with_reducible rfl) (by assumption) ?_; try simp only [Act.put, List.setIfInBounds_toArray, List.set_cons_zero, List.set_cons_succ])
                    (refine held_take (i := 5) rfl rfl (by kernel_rfl) (by kernel_rfl) (by kernel_rfl) (fun _ _ _ h => h) (by rfl) (by intro w hSw; (try dsimp only at hSw); go_simp; first | done | with_reducible rfl) (by assumption) ?_; try simp only [Act.put, List.setIfInBounds_toArray, List.set_cons_zero, List.set_cons_succ])
                    (refine held_skip (i := 6) rfl rfl (by kernel_rfl) (by kernel_rfl) (by kernel_rfl) (fun _ _ _ h => h) (by rfl) (by assumption) ?_; try simp only [Act.put, List.setIfInBounds_toArray, List.set_cons_zero, List.set_cons_succ])
                    (refine held_skip (i := 7) rfl rfl (by kernel_rfl) (by kernel_rfl) (by kernel_rfl) (fun _ _ _ h => h) (by rfl) (by assumption) ?_; try simp only [Act.put, List.setIfInBounds_toArray, List.set_cons_zero, List.set_cons_succ])
                    (refine held_take (i := 8) rfl rfl (by kernel_rfl) (by kernel_rfl) (by kernel_rfl) (fun _ _ _ h => h) (by rfl) (by intro w hSw; (try dsimp only at hSw); go_simp; first | done | with_reducible rfl) (by assumption) ?_; try simp only [Act.put, List.setIfInBounds_toArray, List.set_cons_zero, List.set_cons_succ])
                    (refine held_take (i := 9) rfl rfl (by kernel_rfl) (by kernel_rfl) (by kernel_rfl) (fun _ _ _ h => h) (by rfl) (by intro w hSw; (try dsimp only at hSw); go_simp; first | done | with_reducible rfl) (by assumption) ?_; try simp only [Act.put, List.setIfInBounds_toArray, List.set_cons_zero, List.set_cons_succ])
                    (refine held_take (i := 10) rfl rfl (by kernel_rfl) (by kernel_rfl) (by kernel_rfl) (fun _ _ _ h => h) (by rfl) (by intro w hSw; (try dsimp only at hSw); go_simp; first | done | with_reducible rfl) (by assumption) ?_; try simp only [Act.put, List.setIfInBounds_toArray, List.set_cons_zero, List.set_cons_succ])
                    (refine held_take (i := 11) rfl rfl (by kernel_rfl) (by kernel_rfl) (by kernel_rfl) (fun _ _ _ h => h) (by rfl) (by intro w hSw; (try dsimp only at hSw); go_simp; first | done | with_reducible rfl) (by assumption) ?_; try simp only [Act.put, List.setIfInBounds_toArray, List.set_cons_zero, List.set_cons_succ])
                    (refine held_take (i := 13) rfl rfl (by kernel_rfl) (by kernel_rfl) (by kernel_rfl) (fun _ _ _ h => h) (by rfl) (by intro w hSw; (try dsimp only at hSw); go_simp; first | done | with_reducible rfl) (by assumption) ?_; try simp only [Act.put, List.setIfInBounds_toArray, List.set_cons_zero, List.set_cons_succ])
                    (refine held_take (i := 14) rfl rfl (by kernel_rfl) (by kernel_rfl) (by kernel_rfl) (fun _ _ _ h => h) (by rfl) (by intro w hSw; (try dsimp only at hSw); go_simp; first | done | with_reducible rfl) (by assumption) ?_; try simp only [Act.put, List.setIfInBounds_toArray, List.set_cons_zero, List.set_cons_succ])
                    (refine held_take (i := 15) rfl rfl (by kernel_rfl) (by kernel_rfl) (by kernel_rfl) (fun _ _ _ h => h) (by rfl) (by intro w hSw; (try dsimp only at hSw); go_simp; first | done | with_reducible rfl) (by assumption) ?_; try simp only [Act.put, List.setIfInBounds_toArray, List.set_cons_zero, List.set_cons_succ])
                    refine wpAnyH_ready (rs := [12]) (by kernel_rfl) (by simp) ?_
                    refine AllReadyH.cons rfl (fun K hK => ?_) AllReadyH.nil
                    go_simp
                    go_at_call 116
                    refine (HCD.out _).mono ?_
                    rintro e w1 ⟨t, rfl, ht, hb⟩
                    have HB3 := Lib.hid hb
                    refine hK.out _ _ trivial (fun hHeld => ?_)
                    clear hK K
                    try simp only [Act.put, List.setIfInBounds_toArray, List.set_cons_zero, List.set_cons_succ]
                    have hcmp : (t.toList == T.toList) = false := str_ne (fun e => HEQ.out (by rw [← ht, e, hsl])); clear ht hb
                    (refine held_take (i := 16) rfl rfl (by kernel_rfl) (by kernel_rfl) (by kernel_rfl) (fun _ _ _ h => h) (by rfl) (by intro w hSw; (try dsimp only at hSw); go_simp; first | done | with_reducible rfl) (by assumption) ?_; try simp only [Act.put, List.setIfInBounds_toArray, List.set_cons_zero, List.set_cons_succ])
                    (refine held_take (i := 17) rfl rfl (by kernel_rfl) (by kernel_rfl) (by kernel_rfl) (fun _ _ _ h => h) (by rfl) (by intro w hSw; (try dsimp only at hSw); go_simp; first | done | with_reducible rfl) (by assumption) ?_; try simp only [Act.put, List.setIfInBounds_toArray, List.set_cons_zero, List.set_cons_succ])
                    refine wpAnyH_done (by kernel_rfl) ?_ _
                    go_wp2
                    refine ⟨⟨j + 1, by go_num, by omega, by omega, ?_, HB2.out.drew.trans (HB3.out.mono HB2.out.size)⟩, by simp [intOf]; omega⟩
                    exact no_step HNO.out HNH.out
                · have r2 : decide ((r : Int) < 55296) = false := by simp; omega
                  have r3 : decide ((57343 : Int) < (r : Int)) = true := by unfold okR at hok; simp; omega
                  have HCD := Lib.hid fun W => coded_any r hle W
                  by_cases heq : encN r = (nl s).take j
                  · have HIT := Lib.hid (show hitN (nl s) j from ⟨by rw [← HC.out]; exact hok, by rw [← HC.out]; exact heq⟩)
                    have HEQ := Lib.hid heq
                    clear heq hok
                    have hsl : nl (s.extract 0 j) = (nl s).take j := cut_ok hks
                    obtain ⟨T, hT⟩ : ∃ T, s.extract 0 j = T := ⟨_, rfl⟩
                    rw [hT] at hsl
                    have hsx : ∀ W : World, (Instr.slice 9 (.string s) none (some (.int .i64 (j : Int))) none).run Tryd.prog W = .ok (.string T) W := fun W => by rw [← hT, run_slice_string_to_if _ _ _ _ _ Tryd.underlying9, if_pos ⟨by omega, by omega⟩]; rfl
                    go_region_held3 (fun _ => True) (trivial) (first
                      | (go_at_call 116; refine (HCD.out _).mono ?_; rintro e w1 ⟨t, rfl, ht, hb⟩; have HB3 := Lib.hid hb; have hcmp : (t.toList == T.toList) = true := beq_iff_eq.2 (by rw [show t = T from nl_inj (by rw [ht, hsl, HEQ.out])]); clear ht hb)
                      | (fail))
                    go_wp2
                    go_ret2
                    exact ⟨by rw [hit_pc (by rw [nl_len]; exact hks) HIT.out, ← HC.out]; rfl, HB2.out.drew.trans (HB3.out.mono HB2.out.size)⟩
                  · have HNH := Lib.hid (show ¬ hitN (nl s) j from fun h => heq (by have := h.2; rwa [← HC.out] at this))
                    have HEQ := Lib.hid heq
                    clear heq hok
                    have hsl : nl (s.extract 0 j) = (nl s).take j := cut_ok hks
                    obtain ⟨T, hT⟩ : ∃ T, s.extract 0 j = T := ⟨_, rfl⟩
                    rw [hT] at hsl
                    have hsx : ∀ W : World, (Instr.slice 9 (.string s) none (some (.int .i64 (j : Int))) none).run Tryd.prog W = .ok (.string T) W := fun W => by rw [← hT, run_slice_string_to_if _ _ _ _ _ Tryd.underlying9, if_pos ⟨by omega, by omega⟩]; rfl
                    go_region_held3 (fun _ => True) (trivial) (first
                      | (go_at_call 116; refine (HCD.out _).mono ?_; rintro e w1 ⟨t, rfl, ht, hb⟩; have HB3 := Lib.hid hb; have hcmp : (t.toList == T.toList) = false := str_ne (fun e => HEQ.out (by rw [← ht, e, hsl])); clear ht hb)
                      | (fail))
                    go_wp2
                    refine ⟨⟨j + 1, by go_num, by omega, by omega, ?_, HB2.out.drew.trans (HB3.out.mono HB2.out.size)⟩, by simp [intOf]; omega⟩
                    exact no_step HNO.out HNH.out
              · have hnh : ¬ hitN (nl s) j := fun h => hok (by have := h.1; rwa [← HC.out] at this)
                by_cases hle : r ≤ 1114111
                · have r1 : decide ((r : Int) ≤ 1114111) = true := by simp; omega
                  have r2 : decide ((r : Int) < 55296) = false := by unfold okR at hok; simp; omega
                  have r3 : decide ((57343 : Int) < (r : Int)) = false := by unfold okR at hok; simp; omega
                  have HNH := Lib.hid hnh
                  clear hnh hok
                  go_quiet (fail)
                  go_wp2
                  refine ⟨⟨j + 1, by go_num, by omega, by omega, no_step HNO.out HNH.out, below_drewN HB2.out _⟩, by simp [intOf]; omega⟩
                · have r1 : decide ((r : Int) ≤ 1114111) = false := by simp; omega
                  have HNH := Lib.hid hnh
                  clear hnh hok
                  go_quiet (fail)
                  go_wp2
                  refine ⟨⟨j + 1, by go_num, by omega, by omega, no_step HNO.out HNH.out, below_drewN HB2.out _⟩, by simp [intOf]; omega⟩
        · have e2 : ((k : Int) == 2) = false := by simp; omega
          have e3 : ((k : Int) == 3) = false := by simp; omega
          have e4 : ((k : Int) == 4) = true := by simp; omega
          have HK := Lib.hid hk
          clear hk
          go_wp2
          go_loopw [5, 6] (fun rv jv wx => ∃ (j r : Nat), jv = .int .i64 j ∧ rv = .int .i32 r ∧ 1 ≤ j ∧ j ≤ k ∧ r < 256 * 64 ^ (j - 1) ∧ r = (((nl s).take j).drop 1).foldl (fun r b => 64 * r + b % 64) (headN k b0) ∧ Below w.heap.size w wx) (fun _ jv _ => k - (intOf jv).toNat)
          case atStart => exact ⟨1, headN k b0, rfl, by rw [HK.out]; simp [headN], by omega, by omega, by rw [HK.out]; simp [headN]; omega, by rw [take_drop_one]; rfl, HB.out⟩
          case round =>
            obtain ⟨j, r, rfl, rfl, hj1, hjk, hr, hrv, hbx⟩ := hrel
            have HB2 := Lib.hid hbx
            have HR := Lib.hid hrv
            have HRL := Lib.hid hr
            clear hbx hrv
            by_cases hj : j < k
            · have hji : (j : Int) < (k : Int) := by omega
              have hjs : j < s.size := by omega
              have hr20 : (r : Int) ≤ 1048575 := by
                have : 64 ^ (j - 1) ≤ 64 ^ 2 := Nat.pow_le_pow_right (by omega) (by omega)
                omega
              obtain ⟨b, hb⟩ : ∃ b : Nat, b = (s[j]'hjs).toNat := ⟨_, rfl⟩
              have hb2 : b < 256 := by rw [hb]; exact UInt8.toNat_lt _
              have hjx : ∀ w1, (Instr.index 9 (Value.string s) (Value.int IntKind.i64 (j : Int))).run Tryd.prog w1 = .ok (.int .u8 (b : Int)) w1 := fun w1 => by
                rw [run_index_string w1 9 s .i64 j Tryd.underlying9, dif_pos ⟨by omega, by omega⟩, hb]; rfl
              have HBJ := Lib.hid hb
              clear hb hr
              go_wp2
              refine ⟨⟨j + 1, 64 * r + b % 64, by go_num, by simp, by omega, hj, cand_bd hj1 HRL.out, ?_, HB2.out⟩, by simp [intOf]; omega⟩
              exact cand_next hj1 hjs HBJ.out HR.out
            · obtain rfl : j = k := by omega
              have HC := Lib.hid (show r = candN (nl s) j from by rw [HR.out, cand_head hd0 j b0 HB0.out]; rfl)
              clear hr hj hjk
              go_wp2
              by_cases hok : okR r
              · have hle : r ≤ 1114111 := by unfold okR at hok; omega
                have r1 : decide ((r : Int) ≤ 1114111) = true := by simp; omega
                by_cases hlow : r < 55296
                · have r2 : decide ((r : Int) < 55296) = true := by simp; omega
                  have HCD := Lib.hid fun W => coded_any r hle W
                  by_cases heq : encN r = (nl s).take j
                  · have HIT := Lib.hid (show hitN (nl s) j from ⟨by rw [← HC.out]; exact hok, by rw [← HC.out]; exact heq⟩)
                    have HEQ := Lib.hid heq
                    clear heq hok
                    have hsl : nl (s.extract 0 j) = (nl s).take j := cut_ok hks
                    obtain ⟨T, hT⟩ : ∃ T, s.extract 0 j = T := ⟨_, rfl⟩
                    rw [hT] at hsl
                    have hsx : ∀ W : World, (Instr.slice 9 (.string s) none (some (.int .i64 (j : Int))) none).run Tryd.prog W = .ok (.string T) W := fun W => by rw [← hT, run_slice_string_to_if _ _ _ _ _ Tryd.underlying9, if_pos ⟨by omega, by omega⟩]; rfl
                    refine wp_region_held_drew (S := fun _ => True) (by kernel_rfl) trivial (fun hHeld => ?_)
                    (refine held_take (i := 0) rfl rfl (by kernel_rfl) (by kernel_rfl) (by kernel_rfl) (fun _ _ _ h => h) (by rfl) (by intro w hSw; (try dsimp only at hSw); go_simp; first | done | with_reducible rfl) (by assumption) ?_; try simp only [Act.put, List.setIfInBounds_toArray, List.set_cons_zero, List.set_cons_succ])
                    (refine held_take (i := 1) rfl rfl (by kernel_rfl) (by kernel_rfl) (by kernel_rfl) (fun _ _ _ h => h) (by rfl) (by intro w hSw; (try dsimp only at hSw); go_simp; first | done | with_reducible rfl) (by assumption) ?_; try simp only [Act.put, List.setIfInBounds_toArray, List.set_cons_zero, List.set_cons_succ])
                    (refine held_take (i := 2) rfl rfl (by kernel_rfl) (by kernel_rfl) (by kernel_rfl) (fun _ _ _ h => h) (by rfl) (by intro w hSw; (try dsimp only at hSw); go_simp; first | done | with_reducible rfl) (by assumption) ?_; try simp only [Act.put, List.setIfInBounds_toArray, List.set_cons_zero, List.set_cons_succ])
                    (refine held_take (i := 3) rfl rfl (by kernel_rfl) (by kernel_rfl) (by kernel_rfl) (fun _ _ _ h => h) (by rfl) (by intro w hSw; (try dsimp only at hSw); go_simp; first | done | with_reducible rfl) (by assumption) ?_; try simp only [Act.put, List.setIfInBounds_toArray, List.set_cons_zero, List.set_cons_succ])
                    (refine held_take (i := 4) rfl rfl (by kernel_rfl) (by kernel_rfl) (by kernel_rfl) (fun _ _ _ h => h) (by rfl) (by intro w hSw; (try dsimp only at hSw); go_simp; first | done | with_reducible rfl) (by assumption) ?_; try simp only [Act.put, List.setIfInBounds_toArray, List.set_cons_zero, List.set_cons_succ])
                    (refine held_take (i := 5) rfl rfl (by kernel_rfl) (by kernel_rfl) (by kernel_rfl) (fun _ _ _ h => h) (by rfl) (by intro w hSw; (try dsimp only at hSw); go_simp; first | done | with_reducible rfl) (by assumption) ?_; try simp only [Act.put, List.setIfInBounds_toArray, List.set_cons_zero, List.set_cons_succ])
                    (refine held_skip (i := 6) rfl rfl (by kernel_rfl) (by kernel_rfl) (by kernel_rfl) (fun _ _ _ h => h) (by rfl) (by assumption) ?_; try simp only [Act.put, List.setIfInBounds_toArray, List.set_cons_zero, List.set_cons_succ])
                    (refine held_skip (i := 7) rfl rfl (by kernel_rfl) (by kernel_rfl) (by kernel_rfl) (fun _ _ _ h => h) (by rfl) (by assumption) ?_; try simp only [Act.put, List.setIfInBounds_toArray, List.set_cons_zero, List.set_cons_succ])
                    (refine held_take (i := 8) rfl rfl (by kernel_rfl) (by kernel_rfl) (by kernel_rfl) (fun _ _ _ h => h) (by rfl) (by intro w hSw; (try dsimp only at hSw); go_simp; first | done | with_reducible rfl) (by assumption) ?_; try simp only [Act.put, List.setIfInBounds_toArray, List.set_cons_zero, List.set_cons_succ])
                    (refine held_take (i := 9) rfl rfl (by kernel_rfl) (by kernel_rfl) (by kernel_rfl) (fun _ _ _ h => h) (by rfl) (by intro w hSw; (try dsimp only at hSw); go_simp; first | done | with_reducible rfl) (by assumption) ?_; try simp only [Act.put, List.setIfInBounds_toArray, List.set_cons_zero, List.set_cons_succ])
                    (refine held_take (i := 10) rfl rfl (by kernel_rfl) (by kernel_rfl) (by kernel_rfl) (fun _ _ _ h => h) (by rfl) (by intro w hSw; (try dsimp only at hSw); go_simp; first | done | with_reducible rfl) (by assumption) ?_; try simp only [Act.put, List.setIfInBounds_toArray, List.set_cons_zero, List.set_cons_succ])
                    (refine held_take (i := 11) rfl rfl (by kernel_rfl) (by kernel_rfl) (by kernel_rfl) (fun _ _ _ h => h) (by rfl) (by intro w hSw; (try dsimp only at hSw); go_simp; first | done | with_reducible rfl) (by assumption) ?_; try simp only [Act.put, List.setIfInBounds_toArray, List.set_cons_zero, List.set_cons_succ])
                    (refine held_take (i := 13) rfl rfl (by kernel_rfl) (by kernel_rfl) (by kernel_rfl) (fun _ _ _ h => h) (by rfl) (by intro w hSw; (try dsimp only at hSw); go_simp; first | done | with_reducible rfl) (by assumption) ?_; try simp only [Act.put, List.setIfInBounds_toArray, List.set_cons_zero, List.set_cons_succ])
                    (refine held_take (i := 14) rfl rfl (by kernel_rfl) (by kernel_rfl) (by kernel_rfl) (fun _ _ _ h => h) (by rfl) (by intro w hSw; (try dsimp only at hSw); go_simp; first | done | with_reducible rfl) (by assumption) ?_; try simp only [Act.put, List.setIfInBounds_toArray, List.set_cons_zero, List.set_cons_succ])
                    (refine held_take (i := 15) rfl rfl (by kernel_rfl) (by kernel_rfl) (by kernel_rfl) (fun _ _ _ h => h) (by rfl) (by intro w hSw; (try dsimp only at hSw); go_simp; first | done | with_reducible rfl) (by assumption) ?_; try simp only [Act.put, List.setIfInBounds_toArray, List.set_cons_zero, List.set_cons_succ])
                    refine wpAnyH_ready (rs := [12]) (by kernel_rfl) (by simp) ?_
                    refine AllReadyH.cons rfl (fun K hK => ?_) AllReadyH.nil
                    go_simp
                    go_at_call 116
                    refine (HCD.out _).mono ?_
                    rintro e w1 ⟨t, rfl, ht, hb⟩
                    have HB3 := Lib.hid hb
                    refine hK.out _ _ trivial (fun hHeld => ?_)
                    clear hK K
                    try simp only [Act.put, List.setIfInBounds_toArray, List.set_cons_zero, List.set_cons_succ]
                    have hcmp : (t.toList == T.toList) = true := beq_iff_eq.2 (by rw [show t = T from nl_inj (by rw [ht, hsl, HEQ.out])]); clear ht hb
                    (refine held_take (i := 16) rfl rfl (by kernel_rfl) (by kernel_rfl) (by kernel_rfl) (fun _ _ _ h => h) (by rfl) (by intro w hSw; (try dsimp only at hSw); go_simp; first | done | with_reducible rfl) (by assumption) ?_; try simp only [Act.put, List.setIfInBounds_toArray, List.set_cons_zero, List.set_cons_succ])
                    (refine held_take (i := 17) rfl rfl (by kernel_rfl) (by kernel_rfl) (by kernel_rfl) (fun _ _ _ h => h) (by rfl) (by intro w hSw; (try dsimp only at hSw); go_simp; first | done | with_reducible rfl) (by assumption) ?_; try simp only [Act.put, List.setIfInBounds_toArray, List.set_cons_zero, List.set_cons_succ])
                    refine wpAnyH_done (by kernel_rfl) ?_ _
                    go_wp2
                    go_ret2
                    exact ⟨by rw [hit_pc (by rw [nl_len]; exact hks) HIT.out, ← HC.out]; rfl, HB2.out.drew.trans (HB3.out.mono HB2.out.size)⟩
                  · have HNH := Lib.hid (show ¬ hitN (nl s) j from fun h => heq (by have := h.2; rwa [← HC.out] at this))
                    have HEQ := Lib.hid heq
                    clear heq hok
                    have hsl : nl (s.extract 0 j) = (nl s).take j := cut_ok hks
                    obtain ⟨T, hT⟩ : ∃ T, s.extract 0 j = T := ⟨_, rfl⟩
                    rw [hT] at hsl
                    have hsx : ∀ W : World, (Instr.slice 9 (.string s) none (some (.int .i64 (j : Int))) none).run Tryd.prog W = .ok (.string T) W := fun W => by rw [← hT, run_slice_string_to_if _ _ _ _ _ Tryd.underlying9, if_pos ⟨by omega, by omega⟩]; rfl
                    refine wp_region_held_drew (S := fun _ => True) (by kernel_rfl) trivial (fun hHeld => ?_)
                    (refine held_take (i := 0) rfl rfl (by kernel_rfl) (by kernel_rfl) (by kernel_rfl) (fun _ _ _ h => h) (by rfl) (by intro w hSw; (try dsimp only at hSw); go_simp; first | done | with_reducible rfl) (by assumption) ?_; try simp only [Act.put, List.setIfInBounds_toArray, List.set_cons_zero, List.set_cons_succ])
                    (refine held_take (i := 1) rfl rfl (by kernel_rfl) (by kernel_rfl) (by kernel_rfl) (fun _ _ _ h => h) (by rfl) (by intro w hSw; (try dsimp only at hSw); go_simp; first | done | with_reducible rfl) (by assumption) ?_; try simp only [Act.put, List.setIfInBounds_toArray, List.set_cons_zero, List.set_cons_succ])
                    (refine held_take (i := 2) rfl rfl (by kernel_rfl) (by kernel_rfl) (by kernel_rfl) (fun _ _ _ h => h) (by rfl) (by intro w hSw; (try dsimp only at hSw); go_simp; first | done | with_reducible rfl) (by assumption) ?_; try simp only [Act.put, List.setIfInBounds_toArray, List.set_cons_zero, List.set_cons_succ])
                    (refine held_take (i := 3) rfl rfl (by kernel_rfl) (by kernel_rfl) (by kernel_rfl) (fun _ _ _ h => h) (by rfl) (by intro w hSw; (try dsimp only at hSw); go_simp; first | done | with_reducible rfl) (by assumption) ?_; try simp only [Act.put, List.setIfInBounds_toArray, List.set_cons_zero, List.set_cons_succ])
                    (refine held_take (i := 4) rfl rfl (by kernel_rfl) (by kernel_rfl) (by kernel_rfl) (fun _ _ _ h => h) (by rfl) (by intro w hSw; (try dsimp only at hSw); go_simp; first | done | with_reducible rfl) (by assumption) ?_; try simp only [Act.put, List.setIfInBounds_toArray, List.set_cons_zero, List.set_cons_succ])
                    (refine held_take (i := 5) rfl rfl (by kernel_rfl) (by kernel_rfl) (by kernel_rfl) (fun _ _ _ h => h) (by rfl) (by intro w hSw; (try dsimp only at hSw); go_simp; first | done | with_reducible rfl) (by assumption) ?_; try simp only [Act.put, List.setIfInBounds_toArray, List.set_cons_zero, List.set_cons_succ])
                    (refine held_skip (i := 6) rfl rfl (by kernel_rfl) (by kernel_rfl) (by kernel_rfl) (fun _ _ _ h => h) (by rfl) (by assumption) ?_; try simp only [Act.put, List.setIfInBounds_toArray, List.set_cons_zero, List.set_cons_succ])
                    (refine held_skip (i := 7) rfl rfl (by kernel_rfl) (by kernel_rfl) (by kernel_rfl) (fun _ _ _ h => h) (by rfl) (by assumption) ?_; try simp only [Act.put, List.setIfInBounds_toArray, List.set_cons_zero, List.set_cons_succ])
                    (refine held_take (i := 8) rfl rfl (by kernel_rfl) (by kernel_rfl) (by kernel_rfl) (fun _ _ _ h => h) (by rfl) (by intro w hSw; (try dsimp only at hSw); go_simp; first | done | with_reducible rfl) (by assumption) ?_; try simp only [Act.put, List.setIfInBounds_toArray, List.set_cons_zero, List.set_cons_succ])
                    (refine held_take (i := 9) rfl rfl (by kernel_rfl) (by kernel_rfl) (by kernel_rfl) (fun _ _ _ h => h) (by rfl) (by intro w hSw; (try dsimp only at hSw); go_simp; first | done | with_reducible rfl) (by assumption) ?_; try simp only [Act.put, List.setIfInBounds_toArray, List.set_cons_zero, List.set_cons_succ])
                    (refine held_take (i := 10) rfl rfl (by kernel_rfl) (by kernel_rfl) (by kernel_rfl) (fun _ _ _ h => h) (by rfl) (by intro w hSw; (try dsimp only at hSw); go_simp; first | done | with_reducible rfl) (by assumption) ?_; try simp only [Act.put, List.setIfInBounds_toArray, List.set_cons_zero, List.set_cons_succ])
                    (refine held_take (i := 11) rfl rfl (by kernel_rfl) (by kernel_rfl) (by kernel_rfl) (fun _ _ _ h => h) (by rfl) (by intro w hSw; (try dsimp only at hSw); go_simp; first | done | with_reducible rfl) (by assumption) ?_; try simp only [Act.put, List.setIfInBounds_toArray, List.set_cons_zero, List.set_cons_succ])
                    (refine held_take (i := 13) rfl rfl (by kernel_rfl) (by kernel_rfl) (by kernel_rfl) (fun _ _ _ h => h) (by rfl) (by intro w hSw; (try dsimp only at hSw); go_simp; first | done | with_reducible rfl) (by assumption) ?_; try simp only [Act.put, List.setIfInBounds_toArray, List.set_cons_zero, List.set_cons_succ])
                    (refine held_take (i := 14) rfl rfl (by kernel_rfl) (by kernel_rfl) (by kernel_rfl) (fun _ _ _ h => h) (by rfl) (by intro w hSw; (try dsimp only at hSw); go_simp; first | done | with_reducible rfl) (by assumption) ?_; try simp only [Act.put, List.setIfInBounds_toArray, List.set_cons_zero, List.set_cons_succ])
                    (refine held_take (i := 15) rfl rfl (by kernel_rfl) (by kernel_rfl) (by kernel_rfl) (fun _ _ _ h => h) (by rfl) (by intro w hSw; (try dsimp only at hSw); go_simp; first | done | with_reducible rfl) (by assumption) ?_; try simp only [Act.put, List.setIfInBounds_toArray, List.set_cons_zero, List.set_cons_succ])
                    refine wpAnyH_ready (rs := [12]) (by kernel_rfl) (by simp) ?_
                    refine AllReadyH.cons rfl (fun K hK => ?_) AllReadyH.nil
                    go_simp
                    go_at_call 116
                    refine (HCD.out _).mono ?_
                    rintro e w1 ⟨t, rfl, ht, hb⟩
                    have HB3 := Lib.hid hb
                    refine hK.out _ _ trivial (fun hHeld => ?_)
                    clear hK K
                    try simp only [Act.put, List.setIfInBounds_toArray, List.set_cons_zero, List.set_cons_succ]
                    have hcmp : (t.toList == T.toList) = false := str_ne (fun e => HEQ.out (by rw [← ht, e, hsl])); clear ht hb
                    (refine held_take (i := 16) rfl rfl (by kernel_rfl) (by kernel_rfl) (by kernel_rfl) (fun _ _ _ h => h) (by rfl) (by intro w hSw; (try dsimp only at hSw); go_simp; first | done | with_reducible rfl) (by assumption) ?_; try simp only [Act.put, List.setIfInBounds_toArray, List.set_cons_zero, List.set_cons_succ])
                    (refine held_take (i := 17) rfl rfl (by kernel_rfl) (by kernel_rfl) (by kernel_rfl) (fun _ _ _ h => h) (by rfl) (by intro w hSw; (try dsimp only at hSw); go_simp; first | done | with_reducible rfl) (by assumption) ?_; try simp only [Act.put, List.setIfInBounds_toArray, List.set_cons_zero, List.set_cons_succ])
                    refine wpAnyH_done (by kernel_rfl) ?_ _
                    go_wp2
                    refine ⟨⟨j + 1, by go_num, by omega, by omega, ?_, HB2.out.drew.trans (HB3.out.mono HB2.out.size)⟩, by simp [intOf]; omega⟩
                    exact no_step HNO.out HNH.out
                · have r2 : decide ((r : Int) < 55296) = false := by simp; omega
                  have r3 : decide ((57343 : Int) < (r : Int)) = true := by unfold okR at hok; simp; omega
                  have HCD := Lib.hid fun W => coded_any r hle W
                  by_cases heq : encN r = (nl s).take j
                  · have HIT := Lib.hid (show hitN (nl s) j from ⟨by rw [← HC.out]; exact hok, by rw [← HC.out]; exact heq⟩)
                    have HEQ := Lib.hid heq
                    clear heq hok
                    have hsl : nl (s.extract 0 j) = (nl s).take j := cut_ok hks
                    obtain ⟨T, hT⟩ : ∃ T, s.extract 0 j = T := ⟨_, rfl⟩
                    rw [hT] at hsl
                    have hsx : ∀ W : World, (Instr.slice 9 (.string s) none (some (.int .i64 (j : Int))) none).run Tryd.prog W = .ok (.string T) W := fun W => by rw [← hT, run_slice_string_to_if _ _ _ _ _ Tryd.underlying9, if_pos ⟨by omega, by omega⟩]; rfl
                    go_region_held3 (fun _ => True) (trivial) (first
                      | (go_at_call 116; refine (HCD.out _).mono ?_; rintro e w1 ⟨t, rfl, ht, hb⟩; have HB3 := Lib.hid hb; have hcmp : (t.toList == T.toList) = true := beq_iff_eq.2 (by rw [show t = T from nl_inj (by rw [ht, hsl, HEQ.out])]); clear ht hb)
                      | (fail))
                    go_wp2
                    go_ret2
                    exact ⟨by rw [hit_pc (by rw [nl_len]; exact hks) HIT.out, ← HC.out]; rfl, HB2.out.drew.trans (HB3.out.mono HB2.out.size)⟩
                  · have HNH := Lib.hid (show ¬ hitN (nl s) j from fun h => heq (by have := h.2; rwa [← HC.out] at this))
                    have HEQ := Lib.hid heq
                    clear heq hok
                    have hsl : nl (s.extract 0 j) = (nl s).take j := cut_ok hks
                    obtain ⟨T, hT⟩ : ∃ T, s.extract 0 j = T := ⟨_, rfl⟩
                    rw [hT] at hsl
                    have hsx : ∀ W : World, (Instr.slice 9 (.string s) none (some (.int .i64 (j : Int))) none).run Tryd.prog W = .ok (.string T) W := fun W => by rw [← hT, run_slice_string_to_if _ _ _ _ _ Tryd.underlying9, if_pos ⟨by omega, by omega⟩]; rfl
                    go_region_held3 (fun _ => True) (trivial) (first
                      | (go_at_call 116; refine (HCD.out _).mono ?_; rintro e w1 ⟨t, rfl, ht, hb⟩; have HB3 := Lib.hid hb; have hcmp : (t.toList == T.toList) = false := str_ne (fun e => HEQ.out (by rw [← ht, e, hsl])); clear ht hb)
                      | (fail))
                    go_wp2
                    refine ⟨⟨j + 1, by go_num, by omega, by omega, ?_, HB2.out.drew.trans (HB3.out.mono HB2.out.size)⟩, by simp [intOf]; omega⟩
                    exact no_step HNO.out HNH.out
              · have hnh : ¬ hitN (nl s) j := fun h => hok (by have := h.1; rwa [← HC.out] at this)
                by_cases hle : r ≤ 1114111
                · have r1 : decide ((r : Int) ≤ 1114111) = true := by simp; omega
                  have r2 : decide ((r : Int) < 55296) = false := by unfold okR at hok; simp; omega
                  have r3 : decide ((57343 : Int) < (r : Int)) = false := by unfold okR at hok; simp; omega
                  have HNH := Lib.hid hnh
                  clear hnh hok
                  go_quiet (fail)
                  go_wp2
                  refine ⟨⟨j + 1, by go_num, by omega, by omega, no_step HNO.out HNH.out, below_drewN HB2.out _⟩, by simp [intOf]; omega⟩
                · have r1 : decide ((r : Int) ≤ 1114111) = false := by simp; omega
                  have HNH := Lib.hid hnh
                  clear hnh hok
                  go_quiet (fail)
                  go_wp2
                  refine ⟨⟨j + 1, by go_num, by omega, by omega, no_step HNO.out HNH.out, below_drewN HB2.out _⟩, by simp [intOf]; omega⟩
      · have hksd : decide ((k : Int) ≤ (s.size : Int)) = false := by simp; omega
        have HP := Lib.hid (pc_none (nl_lt s) fun m h1 h2 h3 => HNO.out m h1 (by rw [nl_len] at h3; omega) (by rw [nl_len] at h3; exact h3))
        go_wp2
        go_ret2
        exact ⟨by rw [HP.out]; rfl, HB.out⟩
    · have hk4d : decide ((k : Int) ≤ 4) = false := by simp; omega
      have HP := Lib.hid (pc_none (nl_lt s) fun m h1 h2 h3 => HNO.out m h1 (by omega) (by rw [nl_len] at h3; exact h3))
      go_wp2
      go_ret2
      exact ⟨by rw [HP.out]; rfl, HB.out⟩
end Go.Proofs.YtfipljhlponcoaaDoor
