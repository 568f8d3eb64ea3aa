/- The 3rd document's Name: the contract. -/
import Derived.BigQuiet
import Derived.Test.YtndocngkganpdaaRefC
set_option linter.unusedVariables false
namespace Go.Proofs.Ytndocngkganpdaa
open Go.RowKit
/-- The signs of a name. -/
def SG : ByteArray := ⟨#[97, 98, 99, 100, 101, 102, 103, 104, 105, 106, 107, 108, 109, 110, 111, 112, 113, 114, 115, 116, 117, 118, 119, 120, 121, 122, 48, 49, 50, 51, 52, 53, 54, 55, 56, 57, 44, 46, 95, 43, 45, 64, 35, 63]⟩
theorem SG_size : SG.size = 44 := by rfl
/-- A sign's number at a place. -/
def sg (j : Nat) : Nat := (SG.data.toList.getD j 0).toNat
theorem sg_at (W : World) (j : Nat) (h : j < 44) : (Instr.index 9 (.string ⟨#[97, 98, 99, 100, 101, 102, 103, 104, 105, 106, 107, 108, 109, 110, 111, 112, 113, 114, 115, 116, 117, 118, 119, 120, 121, 122, 48, 49, 50, 51, 52, 53, 54, 55, 56, 57, 44, 46, 95, 43, 45, 64, 35, 63]⟩) (.int .i64 (j : Int))).run Try.prog W = .ok (.int .u8 (sg j : Int)) W := by
  show (Instr.index 9 (.string SG) (.int .i64 (j : Int))).run Try.prog W = _
  rw [run_index_string W 9 SG .i64 j Try.underlying9, dif_pos ⟨by omega, by rw [SG_size]; omega⟩]
  have e : ((j : Int)).toNat = j := by omega
  simp only [e]
  unfold sg
  have h2 : j < SG.data.toList.length := by show j < SG.size; rw [SG_size]; exact h
  rw [List.getD_eq_getElem?_getD, List.getElem?_eq_getElem h2]
  rfl
theorem sg_hit : ∀ j < 44, chB (sg j : Nat) = true := by decide +kernel
theorem sg_miss : ∀ c < 256, (!chB (c : Nat) || (List.range 44).any fun j => sg j == c) = true := by decide +kernel
set_option maxRecDepth 100000 in
set_option maxHeartbeats 16000000 in
theorem name3_any (s : ByteArray) (w : World) (hs : s.size ≤ maxLen) : Calls Try.prog 25 #[.string s] w fun e w' => e = .returned (.bool (nameB s.data.toList)) ∧ Below w.heap.size w w' := by
  unfold maxLen at hs
  obtain ⟨r, hr⟩ : ∃ r, r = nameB s.data.toList := ⟨_, rfl⟩
  rw [← hr]
  have HR := Lib.hid hr
  clear hr
  go_enter Try.func25, Try.ntmps25
  go_wp2_with fail
  go_loopw [3] (fun iv wx => ∃ k : Nat, k ≤ s.size ∧ iv = .int .i64 k ∧ (s.data.toList.take k).all (fun c => chB c.toNat) = true ∧ Below w.heap.size w wx) (fun iv _ => s.size - (intOf iv).toNat)
  case atStart => exact ⟨0, by omega, rfl, rfl, Below.refl _ _⟩
  case round =>
    obtain ⟨k, hk, rfl, hall, hb⟩ := hrel
    have HALL := Lib.hid hall
    have HB := Lib.hid hb
    clear hall hb
    by_cases hlt : k < s.size
    · have hki : (k : Int) < (s.size : Int) := by omega
      have hc := s[k].toNat_lt
      have hno := not_all s k hlt (fun c => chB c.toNat)
      have hyes := take_all s k hlt (fun c => chB c.toNat) HALL.out
      obtain ⟨c, hcc⟩ : ∃ c : Nat, c = s[k].toNat := ⟨_, rfl⟩
      have ix : ∀ W : World, (Instr.index 9 (.string s) (.int .i64 (k : Int))).run Try.prog W = .ok (.int .u8 (c : Int)) W := fun W => by
        rw [run_index_string W 9 s .i64 k Try.underlying9, dif_pos ⟨by omega, by omega⟩, hcc]; rfl
      rw [← hcc] at hc hno hyes
      have HNO := Lib.hid hno
      have HYES := Lib.hid hyes
      have IX := Lib.hid ix
      clear hno hyes hcc ix
      obtain ⟨wo, hwo⟩ : ∃ wo : World, wo = wr := ⟨_, rfl⟩
      subst hwo
      go_wp2_with fail
      go_loopw [4] (fun iv wx => ∃ j : Nat, j ≤ 44 ∧ iv = .int .i64 j ∧ (∀ i, i < j → sg i ≠ c) ∧ Below w.heap.size w wx) (fun iv _ => 44 - (intOf iv).toNat)
      case atStart => exact ⟨0, by omega, rfl, fun i hi => absurd hi (Nat.not_lt_zero i), HB.out⟩
      case round =>
        obtain ⟨j, hj, rfl, hap, hbx⟩ := hrel
        have HAP := Lib.hid hap
        have HX := Lib.hid hbx
        clear hap hbx
        by_cases hj44 : j < 44
        · have hji : decide ((j : Int) < 44) = true := decide_eq_true (by omega)
          have sx := fun W => sg_at W j hj44
          have ixo := fun W => IX.out W
          by_cases heq : sg j = c
          · have d1 : ((sg j : Int) == (c : Int)) = true := by rw [heq]; exact beq_self_eq_true _
            have hch := sg_hit j hj44
            rw [heq] at hch
            have HY := Lib.hid (HYES.out hch)
            have hj4 : ¬ (j : Int) = 44 := by omega
            clear heq hch
            go_wp2_with fail
            go_quiet (fail)
            go_wp2_with fail
            exact ⟨⟨k + 1, by omega, by go_num, HY.out, below_drewN HX.out _⟩, by simp [intOf]; omega⟩
          · have d1 : ((sg j : Int) == (c : Int)) = false := by rw [beq_eq_false_iff_ne]; omega
            have hap2 : ∀ i, i < j + 1 → sg i ≠ c := fun i hi => by
              rcases (show i < j ∨ i = j by omega) with h2 | rfl
              · exact HAP.out i h2
              · exact heq
            have HA2 := Lib.hid hap2
            clear heq hap2
            go_wp2_with fail
            go_quiet (fail)
            go_wp2_with fail
            exact ⟨⟨j + 1, by omega, by go_num, HA2.out, below_drewN HX.out _⟩, by simp [intOf]; omega⟩
        · obtain rfl : j = 44 := by omega
          have hnc : chB (c : Nat) = false := by
            have := sg_miss c hc
            rw [Bool.or_eq_true, List.any_eq_true] at this
            rcases this with h | ⟨i, hi, h⟩
            · simpa using h
            · exact absurd (by simpa using h) (HAP.out i (by simpa using hi))
          obtain rfl : r = false := by rw [HR.out]; unfold nameB; rw [HNO.out hnc, Bool.and_false]
          clear hnc
          go_wp2_with fail
          go_quiet (fail)
          go_wp2_with fail
          go_ret
          exact ⟨rfl, below_drewN HX.out _⟩
    · have hki : ¬ (k : Int) < (s.size : Int) := by omega
      obtain rfl : k = s.size := by omega
      have hr2 : r = (decide (1 ≤ s.size) && decide (s.size ≤ 31)) := by
        rw [HR.out]; unfold nameB; have := HALL.out; rw [List.take_of_length_le (by rw [size_data]; exact Nat.le_refl _)] at this; rw [this, Bool.and_true]; rfl
      have HR2 := Lib.hid hr2
      clear hr2
      by_cases h1 : 1 ≤ s.size
      · have d1 : decide (1 ≤ (s.size : Int)) = true := decide_eq_true (by omega)
        go_wp2_with fail
        go_ret
        exact ⟨by rw [HR2.out, decide_eq_true h1, Bool.true_and]; simp; omega, HB.out⟩
      · have d1 : decide (1 ≤ (s.size : Int)) = false := decide_eq_false (by omega)
        go_wp2_with fail
        go_ret
        exact ⟨by rw [HR2.out, decide_eq_false h1, Bool.false_and]; rfl, HB.out⟩
end Go.Proofs.Ytndocngkganpdaa
