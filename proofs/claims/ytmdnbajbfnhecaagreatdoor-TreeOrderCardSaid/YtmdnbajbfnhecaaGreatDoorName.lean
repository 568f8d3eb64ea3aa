/- Both Name functions: the contracts. -/
import Derived.Test.YtmdnbajbfnhecaaGreatDoorRows
import Derived.Test.YtmdnbajbfnhecaaGreatDoorMem
import Derived.Test.YtmdnbajbfnhecaaGreatDoorShelf
set_option linter.unusedVariables false
namespace Go.Proofs.YtmdnbajbfnhecaaGreatDoor
open Go.RowKit
theorem ch_ways (c : Int) (h : chB c = true) : (decide (97 ≤ c) = true ∧ decide (c ≤ 122) = true) ∨ (decide (97 ≤ c) = false ∧ decide (48 ≤ c) = true ∧ decide (c ≤ 57) = true) ∨ c = 44 ∨ c = 46 ∨ c = 95 ∨ c = 43 ∨ c = 45 ∨ c = 64 ∨ c = 35 ∨ c = 63 := by
  simp [chB] at h ⊢; omega
theorem ch_no (c : Int) (h : chB c = false) : (decide (97 ≤ c) = false ∧ decide (48 ≤ c) = false ∧ (c == 44) = false ∧ (c == 46) = false ∧ (c == 95) = false ∧ (c == 43) = false ∧ (c == 45) = false ∧ (c == 64) = false ∧ (c == 35) = false ∧ (c == 63) = false) ∨ (decide (97 ≤ c) = false ∧ decide (48 ≤ c) = true ∧ decide (c ≤ 57) = false ∧ (c == 44) = false ∧ (c == 46) = false ∧ (c == 95) = false ∧ (c == 43) = false ∧ (c == 45) = false ∧ (c == 64) = false ∧ (c == 35) = false ∧ (c == 63) = false) ∨ (decide (97 ≤ c) = true ∧ decide (c ≤ 122) = false ∧ decide (48 ≤ c) = true ∧ decide (c ≤ 57) = false ∧ (c == 44) = false ∧ (c == 46) = false ∧ (c == 95) = false ∧ (c == 43) = false ∧ (c == 45) = false ∧ (c == 64) = false ∧ (c == 35) = false ∧ (c == 63) = false) := by
  simp [chB] at h ⊢; omega
theorem take_all (s : ByteArray) (k : Nat) (h : k < s.size) (p : UInt8 → Bool) (ha : (s.data.toList.take k).all p = true) (hp : p s[k] = true) : (s.data.toList.take (k + 1)).all p = true := by
  rw [List.take_succ_eq_append_getElem (by simpa using h), List.all_append, ha]
  simp
  exact hp
theorem not_all (s : ByteArray) (k : Nat) (h : k < s.size) (p : UInt8 → Bool) (hp : p s[k] = false) : s.data.toList.all p = false := by
  rw [List.all_eq_false]
  exact ⟨s[k], by show s.data[k] ∈ _; simp, by simp [hp]⟩
theorem size_data (s : ByteArray) : s.data.toList.length = s.size := rfl

def chars : List UInt8 := [97, 98, 99, 100, 101, 102, 103, 104, 105, 106, 107, 108, 109, 110, 111, 112, 113, 114, 115, 116, 117, 118, 119, 120, 121, 122, 48, 49, 50, 51, 52, 53, 54, 55, 56, 57, 44, 46, 95, 43, 45, 64, 35, 63]
def ixB (n : Int) : Int := Lib.indexByte chars n.toNat.toUInt8
theorem ixB_all : ∀ n < 256, (decide (ixB (n : Nat) < 0) == !chB (n : Nat)) = true := by decide +kernel
def nameE (l : List UInt8) : Int := if nameB l then 0 else 10
theorem nameE_yes {l : List UInt8} (h : nameB l = true) : nameE l = 0 := by simp [nameE, h]
theorem nameE_no {l : List UInt8} (h : nameB l = false) : nameE l = 10 := by simp [nameE, h]
theorem ix_any (c : Int) (w : World) : Calls Tryz.prog 61 #[.string ⟨chars.toArray⟩, .int .u8 c] w fun e w' => e = .returned (.int .i64 (ixB c)) ∧ w = w' :=
  (Tryz.strings_IndexByte ⟨chars.toArray⟩ c w).mono fun _ _ h => ⟨h.1, h.2.symm⟩
set_option maxRecDepth 100000 in
theorem pname_any (s : ByteArray) (w : World) (hs : s.size ≤ maxLen) : Calls Tryz.prog 44 #[.string s] w fun e w' => e = .returned (.int .i64 (nameE s.data.toList)) ∧ Below w.heap.size w w' := by
  unfold maxLen at hs
  by_cases h1 : s.size < 1
  · have he : s.toList = [] := by
      rw [ByteArray.toList_eq]; exact List.eq_nil_of_length_eq_zero (by rw [size_data]; omega)
    have he' : s.toList.isEmpty = true := by rw [he]; rfl
    go_enter Tryz.func44, Tryz.ntmps44
    go_wp2
    all_goals go_ret
    all_goals exact ⟨ret_int (nameE_no (by unfold nameB; rw [size_data]; simp; omega)).symm, Below.refl _ _⟩
  · have he : ¬ s.toList = [] := by
      intro h
      rw [ByteArray.toList_eq] at h
      have : s.data.toList.length = 0 := by rw [h]; rfl
      rw [size_data] at this; omega
    have he' : s.toList.isEmpty = false := by simpa using he
    by_cases h2 : 31 < s.size
    · go_enter Tryz.func44, Tryz.ntmps44
      go_wp2
      all_goals go_ret
      all_goals exact ⟨ret_int (nameE_no (by unfold nameB; rw [size_data]; simp; omega)).symm, Below.refl _ _⟩
    · obtain ⟨cap, W, hrun, hb, hW, hcell⟩ := bytes_conv (P := Tryz.prog) w 9 94 5 s Tryz.underlying9 Tryz.underlying94 Tryz.underlying5
      have Hc := Lib.hid hcell
      have Hb := Lib.hid hb
      clear hcell hb
      go_enter Tryz.func44, Tryz.ntmps44
      go_wp2_with fail
      go_loop [15] (fun i => ∃ k : Nat, k ≤ s.size ∧ i = .int .i64 k ∧ (s.data.toList.take k).all (fun c => chB c.toNat) = true) (fun i => s.size - (intOf i).toNat)
      case atStart => exact ⟨0, by omega, rfl, rfl⟩
      case round =>
        obtain ⟨k, hk, rfl, hall⟩ := hrel
        have H := Lib.hid hall
        clear hall hrun
        by_cases hlt : k < s.size
        · have hc := Hc.out k hlt
          have hix := ixB_all s[k].toNat s[k].toNat_lt
          rw [beq_iff_eq] at hix
          obtain ⟨c, hcc⟩ : ∃ c : Int, c = (s[k].toNat : Int) := ⟨_, rfl⟩
          rw [← hcc] at hc hix
          have HC := Lib.hid hcc
          clear hcc
          rcases hch : chB c
          · have HF : Hid (chB (s[k].toNat : Int) = false) := by rw [← HC.out]; exact hch
            rw [hch] at hix
            simp only [Bool.not_false, decide_eq_true_eq] at hix
            clear hch
            go_wp2_with (go_at_call 61; refine (ix_any c _).mono ?_; rintro e w' ⟨rfl, rfl⟩)
            go_ret
            exact ⟨ret_int (nameE_no (by unfold nameB; rw [not_all s k hlt _ HF.out]; simp)).symm, Hb.out⟩
          · have HF : Hid (chB (s[k].toNat : Int) = true) := by rw [← HC.out]; exact hch
            rw [hch] at hix
            simp only [Bool.not_true, decide_eq_false_iff_not] at hix
            clear hch
            go_wp2_with (go_at_call 61; refine (ix_any c _).mono ?_; rintro e w' ⟨rfl, rfl⟩)
            go_round
            case rel => exact ⟨k + 1, by omega, by go_num, take_all s k hlt _ H.out HF.out⟩
            case measure => simp [intOf]; omega
        · go_wp2
          go_ret
          obtain rfl : k = s.size := by omega
          have h3 := H.out
          rw [List.take_of_length_le (by rw [size_data]; omega)] at h3
          exact ⟨ret_int (nameE_yes (by unfold nameB; rw [h3, size_data]; simp; omega)).symm, Hb.out⟩

end Go.Proofs.YtmdnbajbfnhecaaGreatDoor
