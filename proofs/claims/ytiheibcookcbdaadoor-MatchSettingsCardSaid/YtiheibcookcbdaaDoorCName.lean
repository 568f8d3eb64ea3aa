/- card.name: the contract. -/
import Derived.Test.YtiheibcookcbdaaDoorRune
import Derived.Test.YtiheibcookcbdaaDoorFffd
import Derived.Test.YtiheibcookcbdaaDoorIdx
set_option linter.unusedVariables false
namespace Go.Proofs.YtiheibcookcbdaaDoor
open Go.RowKit
theorem irune_all (m : ByteArray) (hm : m.size = 8) (hall : ∀ i (h : i < m.size), (m[i]'h).toNat < 128) (r : Nat) (h0 : 128 ≤ r) (w : World) : Calls Tryd.prog 45 #[.string m, .int .i32 (r : Int)] w fun e w' => e = .returned (.int .i64 (-1)) ∧ Below w.heap.size w w' := by
  by_cases h1 : r = 65533
  · subst h1; exact irune_fffd m hm hall w
  · rcases hv : Lib.validRune (r : Int)
    · exact irune_bad m r h0 h1 hv w
    · exact irune_gen m hm hall r h0 h1 hv w
set_option maxRecDepth 100000 in
theorem contains_great (m : ByteArray) (hm : m.size = 8) (hall : ∀ i (h : i < m.size), (m[i]'h).toNat < 128) (r : Nat) (h0 : 128 ≤ r) (w : World) : Calls Tryd.prog 41 #[.string m, .int .i32 (r : Int)] w fun e w' => e = .returned (.bool false) ∧ Below w.heap.size w w' := by
  have HI := Lib.hid (irune_all m hm hall r h0 w)
  clear hm hall h0
  go_enter Tryd.func41, Tryd.ntmps41
  go_wp2_with (go_at_call 45; refine HI.out.mono ?_; rintro e w1 ⟨rfl, hb1⟩; have HB1 := Lib.hid hb1; clear hb1)
  go_ret
  exact ⟨by rfl, HB1.out⟩
theorem marks_small : ∀ i (h : i < marks.size), (marks[i]'h).toNat < 128 := by decide +kernel
theorem marks_all : ∀ n < 128, (97 ≤ n ∧ n ≤ 122) ∨ (48 ≤ n ∧ n ≤ 57) ∨ decide (0 ≤ Lib.indexByte [44, 46, 95, 43, 45, 64, 35, 63] (n : Nat).toUInt8) = !notCh n := by decide +kernel
set_option maxRecDepth 100000 in
theorem contains_any (x : Nat) (w : World) (hl : ¬ (97 ≤ x ∧ x ≤ 122)) (hd : ¬ (48 ≤ x ∧ x ≤ 57)) : Calls Tryd.prog 41 #[.string ⟨#[44, 46, 95, 43, 45, 64, 35, 63]⟩, .int .i32 (x : Int)] w fun e w' => e = .returned (.bool (!notCh x)) ∧ Below w.heap.size w w' := by
  by_cases h : x < 128
  · refine (Tryd.strings_ContainsRune_ascii ⟨#[44, 46, 95, 43, 45, 64, 35, 63]⟩ (x : Int) w (by omega) (by omega)).mono ?_
    rintro e w' ⟨rfl, rfl⟩
    refine ⟨?_, Below.refl _ _⟩
    rcases marks_all x h with h1 | h1 | h1
    · exact absurd h1 hl
    · exact absurd h1 hd
    · rw [Int.toNat_natCast]
      exact ret_bool h1
  · have hc : chB (x : Int) = false := by
      rcases hcc : chB (x : Int)
      · rfl
      · have := (ch_small hcc).2; omega
    have hn : (!notCh x) = false := by unfold notCh; rw [hc]; rfl
    rw [hn]
    exact contains_great marks rfl marks_small x (by omega) w
set_option maxRecDepth 100000 in
theorem clos_ok : ClosOk := by
  intro W x
  by_cases hl : 97 ≤ x ∧ x ≤ 122
  · have hr : notCh x = false := by unfold notCh; have : chB (x : Int) = true := by simp [chB]; omega
                                    rw [this]; rfl
    obtain ⟨h1, h2⟩ := hl
    rw [hr]
    clear hr
    go_enter Tryd.func40, Tryd.ntmps40
    go_wp2_with fail
    go_ret
    exact ⟨by rfl, Below.refl _ _⟩
  · by_cases hd : 48 ≤ x ∧ x ≤ 57
    · have hr : notCh x = false := by unfold notCh; have : chB (x : Int) = true := by simp [chB]; omega
                                      rw [this]; rfl
      obtain ⟨h1, h2⟩ := hd
      have h3 : ¬ 97 ≤ x := by omega
      rw [hr]
      clear hr hl
      go_enter Tryd.func40, Tryd.ntmps40
      go_wp2_with fail
      go_ret
      exact ⟨by rfl, Below.refl _ _⟩
    · have HC := Lib.hid (contains_any x W hl hd)
      have hc : (x < 48) ∨ (57 < x ∧ x < 97) ∨ 122 < x := by omega
      obtain ⟨v, hv⟩ : ∃ v, v = notCh x := ⟨_, rfl⟩
      rw [← hv] at HC ⊢
      clear hv hl hd
      rcases hc with h1 | ⟨h1, h2⟩ | h1
      · have h3 : ¬ 97 ≤ x := by omega
        have h4 : ¬ 48 ≤ x := by omega
        go_enter Tryd.func40, Tryd.ntmps40
        go_wp2_with (go_at_call 41; refine HC.out.mono ?_; rintro e w1 ⟨rfl, hb1⟩; have HB1 := Lib.hid hb1; clear hb1)
        go_ret
        exact ⟨by simp, HB1.out⟩
      · have h3 : ¬ 97 ≤ x := by omega
        have h4 : 48 ≤ x := by omega
        have h5 : ¬ x ≤ 57 := by omega
        go_enter Tryd.func40, Tryd.ntmps40
        go_wp2_with (go_at_call 41; refine HC.out.mono ?_; rintro e w1 ⟨rfl, hb1⟩; have HB1 := Lib.hid hb1; clear hb1)
        go_ret
        exact ⟨by simp; omega, HB1.out⟩
      · have h3 : 97 ≤ x := by omega
        have h4 : 48 ≤ x := by omega
        have h5 : ¬ x ≤ 57 := by omega
        have h6 : ¬ x ≤ 122 := by omega
        go_enter Tryd.func40, Tryd.ntmps40
        go_wp2_with (go_at_call 41; refine HC.out.mono ?_; rintro e w1 ⟨rfl, hb1⟩; have HB1 := Lib.hid hb1; clear hb1)
        go_ret
        exact ⟨by simp; omega, HB1.out⟩
theorem size_data (s : ByteArray) : s.data.toList.length = s.size := rfl
set_option maxRecDepth 100000 in
theorem index_any (s : ByteArray) (w : World) (hs : s.size ≤ 31) : Calls Tryd.prog 39 #[.string s, .func (.func 40) #[] #[]] w fun e w' => e = .returned (.int .i64 (Lib.idxFunc notCh true s)) ∧ Below w.heap.size w w' := by
  have HI := Lib.hid (idxfunc_any clos_ok s w hs)
  generalize Lib.idxFunc notCh true s = I at *
  clear hs
  go_enter Tryd.func39, Tryd.ntmps39
  go_wp2_with (go_at_call 44; refine HI.out.mono ?_; rintro e w1 ⟨rfl, hb1⟩; have HB1 := Lib.hid hb1; clear hb1)
  go_ret
  exact ⟨by rfl, HB1.out⟩
set_option maxRecDepth 100000 in
theorem cname_any (s : ByteArray) (w : World) (hs : s.size ≤ maxLen) : Calls Tryd.prog 36 #[.string s] w fun e w' => e = .returned (.bool (nameB s.data.toList)) ∧ Below w.heap.size w w' := by
  unfold maxLen at hs
  by_cases h1 : s.size < 1
  · have he : s.toList = [] := by
      rw [ByteArray.toList_eq]; exact List.eq_nil_of_length_eq_zero (by rw [size_data]; omega)
    have he' : s.toList.isEmpty = true := by rw [he]; rfl
    go_enter Tryd.func36, Tryd.ntmps36
    go_wp2_with fail
    go_ret
    exact ⟨ret_bool (by unfold nameB; rw [size_data]; simp; omega), Below.refl _ _⟩
  · have he : ¬ s.toList = [] := by
      intro h
      rw [ByteArray.toList_eq] at h
      have : s.data.toList.length = 0 := by rw [h]; rfl
      rw [size_data] at this; omega
    have he' : s.toList.isEmpty = false := by simpa using he
    by_cases h2 : 31 < s.size
    · go_enter Tryd.func36, Tryd.ntmps36
      go_wp2_with fail
      go_ret
      exact ⟨ret_bool (by unfold nameB; rw [size_data]; simp; omega), Below.refl _ _⟩
    · have HI := Lib.hid (index_any s w (by omega))
      have hn := idx_name s
      have HN := Lib.hid hn
      obtain ⟨I, hI⟩ : ∃ I, I = Lib.idxFunc notCh true s := ⟨_, rfl⟩
      have HX := Lib.hid hI
      have HI2 : Hid (Calls Tryd.prog 39 #[.string s, .func (.func 40) #[] #[]] w fun e w' => e = .returned (.int .i64 I) ∧ Below w.heap.size w w') := Lib.hid (by rw [hI]; exact HI.out)
      clear hn hI HI
      go_enter Tryd.func36, Tryd.ntmps36
      go_wp2_with (go_at_call 39; refine HI2.out.mono ?_; rintro e w1 ⟨rfl, hb1⟩; have HB1 := Lib.hid hb1; clear hb1)
      go_ret
      refine ⟨ret_bool ?_, HB1.out⟩
      have h3 := HN.out
      rw [← HX.out] at h3
      unfold nameB
      rw [size_data, decide_eq_true (show 1 ≤ s.size by omega), decide_eq_true (show s.size ≤ 31 by omega)]
      simp only [Bool.and_true, Bool.true_and]
      rw [Bool.eq_iff_iff, decide_eq_true_eq]
      exact h3
end Go.Proofs.YtiheibcookcbdaaDoor
