/- put: what is shown as it is. -/
import Derived.Test.YtfipljhlponcoaaDoorPut
set_option linter.unusedVariables false
namespace Go.Proofs.YtfipljhlponcoaaDoor
open Go.RowKit
set_option maxRecDepth 100000 in
set_option maxHeartbeats 16000000 in
theorem put_pl (s : ByteArray) (pos k : Nat) (r : Int) (hp : pos + k ≤ s.size) (hk : k ≤ 4) (hh : (r == 65533) = true → Lib.hasPrefix (s.extract pos s.size).data.toList [239, 191, 189] = true) (hrl : Lib.runeLen r = k) (hr : 32 ≤ r) (hr7 : r < 127 ∨ 159 < r) (q : Nat) (hq : q < 127) (h92 : r ≠ 92) (hrq : r ≠ q) (A : Option Addr) (n c : Nat) (l : List Nat) (w : World) (base : Nat) (hb : base ≤ w.heap.size) (ho : Own w base A n c l) (hn : n ≤ 140737488355000) (hz : s.size ≤ 140737488355000) :
    Calls Tryd.prog 74 #[.slice A n c, .string s, .int .i64 pos, .int .i32 r, .int .u8 q] w fun e w' => ∃ A' n' c', e = .returned (.slice A' n' c') ∧ Own w' base A' n' c' (l ++ ((nl s).drop pos).take k) ∧ Below base w w' ∧ Lib.OthersKept 5 none w w' := by
  obtain ⟨i0, fi, fz0, fz1, fz2⟩ := info_parts Tryd.info5
  obtain ⟨bs, hbs⟩ : ∃ bs, bs = nl (s.extract pos (pos + k)) := ⟨_, rfl⟩
  have hbl : bs.length = k := by rw [hbs, nl_len, ext_len hp]
  have hbe : ((nl s).drop pos).take k = bs := by rw [hbs, nl_extract, show pos + k - pos = k from by omega]
  rw [hbe]
  have hpi : (pos : Int) + (k : Int) ≤ s.size := by omega
  have hk0 : (pos : Int) ≤ s.size := by omega
  have hr2 : decide (r < 32) = false := by simp; omega
  have hr4 : (r == 92) = false := by simp; omega
  have hr5 : (r == (q : Int)) = false := by simp; omega
  have hsum := sum_in hp hz
  have hcut := cut_run hp
  have HO := Lib.hid ho
  have HL := Lib.hid hbl
  have HS := Lib.hid hbs
  have HE := Lib.hid (ext_len hp)
  have m1 := Lib.hid (show n + k ≤ 140737488355328 by omega)
  have hlow : ∀ v' w', w'.ownsRow base 5 1 v' (n + (s.extract pos (pos + k)).size) (bV l ++ Lib.strCells (s.extract pos (pos + k))) → w.grownBy w' (Value.slice A n c).ownBlock → ∃ A' n' c', v' = .slice A' n' c' ∧ Own w' base A' n' c' (l ++ bs) ∧ Below base w w' ∧ Lib.OthersKept 5 none w w' := fun v' w' h1 h2 => by
    rw [str_bV, ext_len hp, ← hbs] at h1
    obtain ⟨A3, c3, rfl, h3⟩ := own_more (m := k) (l' := bs) ho.1 hbl.symm h1
    exact ⟨A3, _, c3, rfl, h3, (Below.refl base w).grown h2 hb fun g hg => (ho.2.lt g hg).1, (Lib.OthersKept.refl 5 none w).grown h2 (own_kind ho.2)⟩
  have HW := Lib.hid hlow
  have HB := Lib.hid hb
  clear hbs ho hbl hbe hlow hp
  by_cases h127 : 127 ≤ r
  · have hr6 : decide (r ≤ 159) = false := by simp; omega
    have hr8 : decide (127 ≤ r) = true := by simp [h127]
    have h159 : 159 < r := by omega
    clear hr7
    by_cases hf : r = 65533
    · subst hf
      have hh2 := hh rfl
      clear hh
      go_enter Tryd.func74, Tryd.ntmps74
      go_wp2_with (first
        | (go_at_call 81; refine (Tryd.strings_HasPrefix _ _ _).mono ?_; rintro e w1 ⟨rfl, rfl⟩; rw [hh2])
        | (go_at_call 99; refine (Tryd.utf8_RuneLen _ _).mono ?_; rintro e w1 ⟨rfl, rfl⟩; rw [hrl])
        | (at_builtin; refine Lib.wpList_append_own_string _ rfl (.tmp 24) (.tmp 30) 72 9 rfl base 5 i0 Tryd.underlying72 Tryd.underlying9 fi fz0 fz1 fz2 (.slice A n c) n (bV l) (by first | rfl | simp [Act.eval, Act.put]) HO.out.2 (s.extract pos (pos + k)) (by first | rfl | simp [Act.eval, Act.put]) (by rw [HE.out]; have := m1.out; unfold maxLen; omega) (by rw [HE.out]; exact m1.out) HB.out ?_; intro v' w' h1 h2 _)
        | (fail))
      go_ret
      obtain ⟨A3, n3, c3, rfl, h3, h4⟩ := HW.out _ _ h1 h2
      exact ⟨A3, n3, c3, rfl, h3, h4⟩
    · have hne2 : (r != 65533) = true := by simp [hf]
      clear hh
      go_enter Tryd.func74, Tryd.ntmps74
      go_wp2_with (first
        | (go_at_call 81; refine (Tryd.strings_HasPrefix _ _ _).mono ?_; rintro e w1 ⟨rfl, rfl⟩; rw [hh2])
        | (go_at_call 99; refine (Tryd.utf8_RuneLen _ _).mono ?_; rintro e w1 ⟨rfl, rfl⟩; rw [hrl])
        | (at_builtin; refine Lib.wpList_append_own_string _ rfl (.tmp 24) (.tmp 30) 72 9 rfl base 5 i0 Tryd.underlying72 Tryd.underlying9 fi fz0 fz1 fz2 (.slice A n c) n (bV l) (by first | rfl | simp [Act.eval, Act.put]) HO.out.2 (s.extract pos (pos + k)) (by first | rfl | simp [Act.eval, Act.put]) (by rw [HE.out]; have := m1.out; unfold maxLen; omega) (by rw [HE.out]; exact m1.out) HB.out ?_; intro v' w' h1 h2 _)
        | (fail))
      go_ret
      obtain ⟨A3, n3, c3, rfl, h3, h4⟩ := HW.out _ _ h1 h2
      exact ⟨A3, n3, c3, rfl, h3, h4⟩
  · have hr8 : decide (127 ≤ r) = false := by simp; omega
    have h126 : r < 127 := by omega
    have hne2 : (r != 65533) = true := by simp; omega
    clear hr7 hh
    go_enter Tryd.func74, Tryd.ntmps74
    go_wp2_with (first
      | (go_at_call 81; refine (Tryd.strings_HasPrefix _ _ _).mono ?_; rintro e w1 ⟨rfl, rfl⟩; rw [hh2])
      | (go_at_call 99; refine (Tryd.utf8_RuneLen _ _).mono ?_; rintro e w1 ⟨rfl, rfl⟩; rw [hrl])
      | (at_builtin; refine Lib.wpList_append_own_string _ rfl (.tmp 24) (.tmp 30) 72 9 rfl base 5 i0 Tryd.underlying72 Tryd.underlying9 fi fz0 fz1 fz2 (.slice A n c) n (bV l) (by first | rfl | simp [Act.eval, Act.put]) HO.out.2 (s.extract pos (pos + k)) (by first | rfl | simp [Act.eval, Act.put]) (by rw [HE.out]; have := m1.out; unfold maxLen; omega) (by rw [HE.out]; exact m1.out) HB.out ?_; intro v' w' h1 h2 _)
      | (fail))
    go_ret
    obtain ⟨A3, n3, c3, rfl, h3, h4⟩ := HW.out _ _ h1 h2
    exact ⟨A3, n3, c3, rfl, h3, h4⟩
end Go.Proofs.YtfipljhlponcoaaDoor
