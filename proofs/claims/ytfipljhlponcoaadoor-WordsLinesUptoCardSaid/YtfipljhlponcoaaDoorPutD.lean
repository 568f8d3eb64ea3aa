/- put: what has a backslash ahead. -/
import Derived.Test.YtfipljhlponcoaaDoorPut
set_option linter.unusedVariables false
namespace Go.Proofs.YtfipljhlponcoaaDoor
open Go.RowKit
set_option maxRecDepth 100000 in
set_option maxHeartbeats 16000000 in
theorem put_bs (s : ByteArray) (pos : Nat) (r : Nat) (hr : 32 ≤ r) (hr7 : r < 127) (q : Nat) (hq : q < 127) (hrq : r = 92 ∨ r = q) (A : Option Addr) (n c : Nat) (l : List Nat) (w : World) (base : Nat) (hb : base ≤ w.heap.size) (ho : Own w base A n c l) (hn : n ≤ 140737488355000) :
    Calls Tryd.prog 74 #[.slice A n c, .string s, .int .i64 pos, .int .i32 r, .int .u8 q] w fun e w' => ∃ A' n' c', e = .returned (.slice A' n' c') ∧ Own w' base A' n' c' (l ++ [92, r]) ∧ Below base w w' ∧ Lib.OthersKept 5 none w w' := by
  obtain ⟨i0, fi, fz0, fz1, fz2⟩ := info_parts Tryd.info5
  have hrl : Lib.runeLen (r : Int) = 1 := by unfold Lib.runeLen; rw [if_neg (by omega), if_pos (by omega)]
  have hr2 : decide ((r : Int) < 32) = false := by simp; omega
  have hr8 : decide (127 ≤ (r : Int)) = false := by simp; omega
  have hne2 : ((r : Int) != 65533) = true := by simp; omega
  have hm : (r : Int) % 256 = r := by omega
  have HO := Lib.hid ho
  have m1 := Lib.hid (show n + 2 ≤ maxLen by unfold maxLen; omega)
  have m2 := Lib.hid (show (n + 2) * 1 ≤ 140737488355328 by omega)
  have HB := Lib.hid hb
  have hlow : ∀ v' (x : World) w', w.heap.size < x.heap.size → Below w.heap.size w x → w'.ownsRow base 5 1 v' (n + 2) (bV l ++ bV [92, r]) → x.grownBy w' (Value.slice A n c).ownBlock → ∃ A' n' c', v' = .slice A' n' c' ∧ Own w' base A' n' c' (l ++ [92, r]) ∧ Below base w w' ∧ Lib.OthersKept 5 none w w' := fun v' x w' h0 hx h1 h2 => by
    obtain ⟨A3, c3, rfl, h3⟩ := own_more (m := 2) (l' := [92, r]) ho.1 rfl h1
    exact ⟨A3, _, c3, rfl, h3, (hx.mono hb).grown h2 (by omega) fun g hg => (ho.2.lt g hg).1, (kept_below hx).grown h2 (own_kind (own_keep2 ho.2 fun g _ hg => hx.block g hg))⟩
  have HW := Lib.hid hlow
  clear ho hlow
  have h126 : (r : Int) < 127 := by omega
  by_cases h92 : r = 92
  · have hr4 : ((r : Int) == 92) = true := by simp; omega
    clear hrq h92
    go_enter Tryd.func74, Tryd.ntmps74
    go_wp2_with (first
      | (go_at_call 99; refine (Tryd.utf8_RuneLen _ _).mono ?_; rintro e w1 ⟨rfl, rfl⟩; rw [hrl])
      | (at_builtin; refine wpList_append_seg _ rfl (.tmp 74) (.tmp 77) 72 rfl base 5 i0 _ 1 1 Tryd.underlying72 fi fz0 fz1 fz2 rfl (by decide) (.slice A n c) n (bV l) (by first | rfl | simp [Act.eval, Act.put]) (HO.out.2.alloc _) (w1.heap.size + 1) (some ⟨w1.heap.size, 0, none⟩) 2 2 (bV [92, r]) (by first | rfl | simp [Act.eval, Act.put]) rfl (by exact seg_new) (bV_one _) m1.out m2.out (Nat.le_trans HB.out (by simp)) ?_; intro v' w' h1 h2 _)
      | (fail))
    go_ret
    obtain ⟨A3, n3, c3, rfl, h3, h4⟩ := HW.out _ _ _ (by simp) ((Below.refl _ _).alloc (Nat.le_refl _) _) h1 h2
    exact ⟨A3, n3, c3, rfl, h3, h4⟩
  · have hr4 : ((r : Int) == 92) = false := by simp; omega
    have hr5 : ((r : Int) == (q : Int)) = true := by simp; omega
    clear hrq h92
    go_enter Tryd.func74, Tryd.ntmps74
    go_wp2_with (first
      | (go_at_call 99; refine (Tryd.utf8_RuneLen _ _).mono ?_; rintro e w1 ⟨rfl, rfl⟩; rw [hrl])
      | (at_builtin; refine wpList_append_seg _ rfl (.tmp 74) (.tmp 77) 72 rfl base 5 i0 _ 1 1 Tryd.underlying72 fi fz0 fz1 fz2 rfl (by decide) (.slice A n c) n (bV l) (by first | rfl | simp [Act.eval, Act.put]) (HO.out.2.alloc _) (w1.heap.size + 1) (some ⟨w1.heap.size, 0, none⟩) 2 2 (bV [92, r]) (by first | rfl | simp [Act.eval, Act.put]) rfl (by exact seg_new) (bV_one _) m1.out m2.out (Nat.le_trans HB.out (by simp)) ?_; intro v' w' h1 h2 _)
      | (fail))
    go_ret
    obtain ⟨A3, n3, c3, rfl, h3, h4⟩ := HW.out _ _ _ (by simp) ((Below.refl _ _).alloc (Nat.le_refl _) _) h1 h2
    exact ⟨A3, n3, c3, rfl, h3, h4⟩
end Go.Proofs.YtfipljhlponcoaaDoor
