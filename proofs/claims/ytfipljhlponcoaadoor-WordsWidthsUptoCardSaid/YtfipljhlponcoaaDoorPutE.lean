/- put: the bytes of a break. put: what is shown as it is. put: what has a backslash ahead. put: the bytes of a control rune beyond ASCII's. put: the contract. -/
import Derived.Test.YtfipljhlponcoaaDoorPut
set_option linter.unusedVariables false
namespace Go.Proofs.YtfipljhlponcoaaDoor
open Go.RowKit
set_option maxRecDepth 100000 in
set_option maxHeartbeats 16000000 in
theorem put_brk (s : ByteArray) (pos : Nat) (hp : pos + 1 ≤ s.size) (hh : Lib.hasPrefix (s.extract pos s.size).data.toList [239, 191, 189] = false) (q : Nat) (A : Option Addr) (n c : Nat) (l : List Nat) (w : World) (base : Nat) (hb : base ≤ w.heap.size) (ho : Own w base A n c l) (hn : n ≤ 140737488355000) (hz : s.size ≤ 140737488355000) :
    Calls Tryd.prog 74 #[.slice A n c, .string s, .int .i64 pos, .int .i32 65533, .int .u8 q] w fun e w' => ∃ A' n' c', e = .returned (.slice A' n' c') ∧ Own w' base A' n' c' (l ++ ((((nl s).drop pos).take 1).flatMap escB).flatten) ∧ Below base w w' ∧ Lib.OthersKept 5 none w w' := by
  obtain ⟨i0, fi, fz0, fz1, fz2⟩ := info_parts Tryd.info5
  obtain ⟨bs, hbs⟩ : ∃ bs, bs = ((nl s).drop pos).take 1 := ⟨_, rfl⟩
  have hbl : bs.length = 1 := by rw [hbs, List.length_take, List.length_drop, nl_len]; omega
  have hb256 : ∀ x ∈ bs, x < 256 := fun x hx => by rw [hbs] at hx; exact drop_lt (nl_lt s) pos x (List.mem_of_mem_take hx)
  have hcv := fun w => Frz.new (P := Tryd.prog) w 9 72 (s.extract pos (pos + 1)) Tryd.underlying9 Tryd.underlying72 Tryd.underlying5
  rw [ext_len hp, nl_extract, show pos + 1 - pos = 1 from by omega, ← hbs] at hcv
  rw [← hbs]
  have hpi : (pos : Int) + (1 : Int) ≤ s.size := by omega
  have hk0 : (pos : Int) ≤ s.size := by omega
  have hsum : wrap64 ((pos : Int) + 1) = (pos : Int) + 1 := sum_in (k := 1) hp hz
  have hcut : ∀ w, (Instr.slice 9 (Value.string s) (some (Value.int IntKind.i64 ↑pos)) (some (Value.int IntKind.i64 (↑pos + 1))) none).run Tryd.prog w = .ok (.string (s.extract pos (pos + 1))) w := fun w => cut_run (k := 1) hp w
  have HCV := Lib.hid hcv
  have HO := Lib.hid ho
  have HB := Lib.hid hb256
  have HL := Lib.hid hbl
  clear hcv hbs hb256
  go_enter Tryd.func74, Tryd.ntmps74
  obtain ⟨cp, W, hW1, hW2, hW3, hW4⟩ := HCV.out w
  have H2 := Lib.hid hW2
  have H4 := Lib.hid hW4
  clear hW2 hW4 hbl
  go_wp2_with (first
    | (go_at_call 81; refine (Tryd.strings_HasPrefix _ _ _).mono ?_; rintro e w1 ⟨rfl, rfl⟩; rw [hh])
    | (fail))
  go_loopw [0, 51] (fun o v w' => ∃ (j : Nat) (A' : Option Addr) (n' c' : Nat), j ≤ 1 ∧ v = .int .i64 j ∧ o = .slice A' n' c' ∧ n' = n + 4 * j ∧ Own w' base A' n' c' (l ++ ((bs.take j).flatMap escB).flatten) ∧ Frz w' w1.heap.size bs ∧ Below base w1 w' ∧ Lib.OthersKept 5 none w1 w') (fun _ v _ => 1 - (intOf v).toNat)
  case atStart =>
    exact ⟨0, A, n, c, by omega, rfl, rfl, by omega, ⟨by simpa using HO.out.1, by simpa using own_keep2 HO.out.2 fun g _ hlt => H2.out.block g hlt⟩, H4.out, H2.out.mono hb, kept_below H2.out⟩
  case round =>
    obtain ⟨j, A', n', c', hj, rfl, rfl, hn', ho', hf', hb', hk'⟩ := hrel
    have HK2 := Lib.hid hk'
    clear hk'
    have HO2 := Lib.hid ho'
    have HF2 := Lib.hid hf'
    have HB2 := Lib.hid hb'
    have HN2 := Lib.hid hn'
    clear hb' hn'
    by_cases hjk : j < 1
    · have hcl := hf'.cell (k := j) (by rw [HL.out]; exact hjk)
      have hji : (j : Int) < (1 : Int) := by omega
      have hx : bs[j]'(by rw [HL.out]; exact hjk) < 256 := HB.out _ (List.getElem_mem _)
      obtain ⟨x, hxx⟩ : ∃ x, x = bs[j]'(by rw [HL.out]; exact hjk) := ⟨_, rfl⟩
      rw [← hxx] at hcl hx
      have HX := Lib.hid hxx
      clear hf' hxx
      have ix1 := hex_run (x / 16) (by omega) (↑x / 16) (by omega)
      have ix2 := hex_run (x % 16) (by omega) (↑x % 16) (by omega)
      have hba : bits BinOp.and IntKind.u8 (x : Int) 15 = (x : Int) % 16 := u8_and15 _ (by omega) (by omega)
      have m1 : n' + 4 ≤ maxLen := by have := HN2.out; unfold maxLen; omega
      have m2 : (n' + 4) * 1 ≤ 140737488355328 := by have := HN2.out; omega
      have m3 : base ≤ wr.heap.size := Nat.le_trans hb HB2.out.size
      have M1 := Lib.hid m1
      have M2 := Lib.hid m2
      have M3 := Lib.hid m3
      clear m1 m2 m3
      have a1 : (0 : Int) ≤ (x : Int) / 16 := by omega
      have a2 : (x : Int) / 16 < 16 := by omega
      have a3 : (0 : Int) ≤ (x : Int) % 16 := by omega
      have a4 : (x : Int) % 16 < 16 := by omega
      go_wp2
      go_region_held3 (fun _ => True) (trivial) (first
        | (refine step_append_seg rfl (.tmp 55) (.tmp 62) 72 rfl base 5 i0 _ 1 1 Tryd.underlying72 fi fz0 fz1 fz2 rfl (by decide) (.slice A' n' c') n' (bV (l ++ ((bs.take j).flatMap escB).flatten)) (by first | rfl | simp [Act.eval] | simp [Act.eval, Act.put]) (by first | exact HO2.out.2 | exact HO2.out.2.alloc _) (wr.heap.size + 1) (some ⟨wr.heap.size, 0, none⟩) 4 4 (bV (escB x).flatten) (by first | rfl | simp [Act.eval] | simp [Act.eval, Act.put]) (by simp [bV, escB]) (by exact seg_new) (bV_one _) M1.out M2.out (by first | exact M3.out | exact Nat.le_trans M3.out (by simp)) ?_; intro v3 w3 hown3 hg3 _)
        | fail)
      all_goals
        obtain ⟨A3, c3, rfl, hown4⟩ := own_more (m := 4) (l' := (escB x).flatten) HO2.out.1 (by simp [escB]) hown3
        have hf4 : Frz w3 w1.heap.size bs := by
          refine Frz.grown (base := base) (size := 1) (n := n') (e := 5) (xs := bV (l ++ ((bs.take j).flatMap escB).flatten)) ?_ ?_ hg3
          rotate_left
          · first | exact HO2.out.2.alloc _ | exact (HO2.out.2.alloc _).drew
          · exact HF2.out.alloc _
        have hb4 : Below base w1 w3 := by
          refine Below.grown ?_ hg3 (by simp; have := M3.out; omega) (fun g hg => (HO2.out.2.lt g hg).1)
          first | exact HB2.out.alloc M3.out _ | exact (HB2.out.alloc M3.out _).drew | exact HB2.out.drew.alloc M3.out _
        have hk4 : Lib.OthersKept 5 none w1 w3 := by
          refine Lib.OthersKept.grown ?_ hg3 (own_kind (n := n') (base := base) (xs := bV (l ++ ((bs.take j).flatMap escB).flatten)) ?_)
          rotate_left
          · first | exact HO2.out.2.alloc _ | exact (HO2.out.2.alloc _).drew
          · first | exact HK2.out.alloc _ | exact (HK2.out.alloc _).drew
        have hl4 : l ++ ((bs.take j).flatMap escB).flatten ++ (escB x).flatten = l ++ ((bs.take (j + 1)).flatMap escB).flatten := by
          rw [List.take_succ_eq_append_getElem (by rw [HL.out]; exact hjk), ← HX.out]
          simp
        rw [hl4] at hown4
        clear hl4 hown3 hg3
        go_wp2
        exact ⟨⟨j + 1, A3, n' + 4, c3, hjk, by go_num, rfl, by have := HN2.out; omega, hown4, hf4, hb4, hk4⟩, by simp [intOf]; omega⟩
    · obtain rfl : j = 1 := by omega
      go_wp2
      go_ret
      refine ⟨A', n', c', rfl, ?_, HB2.out, HK2.out⟩
      have := HO2.out
      rw [List.take_of_length_le (by rw [HL.out]; exact Nat.le_refl _)] at this
      exact this
end Go.Proofs.YtfipljhlponcoaaDoor

set_option linter.unusedVariables false
namespace Go.Proofs.YtfipljhlponcoaaDoor
open Go.RowKit
set_option maxRecDepth 100000 in
set_option maxHeartbeats 16000000 in
theorem put_pl (s : ByteArray) (pos k : Nat) (r : Int) (hp : pos + k ≤ s.size) (hk : k ≤ 4) (hh : (r == 65533) = true → Lib.hasPrefix (s.extract pos s.size).data.toList [239, 191, 189] = true) (hrl : Lib.runeLen r = k) (hr : 32 ≤ r) (hr7 : r < 127 ∨ 159 < r) (q : Nat) (hq : q < 127) (h92 : r ≠ 92) (hrq : r ≠ q) (A : Option Addr) (n c : Nat) (l : List Nat) (w : World) (base : Nat) (hb : base ≤ w.heap.size) (ho : Own w base A n c l) (hn : n ≤ 140737488355000) (hz : s.size ≤ 140737488355000) :
    Calls Tryd.prog 74 #[.slice A n c, .string s, .int .i64 pos, .int .i32 r, .int .u8 q] w fun e w' => ∃ A' n' c', e = .returned (.slice A' n' c') ∧ Own w' base A' n' c' (l ++ ((nl s).drop pos).take k) ∧ Below base w w' ∧ Lib.OthersKept 5 none w w' := by
  obtain ⟨i0, fi, fz0, fz1, fz2⟩ := info_parts Tryd.info5
  obtain ⟨bs, hbs⟩ : ∃ bs, bs = nl (s.extract pos (pos + k)) := ⟨_, rfl⟩
  have hbl : bs.length = k := by rw [hbs, nl_len, ext_len hp]
  have hbe : ((nl s).drop pos).take k = bs := by rw [hbs, nl_extract, show pos + k - pos = k from by omega]
  rw [hbe]
  have hpi : (pos : Int) + (k : Int) ≤ s.size := by omega
  have hk0 : (pos : Int) ≤ s.size := by omega
  have hr2 : decide (r < 32) = false := by simp; omega
  have hr4 : (r == 92) = false := by simp; omega
  have hr5 : (r == (q : Int)) = false := by simp; omega
  have hsum := sum_in hp hz
  have hcut := cut_run hp
  have HO := Lib.hid ho
  have HL := Lib.hid hbl
  have HS := Lib.hid hbs
  have HE := Lib.hid (ext_len hp)
  have m1 := Lib.hid (show n + k ≤ 140737488355328 by omega)
  have hlow : ∀ v' w', w'.ownsRow base 5 1 v' (n + (s.extract pos (pos + k)).size) (bV l ++ Lib.strCells (s.extract pos (pos + k))) → w.grownBy w' (Value.slice A n c).ownBlock → ∃ A' n' c', v' = .slice A' n' c' ∧ Own w' base A' n' c' (l ++ bs) ∧ Below base w w' ∧ Lib.OthersKept 5 none w w' := fun v' w' h1 h2 => by
    rw [str_bV, ext_len hp, ← hbs] at h1
    obtain ⟨A3, c3, rfl, h3⟩ := own_more (m := k) (l' := bs) ho.1 hbl.symm h1
    exact ⟨A3, _, c3, rfl, h3, (Below.refl base w).grown h2 hb fun g hg => (ho.2.lt g hg).1, (Lib.OthersKept.refl 5 none w).grown h2 (own_kind ho.2)⟩
  have HW := Lib.hid hlow
  have HB := Lib.hid hb
  clear hbs ho hbl hbe hlow hp
  by_cases h127 : 127 ≤ r
  · have hr6 : decide (r ≤ 159) = false := by simp; omega
    have hr8 : decide (127 ≤ r) = true := by simp [h127]
    have h159 : 159 < r := by omega
    clear hr7
    by_cases hf : r = 65533
    · subst hf
      have hh2 := hh rfl
      clear hh
      go_enter Tryd.func74, Tryd.ntmps74
      go_wp2_with (first
        | (go_at_call 81; refine (Tryd.strings_HasPrefix _ _ _).mono ?_; rintro e w1 ⟨rfl, rfl⟩; rw [hh2])
        | (go_at_call 99; refine (Tryd.utf8_RuneLen _ _).mono ?_; rintro e w1 ⟨rfl, rfl⟩; rw [hrl])
        | (at_builtin; refine Lib.wpList_append_own_string _ rfl (.tmp 24) (.tmp 30) 72 9 rfl base 5 i0 Tryd.underlying72 Tryd.underlying9 fi fz0 fz1 fz2 (.slice A n c) n (bV l) (by first | rfl | simp [Act.eval, Act.put]) HO.out.2 (s.extract pos (pos + k)) (by first | rfl | simp [Act.eval, Act.put]) (by rw [HE.out]; have := m1.out; unfold maxLen; omega) (by rw [HE.out]; exact m1.out) HB.out ?_; intro v' w' h1 h2 _)
        | (fail))
      go_ret
      obtain ⟨A3, n3, c3, rfl, h3, h4⟩ := HW.out _ _ h1 h2
      exact ⟨A3, n3, c3, rfl, h3, h4⟩
    · have hne2 : (r != 65533) = true := by simp [hf]
      clear hh
      go_enter Tryd.func74, Tryd.ntmps74
      go_wp2_with (first
        | (go_at_call 81; refine (Tryd.strings_HasPrefix _ _ _).mono ?_; rintro e w1 ⟨rfl, rfl⟩; rw [hh2])
        | (go_at_call 99; refine (Tryd.utf8_RuneLen _ _).mono ?_; rintro e w1 ⟨rfl, rfl⟩; rw [hrl])
        | (at_builtin; refine Lib.wpList_append_own_string _ rfl (.tmp 24) (.tmp 30) 72 9 rfl base 5 i0 Tryd.underlying72 Tryd.underlying9 fi fz0 fz1 fz2 (.slice A n c) n (bV l) (by first | rfl | simp [Act.eval, Act.put]) HO.out.2 (s.extract pos (pos + k)) (by first | rfl | simp [Act.eval, Act.put]) (by rw [HE.out]; have := m1.out; unfold maxLen; omega) (by rw [HE.out]; exact m1.out) HB.out ?_; intro v' w' h1 h2 _)
        | (fail))
      go_ret
      obtain ⟨A3, n3, c3, rfl, h3, h4⟩ := HW.out _ _ h1 h2
      exact ⟨A3, n3, c3, rfl, h3, h4⟩
  · have hr8 : decide (127 ≤ r) = false := by simp; omega
    have h126 : r < 127 := by omega
    have hne2 : (r != 65533) = true := by simp; omega
    clear hr7 hh
    go_enter Tryd.func74, Tryd.ntmps74
    go_wp2_with (first
      | (go_at_call 81; refine (Tryd.strings_HasPrefix _ _ _).mono ?_; rintro e w1 ⟨rfl, rfl⟩; rw [hh2])
      | (go_at_call 99; refine (Tryd.utf8_RuneLen _ _).mono ?_; rintro e w1 ⟨rfl, rfl⟩; rw [hrl])
      | (at_builtin; refine Lib.wpList_append_own_string _ rfl (.tmp 24) (.tmp 30) 72 9 rfl base 5 i0 Tryd.underlying72 Tryd.underlying9 fi fz0 fz1 fz2 (.slice A n c) n (bV l) (by first | rfl | simp [Act.eval, Act.put]) HO.out.2 (s.extract pos (pos + k)) (by first | rfl | simp [Act.eval, Act.put]) (by rw [HE.out]; have := m1.out; unfold maxLen; omega) (by rw [HE.out]; exact m1.out) HB.out ?_; intro v' w' h1 h2 _)
      | (fail))
    go_ret
    obtain ⟨A3, n3, c3, rfl, h3, h4⟩ := HW.out _ _ h1 h2
    exact ⟨A3, n3, c3, rfl, h3, h4⟩
end Go.Proofs.YtfipljhlponcoaaDoor

set_option linter.unusedVariables false
namespace Go.Proofs.YtfipljhlponcoaaDoor
open Go.RowKit
set_option maxRecDepth 100000 in
set_option maxHeartbeats 16000000 in
theorem put_bs (s : ByteArray) (pos : Nat) (r : Nat) (hr : 32 ≤ r) (hr7 : r < 127) (q : Nat) (hq : q < 127) (hrq : r = 92 ∨ r = q) (A : Option Addr) (n c : Nat) (l : List Nat) (w : World) (base : Nat) (hb : base ≤ w.heap.size) (ho : Own w base A n c l) (hn : n ≤ 140737488355000) :
    Calls Tryd.prog 74 #[.slice A n c, .string s, .int .i64 pos, .int .i32 r, .int .u8 q] w fun e w' => ∃ A' n' c', e = .returned (.slice A' n' c') ∧ Own w' base A' n' c' (l ++ [92, r]) ∧ Below base w w' ∧ Lib.OthersKept 5 none w w' := by
  obtain ⟨i0, fi, fz0, fz1, fz2⟩ := info_parts Tryd.info5
  have hrl : Lib.runeLen (r : Int) = 1 := by unfold Lib.runeLen; rw [if_neg (by omega), if_pos (by omega)]
  have hr2 : decide ((r : Int) < 32) = false := by simp; omega
  have hr8 : decide (127 ≤ (r : Int)) = false := by simp; omega
  have hne2 : ((r : Int) != 65533) = true := by simp; omega
  have hm : (r : Int) % 256 = r := by omega
  have HO := Lib.hid ho
  have m1 := Lib.hid (show n + 2 ≤ maxLen by unfold maxLen; omega)
  have m2 := Lib.hid (show (n + 2) * 1 ≤ 140737488355328 by omega)
  have HB := Lib.hid hb
  have hlow : ∀ v' (x : World) w', w.heap.size < x.heap.size → Below w.heap.size w x → w'.ownsRow base 5 1 v' (n + 2) (bV l ++ bV [92, r]) → x.grownBy w' (Value.slice A n c).ownBlock → ∃ A' n' c', v' = .slice A' n' c' ∧ Own w' base A' n' c' (l ++ [92, r]) ∧ Below base w w' ∧ Lib.OthersKept 5 none w w' := fun v' x w' h0 hx h1 h2 => by
    obtain ⟨A3, c3, rfl, h3⟩ := own_more (m := 2) (l' := [92, r]) ho.1 rfl h1
    exact ⟨A3, _, c3, rfl, h3, (hx.mono hb).grown h2 (by omega) fun g hg => (ho.2.lt g hg).1, (kept_below hx).grown h2 (own_kind (own_keep2 ho.2 fun g _ hg => hx.block g hg))⟩
  have HW := Lib.hid hlow
  clear ho hlow
  have h126 : (r : Int) < 127 := by omega
  by_cases h92 : r = 92
  · have hr4 : ((r : Int) == 92) = true := by simp; omega
    clear hrq h92
    go_enter Tryd.func74, Tryd.ntmps74
    go_wp2_with (first
      | (go_at_call 99; refine (Tryd.utf8_RuneLen _ _).mono ?_; rintro e w1 ⟨rfl, rfl⟩; rw [hrl])
      | (at_builtin; refine wpList_append_seg _ rfl (.tmp 74) (.tmp 77) 72 rfl base 5 i0 _ 1 1 Tryd.underlying72 fi fz0 fz1 fz2 rfl (by decide) (.slice A n c) n (bV l) (by first | rfl | simp [Act.eval, Act.put]) (HO.out.2.alloc _) (w1.heap.size + 1) (some ⟨w1.heap.size, 0, none⟩) 2 2 (bV [92, r]) (by first | rfl | simp [Act.eval, Act.put]) rfl (by exact seg_new) (bV_one _) m1.out m2.out (Nat.le_trans HB.out (by simp)) ?_; intro v' w' h1 h2 _)
      | (fail))
    go_ret
    obtain ⟨A3, n3, c3, rfl, h3, h4⟩ := HW.out _ _ _ (by simp) ((Below.refl _ _).alloc (Nat.le_refl _) _) h1 h2
    exact ⟨A3, n3, c3, rfl, h3, h4⟩
  · have hr4 : ((r : Int) == 92) = false := by simp; omega
    have hr5 : ((r : Int) == (q : Int)) = true := by simp; omega
    clear hrq h92
    go_enter Tryd.func74, Tryd.ntmps74
    go_wp2_with (first
      | (go_at_call 99; refine (Tryd.utf8_RuneLen _ _).mono ?_; rintro e w1 ⟨rfl, rfl⟩; rw [hrl])
      | (at_builtin; refine wpList_append_seg _ rfl (.tmp 74) (.tmp 77) 72 rfl base 5 i0 _ 1 1 Tryd.underlying72 fi fz0 fz1 fz2 rfl (by decide) (.slice A n c) n (bV l) (by first | rfl | simp [Act.eval, Act.put]) (HO.out.2.alloc _) (w1.heap.size + 1) (some ⟨w1.heap.size, 0, none⟩) 2 2 (bV [92, r]) (by first | rfl | simp [Act.eval, Act.put]) rfl (by exact seg_new) (bV_one _) m1.out m2.out (Nat.le_trans HB.out (by simp)) ?_; intro v' w' h1 h2 _)
      | (fail))
    go_ret
    obtain ⟨A3, n3, c3, rfl, h3, h4⟩ := HW.out _ _ _ (by simp) ((Below.refl _ _).alloc (Nat.le_refl _) _) h1 h2
    exact ⟨A3, n3, c3, rfl, h3, h4⟩
end Go.Proofs.YtfipljhlponcoaaDoor

set_option linter.unusedVariables false
namespace Go.Proofs.YtfipljhlponcoaaDoor
open Go.RowKit
set_option maxRecDepth 100000 in
set_option maxHeartbeats 16000000 in
theorem put_esc2 (s : ByteArray) (pos k : Nat) (r : Int) (hp : pos + k ≤ s.size) (hk : k ≤ 4) (hh : r ≠ 65533 ∧ Lib.runeLen r = k) (hr : 127 ≤ r) (hr9 : r ≤ 159) (q : Nat) (A : Option Addr) (n c : Nat) (l : List Nat) (w : World) (base : Nat) (hb : base ≤ w.heap.size) (ho : Own w base A n c l) (hn : n ≤ 140737488355000) (hz : s.size ≤ 140737488355000) :
    Calls Tryd.prog 74 #[.slice A n c, .string s, .int .i64 pos, .int .i32 r, .int .u8 q] w fun e w' => ∃ A' n' c', e = .returned (.slice A' n' c') ∧ Own w' base A' n' c' (l ++ ((((nl s).drop pos).take k).flatMap escB).flatten) ∧ Below base w w' ∧ Lib.OthersKept 5 none w w' := by
  obtain ⟨i0, fi, fz0, fz1, fz2⟩ := info_parts Tryd.info5
  obtain ⟨bs, hbs⟩ : ∃ bs, bs = ((nl s).drop pos).take k := ⟨_, rfl⟩
  have hbl : bs.length = k := by rw [hbs, List.length_take, List.length_drop, nl_len]; omega
  have hb256 : ∀ x ∈ bs, x < 256 := fun x hx => by rw [hbs] at hx; exact drop_lt (nl_lt s) pos x (List.mem_of_mem_take hx)
  have hcv := fun w => Frz.new (P := Tryd.prog) w 9 72 (s.extract pos (pos + k)) Tryd.underlying9 Tryd.underlying72 Tryd.underlying5
  rw [ext_len hp, nl_extract, show pos + k - pos = k from by omega, ← hbs] at hcv
  rw [← hbs]
  have hpi : (pos : Int) + (k : Int) ≤ s.size := by omega
  have hk0 : (pos : Int) ≤ s.size := by omega
  obtain ⟨hne, hrl⟩ := hh
  have hne2 : (r != 65533) = true := by simp; omega
  have hr2 : decide (r < 32) = false := by simp; omega
  have hr8 : decide (127 ≤ r) = true := by simp [hr]
  have hr6 : decide (r ≤ 159) = true := by simp [hr9]
  have hsum := sum_in hp hz
  have hcut := cut_run hp
  have HCV := Lib.hid hcv
  have HO := Lib.hid ho
  have HB := Lib.hid hb256
  have HL := Lib.hid hbl
  clear hcv hbs hb256 hr
  go_enter Tryd.func74, Tryd.ntmps74
  obtain ⟨cp, W, hW1, hW2, hW3, hW4⟩ := HCV.out w
  have H2 := Lib.hid hW2
  have H4 := Lib.hid hW4
  clear hW2 hW4 hbl
  go_wp2_with (first
    | (go_at_call 99; refine (Tryd.utf8_RuneLen _ _).mono ?_; rintro e w1 ⟨rfl, rfl⟩; rw [hrl])
    | (fail))
  go_loopw [0, 51] (fun o v w' => ∃ (j : Nat) (A' : Option Addr) (n' c' : Nat), j ≤ k ∧ v = .int .i64 j ∧ o = .slice A' n' c' ∧ n' = n + 4 * j ∧ Own w' base A' n' c' (l ++ ((bs.take j).flatMap escB).flatten) ∧ Frz w' w1.heap.size bs ∧ Below base w1 w' ∧ Lib.OthersKept 5 none w1 w') (fun _ v _ => k - (intOf v).toNat)
  case atStart =>
    exact ⟨0, A, n, c, by omega, rfl, rfl, by omega, ⟨by simpa using HO.out.1, by simpa using own_keep2 HO.out.2 fun g _ hlt => H2.out.block g hlt⟩, H4.out, H2.out.mono hb, kept_below H2.out⟩
  case round =>
    obtain ⟨j, A', n', c', hj, rfl, rfl, hn', ho', hf', hb', hk'⟩ := hrel
    have HK2 := Lib.hid hk'
    clear hk'
    have HO2 := Lib.hid ho'
    have HF2 := Lib.hid hf'
    have HB2 := Lib.hid hb'
    have HN2 := Lib.hid hn'
    clear hb' hn'
    by_cases hjk : j < k
    · have hcl := hf'.cell (k := j) (by rw [HL.out]; exact hjk)
      have hji : (j : Int) < (k : Int) := by omega
      have hx : bs[j]'(by rw [HL.out]; exact hjk) < 256 := HB.out _ (List.getElem_mem _)
      obtain ⟨x, hxx⟩ : ∃ x, x = bs[j]'(by rw [HL.out]; exact hjk) := ⟨_, rfl⟩
      rw [← hxx] at hcl hx
      have HX := Lib.hid hxx
      clear hf' hxx
      have ix1 := hex_run (x / 16) (by omega) (↑x / 16) (by omega)
      have ix2 := hex_run (x % 16) (by omega) (↑x % 16) (by omega)
      have hba : bits BinOp.and IntKind.u8 (x : Int) 15 = (x : Int) % 16 := u8_and15 _ (by omega) (by omega)
      have m1 : n' + 4 ≤ maxLen := by have := HN2.out; unfold maxLen; omega
      have m2 : (n' + 4) * 1 ≤ 140737488355328 := by have := HN2.out; omega
      have m3 : base ≤ wr.heap.size := Nat.le_trans hb HB2.out.size
      have M1 := Lib.hid m1
      have M2 := Lib.hid m2
      have M3 := Lib.hid m3
      clear m1 m2 m3
      have a1 : (0 : Int) ≤ (x : Int) / 16 := by omega
      have a2 : (x : Int) / 16 < 16 := by omega
      have a3 : (0 : Int) ≤ (x : Int) % 16 := by omega
      have a4 : (x : Int) % 16 < 16 := by omega
      go_wp2
      go_region_held3 (fun _ => True) (trivial) (first
        | (refine step_append_seg rfl (.tmp 55) (.tmp 62) 72 rfl base 5 i0 _ 1 1 Tryd.underlying72 fi fz0 fz1 fz2 rfl (by decide) (.slice A' n' c') n' (bV (l ++ ((bs.take j).flatMap escB).flatten)) (by first | rfl | simp [Act.eval] | simp [Act.eval, Act.put]) (by first | exact HO2.out.2 | exact HO2.out.2.alloc _) (wr.heap.size + 1) (some ⟨wr.heap.size, 0, none⟩) 4 4 (bV (escB x).flatten) (by first | rfl | simp [Act.eval] | simp [Act.eval, Act.put]) (by simp [bV, escB]) (by exact seg_new) (bV_one _) M1.out M2.out (by first | exact M3.out | exact Nat.le_trans M3.out (by simp)) ?_; intro v3 w3 hown3 hg3 _)
        | fail)
      all_goals
        obtain ⟨A3, c3, rfl, hown4⟩ := own_more (m := 4) (l' := (escB x).flatten) HO2.out.1 (by simp [escB]) hown3
        have hf4 : Frz w3 w1.heap.size bs := by
          refine Frz.grown (base := base) (size := 1) (n := n') (e := 5) (xs := bV (l ++ ((bs.take j).flatMap escB).flatten)) ?_ ?_ hg3
          rotate_left
          · first | exact HO2.out.2.alloc _ | exact (HO2.out.2.alloc _).drew
          · exact HF2.out.alloc _
        have hb4 : Below base w1 w3 := by
          refine Below.grown ?_ hg3 (by simp; have := M3.out; omega) (fun g hg => (HO2.out.2.lt g hg).1)
          first | exact HB2.out.alloc M3.out _ | exact (HB2.out.alloc M3.out _).drew | exact HB2.out.drew.alloc M3.out _
        have hk4 : Lib.OthersKept 5 none w1 w3 := by
          refine Lib.OthersKept.grown ?_ hg3 (own_kind (n := n') (base := base) (xs := bV (l ++ ((bs.take j).flatMap escB).flatten)) ?_)
          rotate_left
          · first | exact HO2.out.2.alloc _ | exact (HO2.out.2.alloc _).drew
          · first | exact HK2.out.alloc _ | exact (HK2.out.alloc _).drew
        have hl4 : l ++ ((bs.take j).flatMap escB).flatten ++ (escB x).flatten = l ++ ((bs.take (j + 1)).flatMap escB).flatten := by
          rw [List.take_succ_eq_append_getElem (by rw [HL.out]; exact hjk), ← HX.out]
          simp
        rw [hl4] at hown4
        clear hl4 hown3 hg3
        go_wp2
        exact ⟨⟨j + 1, A3, n' + 4, c3, hjk, by go_num, rfl, by have := HN2.out; omega, hown4, hf4, hb4, hk4⟩, by simp [intOf]; omega⟩
    · obtain rfl : j = k := by omega
      go_wp2
      go_ret
      refine ⟨A', n', c', rfl, ?_, HB2.out, HK2.out⟩
      have := HO2.out
      rw [List.take_of_length_le (by rw [HL.out]; exact Nat.le_refl _)] at this
      exact this
end Go.Proofs.YtfipljhlponcoaaDoor

set_option linter.unusedVariables false
namespace Go.Proofs.YtfipljhlponcoaaDoor
open Go.RowKit
theorem put_any (s : ByteArray) (pos : Nat) (hp : pos < s.size) (q : Nat) (hq1 : 32 ≤ q) (hq : q < 127) (A : Option Addr) (n c : Nat) (l : List Nat) (w : World) (base : Nat) (hb : base ≤ w.heap.size) (ho : Own w base A n c l) (hn : n ≤ 140737488355000) (hz : s.size ≤ 140737488355000) :
    Calls Tryd.prog 74 #[.slice A n c, .string s, .int .i64 pos, .int .i32 (Utf8.decode s pos).1, .int .u8 q] w fun e w' => ∃ A' n' c', e = .returned (.slice A' n' c') ∧ Own w' base A' n' c' (l ++ (elemsOf q (cutN ((nl s).drop pos))).flatten) ∧ Below base w w' ∧ Lib.OthersKept 5 none w w' := by
  rcases cut_cases s pos hp with ⟨r, h1, h2, h3, h4, h5, h6, h7, h8⟩ | ⟨h1, h2, h3, h4, h5⟩ | ⟨h1, h2, h3, h4⟩
  · rw [h3, h4]
    have hle := (enc_len r).2
    by_cases he : (r : Int) < 32 ∨ (127 ≤ (r : Int) ∧ (r : Int) ≤ 159)
    · unfold elemsOf
      rw [if_pos he]
      rcases he with he | he
      · exact put_esc s pos _ r r h7 hle ⟨by omega, rfl, h5⟩ he q A n c l w base hb ho hn hz
      · exact put_esc2 s pos _ r h7 hle ⟨by omega, h5⟩ he.1 he.2 q A n c l w base hb ho hn hz
    · by_cases hbs : (r : Int) = 92 ∨ (r : Int) = q
      · unfold elemsOf
        rw [if_neg he, if_pos hbs]
        have hr7 : r < 127 := by omega
        have hen : encN r = [r] := by unfold encN; rw [if_pos (by omega)]
        rw [h8, hen]
        exact put_bs s pos r (by omega) hr7 q hq (by omega) A n c l w base hb ho hn
      · unfold elemsOf
        rw [if_neg he, if_neg hbs]
        have := put_pl s pos _ r h7 hle (fun h => by simp at h; omega) h5 (by omega) (by omega) q hq (by omega) (by omega) A n c l w base hb ho hn hz
        simpa using this
  · rw [h1, h3]
    have := put_pl s pos 3 65533 h5 (by omega) (fun _ => h2) rfl (by omega) (by omega) q hq (by omega) (by omega) A n c l w base hb ho hn hz
    unfold elemsOf
    rw [if_neg (by simp), if_neg (by simp; omega)]
    simpa using this
  · rw [h1, h3]
    unfold elemsOf
    rw [if_pos (by simp)]
    exact put_brk s pos hp h2 q A n c l w base hb ho hn hz
end Go.Proofs.YtfipljhlponcoaaDoor
