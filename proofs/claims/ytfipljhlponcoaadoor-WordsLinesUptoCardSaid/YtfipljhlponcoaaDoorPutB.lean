/- put: the bytes of a break. -/
import Derived.Test.YtfipljhlponcoaaDoorPut
set_option linter.unusedVariables false
namespace Go.Proofs.YtfipljhlponcoaaDoor
open Go.RowKit
set_option maxRecDepth 100000 in
set_option maxHeartbeats 16000000 in
theorem put_brk (s : ByteArray) (pos : Nat) (hp : pos + 1 ≤ s.size) (hh : Lib.hasPrefix (s.extract pos s.size).data.toList [239, 191, 189] = false) (q : Nat) (A : Option Addr) (n c : Nat) (l : List Nat) (w : World) (base : Nat) (hb : base ≤ w.heap.size) (ho : Own w base A n c l) (hn : n ≤ 140737488355000) (hz : s.size ≤ 140737488355000) :
    Calls Tryd.prog 74 #[.slice A n c, .string s, .int .i64 pos, .int .i32 65533, .int .u8 q] w fun e w' => ∃ A' n' c', e = .returned (.slice A' n' c') ∧ Own w' base A' n' c' (l ++ ((((nl s).drop pos).take 1).flatMap escB).flatten) ∧ Below base w w' ∧ Lib.OthersKept 5 none w w' := by
  obtain ⟨i0, fi, fz0, fz1, fz2⟩ := info_parts Tryd.info5
  obtain ⟨bs, hbs⟩ : ∃ bs, bs = ((nl s).drop pos).take 1 := ⟨_, rfl⟩
  have hbl : bs.length = 1 := by rw [hbs, List.length_take, List.length_drop, nl_len]; omega
  have hb256 : ∀ x ∈ bs, x < 256 := fun x hx => by rw [hbs] at hx; exact drop_lt (nl_lt s) pos x (List.mem_of_mem_take hx)
  have hcv := fun w => Frz.new (P := Tryd.prog) w 9 72 (s.extract pos (pos + 1)) Tryd.underlying9 Tryd.underlying72 Tryd.underlying5
  rw [ext_len hp, nl_extract, show pos + 1 - pos = 1 from by omega, ← hbs] at hcv
  rw [← hbs]
  have hpi : (pos : Int) + (1 : Int) ≤ s.size := by omega
  have hk0 : (pos : Int) ≤ s.size := by omega
  have hsum : wrap64 ((pos : Int) + 1) = (pos : Int) + 1 := sum_in (k := 1) hp hz
  have hcut : ∀ w, (Instr.slice 9 (Value.string s) (some (Value.int IntKind.i64 ↑pos)) (some (Value.int IntKind.i64 (↑pos + 1))) none).run Tryd.prog w = .ok (.string (s.extract pos (pos + 1))) w := fun w => cut_run (k := 1) hp w
  have HCV := Lib.hid hcv
  have HO := Lib.hid ho
  have HB := Lib.hid hb256
  have HL := Lib.hid hbl
  clear hcv hbs hb256
  go_enter Tryd.func74, Tryd.ntmps74
  obtain ⟨cp, W, hW1, hW2, hW3, hW4⟩ := HCV.out w
  have H2 := Lib.hid hW2
  have H4 := Lib.hid hW4
  clear hW2 hW4 hbl
  go_wp2_with (first
    | (go_at_call 81; refine (Tryd.strings_HasPrefix _ _ _).mono ?_; rintro e w1 ⟨rfl, rfl⟩; rw [hh])
    | (fail))
  go_loopw [0, 51] (fun o v w' => ∃ (j : Nat) (A' : Option Addr) (n' c' : Nat), j ≤ 1 ∧ v = .int .i64 j ∧ o = .slice A' n' c' ∧ n' = n + 4 * j ∧ Own w' base A' n' c' (l ++ ((bs.take j).flatMap escB).flatten) ∧ Frz w' w1.heap.size bs ∧ Below base w1 w' ∧ Lib.OthersKept 5 none w1 w') (fun _ v _ => 1 - (intOf v).toNat)
  case atStart =>
    exact ⟨0, A, n, c, by omega, rfl, rfl, by omega, ⟨by simpa using HO.out.1, by simpa using own_keep2 HO.out.2 fun g _ hlt => H2.out.block g hlt⟩, H4.out, H2.out.mono hb, kept_below H2.out⟩
  case round =>
    obtain ⟨j, A', n', c', hj, rfl, rfl, hn', ho', hf', hb', hk'⟩ := hrel
    have HK2 := Lib.hid hk'
    clear hk'
    have HO2 := Lib.hid ho'
    have HF2 := Lib.hid hf'
    have HB2 := Lib.hid hb'
    have HN2 := Lib.hid hn'
    clear hb' hn'
    by_cases hjk : j < 1
    · have hcl := hf'.cell (k := j) (by rw [HL.out]; exact hjk)
      have hji : (j : Int) < (1 : Int) := by omega
      have hx : bs[j]'(by rw [HL.out]; exact hjk) < 256 := HB.out _ (List.getElem_mem _)
      obtain ⟨x, hxx⟩ : ∃ x, x = bs[j]'(by rw [HL.out]; exact hjk) := ⟨_, rfl⟩
      rw [← hxx] at hcl hx
      have HX := Lib.hid hxx
      clear hf' hxx
      have ix1 := hex_run (x / 16) (by omega) (↑x / 16) (by omega)
      have ix2 := hex_run (x % 16) (by omega) (↑x % 16) (by omega)
      have hba : bits BinOp.and IntKind.u8 (x : Int) 15 = (x : Int) % 16 := u8_and15 _ (by omega) (by omega)
      have m1 : n' + 4 ≤ maxLen := by have := HN2.out; unfold maxLen; omega
      have m2 : (n' + 4) * 1 ≤ 140737488355328 := by have := HN2.out; omega
      have m3 : base ≤ wr.heap.size := Nat.le_trans hb HB2.out.size
      have M1 := Lib.hid m1
      have M2 := Lib.hid m2
      have M3 := Lib.hid m3
      clear m1 m2 m3
      have a1 : (0 : Int) ≤ (x : Int) / 16 := by omega
      have a2 : (x : Int) / 16 < 16 := by omega
      have a3 : (0 : Int) ≤ (x : Int) % 16 := by omega
      have a4 : (x : Int) % 16 < 16 := by omega
      go_wp2
      go_region_held3 (fun _ => True) (trivial) (first
        | (refine step_append_seg rfl (.tmp 55) (.tmp 62) 72 rfl base 5 i0 _ 1 1 Tryd.underlying72 fi fz0 fz1 fz2 rfl (by decide) (.slice A' n' c') n' (bV (l ++ ((bs.take j).flatMap escB).flatten)) (by first | rfl | simp [Act.eval] | simp [Act.eval, Act.put]) (by first | exact HO2.out.2 | exact HO2.out.2.alloc _) (wr.heap.size + 1) (some ⟨wr.heap.size, 0, none⟩) 4 4 (bV (escB x).flatten) (by first | rfl | simp [Act.eval] | simp [Act.eval, Act.put]) (by simp [bV, escB]) (by exact seg_new) (bV_one _) M1.out M2.out (by first | exact M3.out | exact Nat.le_trans M3.out (by simp)) ?_; intro v3 w3 hown3 hg3 _)
        | fail)
      all_goals
        obtain ⟨A3, c3, rfl, hown4⟩ := own_more (m := 4) (l' := (escB x).flatten) HO2.out.1 (by simp [escB]) hown3
        have hf4 : Frz w3 w1.heap.size bs := by
          refine Frz.grown (base := base) (size := 1) (n := n') (e := 5) (xs := bV (l ++ ((bs.take j).flatMap escB).flatten)) ?_ ?_ hg3
          rotate_left
          · first | exact HO2.out.2.alloc _ | exact (HO2.out.2.alloc _).drew
          · exact HF2.out.alloc _
        have hb4 : Below base w1 w3 := by
          refine Below.grown ?_ hg3 (by simp; have := M3.out; omega) (fun g hg => (HO2.out.2.lt g hg).1)
          first | exact HB2.out.alloc M3.out _ | exact (HB2.out.alloc M3.out _).drew | exact HB2.out.drew.alloc M3.out _
        have hk4 : Lib.OthersKept 5 none w1 w3 := by
          refine Lib.OthersKept.grown ?_ hg3 (own_kind (n := n') (base := base) (xs := bV (l ++ ((bs.take j).flatMap escB).flatten)) ?_)
          rotate_left
          · first | exact HO2.out.2.alloc _ | exact (HO2.out.2.alloc _).drew
          · first | exact HK2.out.alloc _ | exact (HK2.out.alloc _).drew
        have hl4 : l ++ ((bs.take j).flatMap escB).flatten ++ (escB x).flatten = l ++ ((bs.take (j + 1)).flatMap escB).flatten := by
          rw [List.take_succ_eq_append_getElem (by rw [HL.out]; exact hjk), ← HX.out]
          simp
        rw [hl4] at hown4
        clear hl4 hown3 hg3
        go_wp2
        exact ⟨⟨j + 1, A3, n' + 4, c3, hjk, by go_num, rfl, by have := HN2.out; omega, hown4, hf4, hb4, hk4⟩, by simp [intOf]; omega⟩
    · obtain rfl : j = 1 := by omega
      go_wp2
      go_ret
      refine ⟨A', n', c', rfl, ?_, HB2.out, HK2.out⟩
      have := HO2.out
      rw [List.take_of_length_le (by rw [HL.out]; exact Nat.le_refl _)] at this
      exact this
end Go.Proofs.YtfipljhlponcoaaDoor
