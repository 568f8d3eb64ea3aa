/- ref01.shown: the contract. -/
import Derived.Test.YtfipljhlponcoaaDoorPcs
set_option linter.unusedVariables false
namespace Go.Proofs.YtfipljhlponcoaaDoor
open Go.RowKit
def sV (ts : List ByteArray) : List Value := ts.map Value.string
theorem sV_len (ts : List ByteArray) : (sV ts).length = ts.length := by simp [sV]
theorem sV_one (ts : List ByteArray) : ∀ u ∈ sV ts, u.oneCell' = true := fun u hu => by
  obtain ⟨b, _, rfl⟩ := List.mem_map.1 hu
  rfl
theorem info9 : (Tryd.prog.info? 9).map (fun i => (i.zero, i.size, i.bytes)) = some (some (.string ⟨#[]⟩), 1, 16) := by kernel_rfl
theorem hex_nl (k : Nat) (h : k < 16) : nl ((⟨#[48, 49, 50, 51, 52, 53, 54, 55, 56, 57, 97, 98, 99, 100, 101, 102]⟩ : ByteArray).extract k (k + 1)) = [hexd k] := by
  have : ∀ k : Fin 16, nl ((⟨#[48, 49, 50, 51, 52, 53, 54, 55, 56, 57, 97, 98, 99, 100, 101, 102]⟩ : ByteArray).extract k.1 (k.1 + 1)) = [hexd k.1] := by decide +kernel
  exact this ⟨k, h⟩
theorem hex_cut (k : Nat) (h : k < 16) : ∃ D : ByteArray, nl D = [hexd k] ∧ ∀ W : World, (Instr.slice 9 (.string ⟨#[48, 49, 50, 51, 52, 53, 54, 55, 56, 57, 97, 98, 99, 100, 101, 102]⟩) (some (.int .u8 (k : Int))) (some (.int .u8 ((k : Int) + 1))) none).run Tryd.prog W = .ok (.string D) W := by
  refine ⟨_, hex_nl k h, fun W => ?_⟩
  rw [run_slice_string W 9 _ .u8 .u8 k (k + 1) Tryd.underlying9 (by omega) (by omega) (by show ((k : Int) + 1) ≤ ((16 : Nat) : Int); omega)]
  rfl
theorem esc_snoc {p : ByteArray} {j : Nat} (h : j < p.size) : ((nl p).take (j + 1)).flatMap escB = ((nl p).take j).flatMap escB ++ [[92], [120], [hexd ((p[j]'h).toNat / 16)], [hexd ((p[j]'h).toNat % 16)]] := by
  have hl : j < (nl p).length := by rw [nl_len]; exact h
  have hg : (nl p)[j] = (p[j]'h).toNat := by simp [nl]; rfl
  rw [List.take_succ_eq_append_getElem hl, hg]
  simp [escB]
set_option maxRecDepth 100000 in
set_option maxHeartbeats 16000000 in
theorem rshown_esc (p : ByteArray) (r : Int) (qb : Bool) (hp : p.size ≤ 4) (w : World) (he : r < 32 ∨ (127 ≤ r ∧ r ≤ 159)) :
    Calls Tryd.prog 76 #[.agg #[.string p, .int .i32 r], .bool qb] w fun e w' => ∃ A c ts, e = .returned (.slice A ts.length c) ∧ Seg w' w'.heap.size A (sV ts) ∧ ts.map nl = (nl p).flatMap escB ∧ Below w.heap.size w w' := by
  obtain ⟨i0, fi, fz0, fz1, fz2⟩ := info_parts info9
  obtain ⟨W0, hW0⟩ : ∃ W0, W0 = w.alloc (.cells #[.string p, .int .i32 r] 105) := ⟨_, rfl⟩
  have hz0 : W0.heap.size = w.heap.size + 1 := by rw [hW0]; simp
  have b0 : W0.cell? ⟨w.heap.size, 0, none⟩ = some (.string p) := by rw [hW0, cell_of_row _ _ _ _ _ (0, 0) (heap_alloc_new w _)]; rfl
  have hb0 : Below w.heap.size w W0 := by rw [hW0]; exact (Below.refl _ _).alloc (Nat.le_refl _) _
  have HW := Lib.hid hW0
  have HZ := Lib.hid hz0
  have HB0 := Lib.hid b0
  have HBL := Lib.hid hb0
  clear hW0 hz0 b0 hb0
  rcases he with h1 | ⟨h1, h2⟩
  · have d1 : decide (r < 32) = true := by simp; omega
    go_enter Tryd.func76, Tryd.ntmps76
    go_wp2_with (fail)
    rw [← HW.out]
    go_loopw [5, 6] (fun v iv wx => ∃ (j : Nat) (A : Option Addr) (c : Nat) (ts : List ByteArray), iv = .int .i64 j ∧ j ≤ p.size ∧ v = .slice A ts.length c ∧ ts.length = 4 * j ∧ wx.ownsRow (w.heap.size + 1) 9 1 (.slice A ts.length c) ts.length (sV ts) ∧ ts.map nl = ((nl p).take j).flatMap escB ∧ Below (w.heap.size + 1) W0 wx) (fun _ iv _ => p.size - (intOf iv).toNat)
    case atStart => exact ⟨0, none, 0, [], rfl, by omega, rfl, rfl, World.ownsRow_nil _ _ _ _, rfl, Below.refl _ _⟩
    case round =>
      obtain ⟨j, A, c, ts, rfl, hj, rfl, hts, hown, hnl, hb⟩ := hrel
      have b1 : wr.cell? ⟨w.heap.size, 0, none⟩ = some (.string p) := (hb.cell (p := ⟨w.heap.size, 0, none⟩) (by simp)).trans HB0.out
      have m3 : w.heap.size + 1 ≤ wr.heap.size := by rw [← HZ.out]; exact hb.size
      have HB := Lib.hid hb
      have HO := Lib.hid hown
      have HN := Lib.hid hnl
      have HT := Lib.hid hts
      have M1 := Lib.hid (show ts.length + 4 ≤ maxLen by unfold maxLen; omega)
      have M2 := Lib.hid (show (ts.length + 4) * 16 ≤ 140737488355328 by omega)
      clear hb hown hnl hts
      by_cases hlt : j < p.size
      · have hli : (j : Int) < (p.size : Int) := by omega
        obtain ⟨x, hx⟩ : ∃ x : Nat, x = (p[j]'hlt).toNat := ⟨_, rfl⟩
        have hx2 : x < 256 := by rw [hx]; exact UInt8.toNat_lt _
        have hix : ∀ W : World, (Instr.index 9 (Value.string p) (Value.int IntKind.i64 (j : Int))).run Tryd.prog W = .ok (.int .u8 (x : Int)) W := fun W => by
          rw [run_index_string W 9 p .i64 j Tryd.underlying9, dif_pos ⟨by omega, by omega⟩, hx]; rfl
        obtain ⟨D1, hD1, hd1⟩ := hex_cut (x / 16) (by omega)
        obtain ⟨D2, hD2, hd2⟩ := hex_cut (x % 16) (by omega)
        have HX := Lib.hid hx
        have HD := Lib.hid (show nl D1 = [hexd (x / 16)] ∧ nl D2 = [hexd (x % 16)] from ⟨hD1, hD2⟩)
        rw [show ((x / 16 : Nat) : Int) = (x : Int) / 16 by omega] at hd1
        rw [show ((x % 16 : Nat) : Int) = (x : Int) % 16 by omega] at hd2
        have a1 : (0 : Int) ≤ (x : Int) / 16 := by omega
        have a2 : (x : Int) / 16 < 16 := by omega
        have a3 : (0 : Int) ≤ (x : Int) % 16 := by omega
        have a4 : (x : Int) % 16 < 16 := by omega
        have k1 : IntKind.u8.wrap ((x : Int) / 16) = (x : Int) / 16 := IntWalk.u8_in _ (by omega)
        have k2 : IntKind.u8.wrap ((x : Int) / 16 + 1) = (x : Int) / 16 + 1 := IntWalk.u8_in _ (by omega)
        have k3 : IntKind.u8.wrap ((x : Int) % 16) = (x : Int) % 16 := IntWalk.u8_in _ (by omega)
        have k5 : (x : Int).tmod 16 = (x : Int) % 16 := IntWalk.rem_in _ _ (by omega)
        have k4 : IntKind.u8.wrap ((x : Int) % 16 + 1) = (x : Int) % 16 + 1 := IntWalk.u8_in _ (by omega)
        clear hx hD1 hD2
        go_wp2
        refine wp_region_held_drew (S := fun W => W.cell? ⟨w.heap.size, 0, none⟩ = some (.string p)) (by kernel_rfl) b1 (fun hHeld => ?_)
        (refine held_take (i := 0) rfl rfl (by kernel_rfl) (by kernel_rfl) (by kernel_rfl) (fun _ _ _ h => h) (by rfl) (by intro w hSw; (try dsimp only at hSw); go_simp; first | done | with_reducible rfl) (by assumption) ?_; try simp only [Act.put, List.setIfInBounds_toArray, List.set_cons_zero, List.set_cons_succ])
        (refine held_take (i := 1) rfl rfl (by kernel_rfl) (by kernel_rfl) (by kernel_rfl) (fun _ _ _ h => h) (by rfl) (by intro w hSw; (try dsimp only at hSw); go_simp; first | done | with_reducible rfl) (by assumption) ?_; try simp only [Act.put, List.setIfInBounds_toArray, List.set_cons_zero, List.set_cons_succ])
        (refine held_take (i := 2) rfl rfl (by kernel_rfl) (by kernel_rfl) (by kernel_rfl) (fun _ _ _ h => h) (by rfl) (by intro w hSw; (try dsimp only at hSw); go_simp; first | done | with_reducible rfl) (by assumption) ?_; try simp only [Act.put, List.setIfInBounds_toArray, List.set_cons_zero, List.set_cons_succ])
        (refine held_take (i := 3) rfl rfl (by kernel_rfl) (by kernel_rfl) (by kernel_rfl) (fun _ _ _ h => h) (by rfl) (by intro w hSw; (try dsimp only at hSw); go_simp; first | done | with_reducible rfl) (by assumption) ?_; try simp only [Act.put, List.setIfInBounds_toArray, List.set_cons_zero, List.set_cons_succ])
        (refine held_take (i := 4) rfl rfl (by kernel_rfl) (by kernel_rfl) (by kernel_rfl) (fun _ _ _ h => h) (by rfl) (by intro w hSw; (try dsimp only at hSw); go_simp; first | done | with_reducible rfl) (by assumption) ?_; try simp only [Act.put, List.setIfInBounds_toArray, List.set_cons_zero, List.set_cons_succ])
        (refine held_take (i := 5) rfl rfl (by kernel_rfl) (by kernel_rfl) (by kernel_rfl) (fun _ _ _ h => h) (by rfl) (by intro w hSw; (try dsimp only at hSw); go_simp; first | done | with_reducible rfl) (by assumption) ?_; try simp only [Act.put, List.setIfInBounds_toArray, List.set_cons_zero, List.set_cons_succ])
        (refine held_take (i := 6) rfl rfl (by kernel_rfl) (by kernel_rfl) (by kernel_rfl) (fun _ _ _ h => h) (by rfl) (by intro w hSw; (try dsimp only at hSw); go_simp; first | done | with_reducible rfl) (by assumption) ?_; try simp only [Act.put, List.setIfInBounds_toArray, List.set_cons_zero, List.set_cons_succ])
        (refine held_take (i := 7) rfl rfl (by kernel_rfl) (by kernel_rfl) (by kernel_rfl) (fun _ _ _ h => h) (by rfl) (by intro w hSw; (try dsimp only at hSw); go_simp; first | done | with_reducible rfl) (by assumption) ?_; try simp only [Act.put, List.setIfInBounds_toArray, List.set_cons_zero, List.set_cons_succ])
        (refine held_take (i := 8) rfl rfl (by kernel_rfl) (by kernel_rfl) (by kernel_rfl) (fun _ _ _ h => h) (by rfl) (by intro w hSw; (try dsimp only at hSw); go_simp; first | done | with_reducible rfl) (by assumption) ?_; try simp only [Act.put, List.setIfInBounds_toArray, List.set_cons_zero, List.set_cons_succ])
        (refine held_take (i := 9) rfl rfl (by kernel_rfl) (by kernel_rfl) (by kernel_rfl) (fun _ _ _ h => h) (by rfl) (by intro w hSw; (try dsimp only at hSw); go_simp; first | done | with_reducible rfl) (by assumption) ?_; try simp only [Act.put, List.setIfInBounds_toArray, List.set_cons_zero, List.set_cons_succ])
        (refine held_take (i := 10) rfl rfl (by kernel_rfl) (by kernel_rfl) (by kernel_rfl) (fun _ _ _ h => h) (by rfl) (by intro w hSw; (try dsimp only at hSw); go_simp; first | done | with_reducible rfl) (by assumption) ?_; try simp only [Act.put, List.setIfInBounds_toArray, List.set_cons_zero, List.set_cons_succ])
        (refine held_take (i := 11) rfl rfl (by kernel_rfl) (by kernel_rfl) (by kernel_rfl) (fun _ _ _ h => h) (by rfl) (by intro w hSw; (try dsimp only at hSw); go_simp; first | done | with_reducible rfl) (by assumption) ?_; try simp only [Act.put, List.setIfInBounds_toArray, List.set_cons_zero, List.set_cons_succ])
        (refine held_take (i := 12) rfl rfl (by kernel_rfl) (by kernel_rfl) (by kernel_rfl) (fun _ _ _ h => h) (by rfl) (by intro w hSw; (try dsimp only at hSw); go_simp; first | done | with_reducible rfl) (by assumption) ?_; try simp only [Act.put, List.setIfInBounds_toArray, List.set_cons_zero, List.set_cons_succ])
        (refine held_take (i := 13) rfl rfl (by kernel_rfl) (by kernel_rfl) (by kernel_rfl) (fun _ _ _ h => h) (by rfl) (by intro w hSw; (try dsimp only at hSw); go_simp; first | done | with_reducible rfl) (by assumption) ?_; try simp only [Act.put, List.setIfInBounds_toArray, List.set_cons_zero, List.set_cons_succ])
        (refine held_take (i := 14) rfl rfl (by kernel_rfl) (by kernel_rfl) (by kernel_rfl) (fun _ _ _ h => h) (by rfl) (by intro w hSw; (try dsimp only at hSw); go_simp; first | done | with_reducible rfl) (by assumption) ?_; try simp only [Act.put, List.setIfInBounds_toArray, List.set_cons_zero, List.set_cons_succ])
        (refine held_take (i := 15) rfl rfl (by kernel_rfl) (by kernel_rfl) (by kernel_rfl) (fun _ _ _ h => h) (by rfl) (by intro w hSw; (try dsimp only at hSw); go_simp; first | done | with_reducible rfl) (by assumption) ?_; try simp only [Act.put, List.setIfInBounds_toArray, List.set_cons_zero, List.set_cons_succ])
        (refine held_take (i := 16) rfl rfl (by kernel_rfl) (by kernel_rfl) (by kernel_rfl) (fun _ _ _ h => h) (by rfl) (by intro w hSw; (try dsimp only at hSw); go_simp; first | done | with_reducible rfl) (by assumption) ?_; try simp only [Act.put, List.setIfInBounds_toArray, List.set_cons_zero, List.set_cons_succ])
        (refine held_take (i := 17) rfl rfl (by kernel_rfl) (by kernel_rfl) (by kernel_rfl) (fun _ _ _ h => h) (by rfl) (by intro w hSw; (try dsimp only at hSw); go_simp; first | done | with_reducible rfl) (by assumption) ?_; try simp only [Act.put, List.setIfInBounds_toArray, List.set_cons_zero, List.set_cons_succ])
        (refine held_take (i := 18) rfl rfl (by kernel_rfl) (by kernel_rfl) (by kernel_rfl) (fun _ _ _ h => h) (by rfl) (by intro w hSw; (try dsimp only at hSw); go_simp; first | done | with_reducible rfl) (by assumption) ?_; try simp only [Act.put, List.setIfInBounds_toArray, List.set_cons_zero, List.set_cons_succ])
        (refine held_take (i := 19) rfl rfl (by kernel_rfl) (by kernel_rfl) (by kernel_rfl) (fun _ _ _ h => h) (by rfl) (by intro w hSw; (try dsimp only at hSw); go_simp; first | done | with_reducible rfl) (by assumption) ?_; try simp only [Act.put, List.setIfInBounds_toArray, List.set_cons_zero, List.set_cons_succ])
        (refine held_take (i := 20) rfl rfl (by kernel_rfl) (by kernel_rfl) (by kernel_rfl) (fun _ _ _ h => h) (by rfl) (by intro w hSw; (try dsimp only at hSw); go_simp; first | done | with_reducible rfl) (by assumption) ?_; try simp only [Act.put, List.setIfInBounds_toArray, List.set_cons_zero, List.set_cons_succ])
        (refine held_take (i := 21) rfl rfl (by kernel_rfl) (by kernel_rfl) (by kernel_rfl) (fun _ _ _ h => h) (by rfl) (by intro w hSw; (try dsimp only at hSw); go_simp; first | done | with_reducible rfl) (by assumption) ?_; try simp only [Act.put, List.setIfInBounds_toArray, List.set_cons_zero, List.set_cons_succ])
        (refine held_take (i := 22) rfl rfl (by kernel_rfl) (by kernel_rfl) (by kernel_rfl) (fun _ _ _ h => h) (by rfl) (by intro w hSw; (try dsimp only at hSw); go_simp; first | done | with_reducible rfl) (by assumption) ?_; try simp only [Act.put, List.setIfInBounds_toArray, List.set_cons_zero, List.set_cons_succ])
        (refine held_take (i := 23) rfl rfl (by kernel_rfl) (by kernel_rfl) (by kernel_rfl) (fun _ _ _ h => h) (by rfl) (by intro w hSw; (try dsimp only at hSw); go_simp; first | done | with_reducible rfl) (by assumption) ?_; try simp only [Act.put, List.setIfInBounds_toArray, List.set_cons_zero, List.set_cons_succ])
        (refine held_take (i := 24) rfl rfl (by kernel_rfl) (by kernel_rfl) (by kernel_rfl) (fun _ _ _ h => h) (by rfl) (by intro w hSw; (try dsimp only at hSw); go_simp; first | done | with_reducible rfl) (by assumption) ?_; try simp only [Act.put, List.setIfInBounds_toArray, List.set_cons_zero, List.set_cons_succ])
        refine wpAnyH_ready (rs := [25]) (by kernel_rfl) (by simp) ?_
        refine AllReadyH.cons rfl (fun K hK => ?_) AllReadyH.nil
        go_simp
        refine hK.out _ _ ((World.cell?_alloc_lt _ _ _ (by exact m3)).trans b1) (fun hHeld => ?_)
        clear hK K
        try simp only [Act.put, List.setIfInBounds_toArray, List.set_cons_zero, List.set_cons_succ]
        refine wpAnyH_ready (rs := [26]) (by kernel_rfl) (by simp) ?_
        refine AllReadyH.cons rfl (fun K hK => ?_) AllReadyH.nil
        refine step_append_seg rfl (.tmp 27) (.tmp 52) 33 rfl (w.heap.size + 1) 9 i0 _ 1 16 Tryd.underlying33 fi fz0 fz1 fz2 rfl (by decide) (.slice A ts.length c) ts.length (sV ts) rfl (HO.out.alloc _) (wr.heap.size + 1) (some ⟨wr.heap.size, 0, none⟩) 4 4 (sV [⟨#[92]⟩, ⟨#[120]⟩, D1, D2]) rfl rfl (seg_new (e := 9) (cs := #[.string ⟨#[92]⟩, .string ⟨#[120]⟩, .string D1, .string D2])) (sV_one _) M1.out M2.out (by show _ ≤ (wr.alloc _).heap.size; rw [World.size_alloc]; omega) ?_
        intro v3 w3 hown3 hg3 _
        have b3 : w3.cell? ⟨w.heap.size, 0, none⟩ = some (.string p) := (World.cell?_of_block (hg3.block w.heap.size (by show _ < (wr.alloc _).heap.size; rw [World.size_alloc]; omega) (fun e => by have := (HO.out.lt _ e.symm).1; omega))).trans ((World.cell?_alloc_lt _ _ _ (by exact m3)).trans b1)
        refine hK.out _ _ b3 (fun hHeld => ?_)
        clear hK K
        try simp only [Act.put, List.setIfInBounds_toArray]
        (refine held_take (i := 27) rfl rfl (by kernel_rfl) (by kernel_rfl) (by kernel_rfl) (fun _ _ _ h => h) (by rfl) (by intro w hSw; (try dsimp only at hSw); go_simp; first | done | with_reducible rfl) (by assumption) ?_; try simp only [Act.put])
        refine wpAnyH_done (by kernel_rfl) ?_ _
        obtain ⟨A3, c3, rfl⟩ := own_shape hown3
        have hb4 : Below (w.heap.size + 1) W0 w3 := by
          refine Below.grown ?_ hg3 (by simp; omega) (fun g hg => (HO.out.lt g hg).1)
          first | exact HB.out.alloc m3 _ | exact (HB.out.alloc m3 _).drew | exact HB.out.drew.alloc m3 _
        have hl4 : (ts ++ [⟨#[92]⟩, ⟨#[120]⟩, D1, D2]).map nl = ((nl p).take (j + 1)).flatMap escB := by
          rw [esc_snoc hlt, ← HX.out, ← HN.out, ← HD.out.1, ← HD.out.2, List.map_append]
          rfl
        have hn4 : ts.length + 4 = (ts ++ [⟨#[92]⟩, ⟨#[120]⟩, D1, D2]).length := by simp
        have hown4 : w3.ownsRow (w.heap.size + 1) 9 1 (.slice A3 (ts ++ [⟨#[92]⟩, ⟨#[120]⟩, D1, D2]).length c3) (ts ++ [⟨#[92]⟩, ⟨#[120]⟩, D1, D2]).length (sV (ts ++ [⟨#[92]⟩, ⟨#[120]⟩, D1, D2])) := by
          rw [← hn4]
          have e : sV (ts ++ [⟨#[92]⟩, ⟨#[120]⟩, D1, D2]) = sV ts ++ sV [⟨#[92]⟩, ⟨#[120]⟩, D1, D2] := by simp [sV]
          rw [e]
          exact hown3
        have HO4 := Lib.hid hown4
        have HL4 := Lib.hid hl4
        have HB4 := Lib.hid hb4
        have HN4 := Lib.hid hn4
        clear hown3 hg3 hown4 hl4 hb4 hn4
        go_wp2
        exact ⟨⟨j + 1, A3, c3, ts ++ [⟨#[92]⟩, ⟨#[120]⟩, D1, D2], by go_num, hlt, by rw [← HN4.out], by rw [← HN4.out, HT.out]; omega, HO4.out, HL4.out, HB4.out⟩, by simp [intOf]; omega⟩
      · obtain rfl : j = p.size := by omega
        have hli : ¬ (p.size : Int) < (p.size : Int) := by omega
        go_wp2
        go_ret
        refine ⟨A, c, ts, rfl, own_seg HO.out, ?_, HBL.out.trans (HB.out.mono (by omega))⟩
        rw [HN.out, List.take_of_length_le (by rw [nl_len]; exact Nat.le_refl _)]
  · have d1 : decide (r < 32) = false := by simp; omega
    have d2 : decide (127 ≤ r) = true := by simp; omega
    have d3 : decide (r ≤ 159) = true := by simp; omega
    go_enter Tryd.func76, Tryd.ntmps76
    go_wp2_with (fail)
    rw [← HW.out]
    go_loopw [5, 6] (fun v iv wx => ∃ (j : Nat) (A : Option Addr) (c : Nat) (ts : List ByteArray), iv = .int .i64 j ∧ j ≤ p.size ∧ v = .slice A ts.length c ∧ ts.length = 4 * j ∧ wx.ownsRow (w.heap.size + 1) 9 1 (.slice A ts.length c) ts.length (sV ts) ∧ ts.map nl = ((nl p).take j).flatMap escB ∧ Below (w.heap.size + 1) W0 wx) (fun _ iv _ => p.size - (intOf iv).toNat)
    case atStart => exact ⟨0, none, 0, [], rfl, by omega, rfl, rfl, World.ownsRow_nil _ _ _ _, rfl, Below.refl _ _⟩
    case round =>
      obtain ⟨j, A, c, ts, rfl, hj, rfl, hts, hown, hnl, hb⟩ := hrel
      have b1 : wr.cell? ⟨w.heap.size, 0, none⟩ = some (.string p) := (hb.cell (p := ⟨w.heap.size, 0, none⟩) (by simp)).trans HB0.out
      have m3 : w.heap.size + 1 ≤ wr.heap.size := by rw [← HZ.out]; exact hb.size
      have HB := Lib.hid hb
      have HO := Lib.hid hown
      have HN := Lib.hid hnl
      have HT := Lib.hid hts
      have M1 := Lib.hid (show ts.length + 4 ≤ maxLen by unfold maxLen; omega)
      have M2 := Lib.hid (show (ts.length + 4) * 16 ≤ 140737488355328 by omega)
      clear hb hown hnl hts
      by_cases hlt : j < p.size
      · have hli : (j : Int) < (p.size : Int) := by omega
        obtain ⟨x, hx⟩ : ∃ x : Nat, x = (p[j]'hlt).toNat := ⟨_, rfl⟩
        have hx2 : x < 256 := by rw [hx]; exact UInt8.toNat_lt _
        have hix : ∀ W : World, (Instr.index 9 (Value.string p) (Value.int IntKind.i64 (j : Int))).run Tryd.prog W = .ok (.int .u8 (x : Int)) W := fun W => by
          rw [run_index_string W 9 p .i64 j Tryd.underlying9, dif_pos ⟨by omega, by omega⟩, hx]; rfl
        obtain ⟨D1, hD1, hd1⟩ := hex_cut (x / 16) (by omega)
        obtain ⟨D2, hD2, hd2⟩ := hex_cut (x % 16) (by omega)
        have HX := Lib.hid hx
        have HD := Lib.hid (show nl D1 = [hexd (x / 16)] ∧ nl D2 = [hexd (x % 16)] from ⟨hD1, hD2⟩)
        rw [show ((x / 16 : Nat) : Int) = (x : Int) / 16 by omega] at hd1
        rw [show ((x % 16 : Nat) : Int) = (x : Int) % 16 by omega] at hd2
        have a1 : (0 : Int) ≤ (x : Int) / 16 := by omega
        have a2 : (x : Int) / 16 < 16 := by omega
        have a3 : (0 : Int) ≤ (x : Int) % 16 := by omega
        have a4 : (x : Int) % 16 < 16 := by omega
        have k1 : IntKind.u8.wrap ((x : Int) / 16) = (x : Int) / 16 := IntWalk.u8_in _ (by omega)
        have k2 : IntKind.u8.wrap ((x : Int) / 16 + 1) = (x : Int) / 16 + 1 := IntWalk.u8_in _ (by omega)
        have k3 : IntKind.u8.wrap ((x : Int) % 16) = (x : Int) % 16 := IntWalk.u8_in _ (by omega)
        have k5 : (x : Int).tmod 16 = (x : Int) % 16 := IntWalk.rem_in _ _ (by omega)
        have k4 : IntKind.u8.wrap ((x : Int) % 16 + 1) = (x : Int) % 16 + 1 := IntWalk.u8_in _ (by omega)
        clear hx hD1 hD2
        go_wp2
        refine wp_region_held_drew (S := fun W => W.cell? ⟨w.heap.size, 0, none⟩ = some (.string p)) (by kernel_rfl) b1 (fun hHeld => ?_)
        (refine held_take (i := 0) rfl rfl (by kernel_rfl) (by kernel_rfl) (by kernel_rfl) (fun _ _ _ h => h) (by rfl) (by intro w hSw; (try dsimp only at hSw); go_simp; first | done | with_reducible rfl) (by assumption) ?_; try simp only [Act.put, List.setIfInBounds_toArray, List.set_cons_zero, List.set_cons_succ])
        (refine held_take (i := 1) rfl rfl (by kernel_rfl) (by kernel_rfl) (by kernel_rfl) (fun _ _ _ h => h) (by rfl) (by intro w hSw; (try dsimp only at hSw); go_simp; first | done | with_reducible rfl) (by assumption) ?_; try simp only [Act.put, List.setIfInBounds_toArray, List.set_cons_zero, List.set_cons_succ])
        (refine held_take (i := 2) rfl rfl (by kernel_rfl) (by kernel_rfl) (by kernel_rfl) (fun _ _ _ h => h) (by rfl) (by intro w hSw; (try dsimp only at hSw); go_simp; first | done | with_reducible rfl) (by assumption) ?_; try simp only [Act.put, List.setIfInBounds_toArray, List.set_cons_zero, List.set_cons_succ])
        (refine held_take (i := 3) rfl rfl (by kernel_rfl) (by kernel_rfl) (by kernel_rfl) (fun _ _ _ h => h) (by rfl) (by intro w hSw; (try dsimp only at hSw); go_simp; first | done | with_reducible rfl) (by assumption) ?_; try simp only [Act.put, List.setIfInBounds_toArray, List.set_cons_zero, List.set_cons_succ])
        (refine held_take (i := 4) rfl rfl (by kernel_rfl) (by kernel_rfl) (by kernel_rfl) (fun _ _ _ h => h) (by rfl) (by intro w hSw; (try dsimp only at hSw); go_simp; first | done | with_reducible rfl) (by assumption) ?_; try simp only [Act.put, List.setIfInBounds_toArray, List.set_cons_zero, List.set_cons_succ])
        (refine held_take (i := 5) rfl rfl (by kernel_rfl) (by kernel_rfl) (by kernel_rfl) (fun _ _ _ h => h) (by rfl) (by intro w hSw; (try dsimp only at hSw); go_simp; first | done | with_reducible rfl) (by assumption) ?_; try simp only [Act.put, List.setIfInBounds_toArray, List.set_cons_zero, List.set_cons_succ])
        (refine held_take (i := 6) rfl rfl (by kernel_rfl) (by kernel_rfl) (by kernel_rfl) (fun _ _ _ h => h) (by rfl) (by intro w hSw; (try dsimp only at hSw); go_simp; first | done | with_reducible rfl) (by assumption) ?_; try simp only [Act.put, List.setIfInBounds_toArray, List.set_cons_zero, List.set_cons_succ])
        (refine held_take (i := 7) rfl rfl (by kernel_rfl) (by kernel_rfl) (by kernel_rfl) (fun _ _ _ h => h) (by rfl) (by intro w hSw; (try dsimp only at hSw); go_simp; first | done | with_reducible rfl) (by assumption) ?_; try simp only [Act.put, List.setIfInBounds_toArray, List.set_cons_zero, List.set_cons_succ])
        (refine held_take (i := 8) rfl rfl (by kernel_rfl) (by kernel_rfl) (by kernel_rfl) (fun _ _ _ h => h) (by rfl) (by intro w hSw; (try dsimp only at hSw); go_simp; first | done | with_reducible rfl) (by assumption) ?_; try simp only [Act.put, List.setIfInBounds_toArray, List.set_cons_zero, List.set_cons_succ])
        (refine held_take (i := 9) rfl rfl (by kernel_rfl) (by kernel_rfl) (by kernel_rfl) (fun _ _ _ h => h) (by rfl) (by intro w hSw; (try dsimp only at hSw); go_simp; first | done | with_reducible rfl) (by assumption) ?_; try simp only [Act.put, List.setIfInBounds_toArray, List.set_cons_zero, List.set_cons_succ])
        (refine held_take (i := 10) rfl rfl (by kernel_rfl) (by kernel_rfl) (by kernel_rfl) (fun _ _ _ h => h) (by rfl) (by intro w hSw; (try dsimp only at hSw); go_simp; first | done | with_reducible rfl) (by assumption) ?_; try simp only [Act.put, List.setIfInBounds_toArray, List.set_cons_zero, List.set_cons_succ])
        (refine held_take (i := 11) rfl rfl (by kernel_rfl) (by kernel_rfl) (by kernel_rfl) (fun _ _ _ h => h) (by rfl) (by intro w hSw; (try dsimp only at hSw); go_simp; first | done | with_reducible rfl) (by assumption) ?_; try simp only [Act.put, List.setIfInBounds_toArray, List.set_cons_zero, List.set_cons_succ])
        (refine held_take (i := 12) rfl rfl (by kernel_rfl) (by kernel_rfl) (by kernel_rfl) (fun _ _ _ h => h) (by rfl) (by intro w hSw; (try dsimp only at hSw); go_simp; first | done | with_reducible rfl) (by assumption) ?_; try simp only [Act.put, List.setIfInBounds_toArray, List.set_cons_zero, List.set_cons_succ])
        (refine held_take (i := 13) rfl rfl (by kernel_rfl) (by kernel_rfl) (by kernel_rfl) (fun _ _ _ h => h) (by rfl) (by intro w hSw; (try dsimp only at hSw); go_simp; first | done | with_reducible rfl) (by assumption) ?_; try simp only [Act.put, List.setIfInBounds_toArray, List.set_cons_zero, List.set_cons_succ])
        (refine held_take (i := 14) rfl rfl (by kernel_rfl) (by kernel_rfl) (by kernel_rfl) (fun _ _ _ h => h) (by rfl) (by intro w hSw; (try dsimp only at hSw); go_simp; first | done | with_reducible rfl) (by assumption) ?_; try simp only [Act.put, List.setIfInBounds_toArray, List.set_cons_zero, List.set_cons_succ])
        (refine held_take (i := 15) rfl rfl (by kernel_rfl) (by kernel_rfl) (by kernel_rfl) (fun _ _ _ h => h) (by rfl) (by intro w hSw; (try dsimp only at hSw); go_simp; first | done | with_reducible rfl) (by assumption) ?_; try simp only [Act.put, List.setIfInBounds_toArray, List.set_cons_zero, List.set_cons_succ])
        (refine held_take (i := 16) rfl rfl (by kernel_rfl) (by kernel_rfl) (by kernel_rfl) (fun _ _ _ h => h) (by rfl) (by intro w hSw; (try dsimp only at hSw); go_simp; first | done | with_reducible rfl) (by assumption) ?_; try simp only [Act.put, List.setIfInBounds_toArray, List.set_cons_zero, List.set_cons_succ])
        (refine held_take (i := 17) rfl rfl (by kernel_rfl) (by kernel_rfl) (by kernel_rfl) (fun _ _ _ h => h) (by rfl) (by intro w hSw; (try dsimp only at hSw); go_simp; first | done | with_reducible rfl) (by assumption) ?_; try simp only [Act.put, List.setIfInBounds_toArray, List.set_cons_zero, List.set_cons_succ])
        (refine held_take (i := 18) rfl rfl (by kernel_rfl) (by kernel_rfl) (by kernel_rfl) (fun _ _ _ h => h) (by rfl) (by intro w hSw; (try dsimp only at hSw); go_simp; first | done | with_reducible rfl) (by assumption) ?_; try simp only [Act.put, List.setIfInBounds_toArray, List.set_cons_zero, List.set_cons_succ])
        (refine held_take (i := 19) rfl rfl (by kernel_rfl) (by kernel_rfl) (by kernel_rfl) (fun _ _ _ h => h) (by rfl) (by intro w hSw; (try dsimp only at hSw); go_simp; first | done | with_reducible rfl) (by assumption) ?_; try simp only [Act.put, List.setIfInBounds_toArray, List.set_cons_zero, List.set_cons_succ])
        (refine held_take (i := 20) rfl rfl (by kernel_rfl) (by kernel_rfl) (by kernel_rfl) (fun _ _ _ h => h) (by rfl) (by intro w hSw; (try dsimp only at hSw); go_simp; first | done | with_reducible rfl) (by assumption) ?_; try simp only [Act.put, List.setIfInBounds_toArray, List.set_cons_zero, List.set_cons_succ])
        (refine held_take (i := 21) rfl rfl (by kernel_rfl) (by kernel_rfl) (by kernel_rfl) (fun _ _ _ h => h) (by rfl) (by intro w hSw; (try dsimp only at hSw); go_simp; first | done | with_reducible rfl) (by assumption) ?_; try simp only [Act.put, List.setIfInBounds_toArray, List.set_cons_zero, List.set_cons_succ])
        (refine held_take (i := 22) rfl rfl (by kernel_rfl) (by kernel_rfl) (by kernel_rfl) (fun _ _ _ h => h) (by rfl) (by intro w hSw; (try dsimp only at hSw); go_simp; first | done | with_reducible rfl) (by assumption) ?_; try simp only [Act.put, List.setIfInBounds_toArray, List.set_cons_zero, List.set_cons_succ])
        (refine held_take (i := 23) rfl rfl (by kernel_rfl) (by kernel_rfl) (by kernel_rfl) (fun _ _ _ h => h) (by rfl) (by intro w hSw; (try dsimp only at hSw); go_simp; first | done | with_reducible rfl) (by assumption) ?_; try simp only [Act.put, List.setIfInBounds_toArray, List.set_cons_zero, List.set_cons_succ])
        (refine held_take (i := 24) rfl rfl (by kernel_rfl) (by kernel_rfl) (by kernel_rfl) (fun _ _ _ h => h) (by rfl) (by intro w hSw; (try dsimp only at hSw); go_simp; first | done | with_reducible rfl) (by assumption) ?_; try simp only [Act.put, List.setIfInBounds_toArray, List.set_cons_zero, List.set_cons_succ])
        refine wpAnyH_ready (rs := [25]) (by kernel_rfl) (by simp) ?_
        refine AllReadyH.cons rfl (fun K hK => ?_) AllReadyH.nil
        go_simp
        refine hK.out _ _ ((World.cell?_alloc_lt _ _ _ (by exact m3)).trans b1) (fun hHeld => ?_)
        clear hK K
        try simp only [Act.put, List.setIfInBounds_toArray, List.set_cons_zero, List.set_cons_succ]
        refine wpAnyH_ready (rs := [26]) (by kernel_rfl) (by simp) ?_
        refine AllReadyH.cons rfl (fun K hK => ?_) AllReadyH.nil
        refine step_append_seg rfl (.tmp 27) (.tmp 52) 33 rfl (w.heap.size + 1) 9 i0 _ 1 16 Tryd.underlying33 fi fz0 fz1 fz2 rfl (by decide) (.slice A ts.length c) ts.length (sV ts) rfl (HO.out.alloc _) (wr.heap.size + 1) (some ⟨wr.heap.size, 0, none⟩) 4 4 (sV [⟨#[92]⟩, ⟨#[120]⟩, D1, D2]) rfl rfl (seg_new (e := 9) (cs := #[.string ⟨#[92]⟩, .string ⟨#[120]⟩, .string D1, .string D2])) (sV_one _) M1.out M2.out (by show _ ≤ (wr.alloc _).heap.size; rw [World.size_alloc]; omega) ?_
        intro v3 w3 hown3 hg3 _
        have b3 : w3.cell? ⟨w.heap.size, 0, none⟩ = some (.string p) := (World.cell?_of_block (hg3.block w.heap.size (by show _ < (wr.alloc _).heap.size; rw [World.size_alloc]; omega) (fun e => by have := (HO.out.lt _ e.symm).1; omega))).trans ((World.cell?_alloc_lt _ _ _ (by exact m3)).trans b1)
        refine hK.out _ _ b3 (fun hHeld => ?_)
        clear hK K
        try simp only [Act.put, List.setIfInBounds_toArray]
        (refine held_take (i := 27) rfl rfl (by kernel_rfl) (by kernel_rfl) (by kernel_rfl) (fun _ _ _ h => h) (by rfl) (by intro w hSw; (try dsimp only at hSw); go_simp; first | done | with_reducible rfl) (by assumption) ?_; try simp only [Act.put])
        refine wpAnyH_done (by kernel_rfl) ?_ _
        obtain ⟨A3, c3, rfl⟩ := own_shape hown3
        have hb4 : Below (w.heap.size + 1) W0 w3 := by
          refine Below.grown ?_ hg3 (by simp; omega) (fun g hg => (HO.out.lt g hg).1)
          first | exact HB.out.alloc m3 _ | exact (HB.out.alloc m3 _).drew | exact HB.out.drew.alloc m3 _
        have hl4 : (ts ++ [⟨#[92]⟩, ⟨#[120]⟩, D1, D2]).map nl = ((nl p).take (j + 1)).flatMap escB := by
          rw [esc_snoc hlt, ← HX.out, ← HN.out, ← HD.out.1, ← HD.out.2, List.map_append]
          rfl
        have hn4 : ts.length + 4 = (ts ++ [⟨#[92]⟩, ⟨#[120]⟩, D1, D2]).length := by simp
        have hown4 : w3.ownsRow (w.heap.size + 1) 9 1 (.slice A3 (ts ++ [⟨#[92]⟩, ⟨#[120]⟩, D1, D2]).length c3) (ts ++ [⟨#[92]⟩, ⟨#[120]⟩, D1, D2]).length (sV (ts ++ [⟨#[92]⟩, ⟨#[120]⟩, D1, D2])) := by
          rw [← hn4]
          have e : sV (ts ++ [⟨#[92]⟩, ⟨#[120]⟩, D1, D2]) = sV ts ++ sV [⟨#[92]⟩, ⟨#[120]⟩, D1, D2] := by simp [sV]
          rw [e]
          exact hown3
        have HO4 := Lib.hid hown4
        have HL4 := Lib.hid hl4
        have HB4 := Lib.hid hb4
        have HN4 := Lib.hid hn4
        clear hown3 hg3 hown4 hl4 hb4 hn4
        go_wp2
        exact ⟨⟨j + 1, A3, c3, ts ++ [⟨#[92]⟩, ⟨#[120]⟩, D1, D2], by go_num, hlt, by rw [← HN4.out], by rw [← HN4.out, HT.out]; omega, HO4.out, HL4.out, HB4.out⟩, by simp [intOf]; omega⟩
      · obtain rfl : j = p.size := by omega
        have hli : ¬ (p.size : Int) < (p.size : Int) := by omega
        go_wp2
        go_ret
        refine ⟨A, c, ts, rfl, own_seg HO.out, ?_, HBL.out.trans (HB.out.mono (by omega))⟩
        rw [HN.out, List.take_of_length_le (by rw [nl_len]; exact Nat.le_refl _)]
theorem seg_two {w : World} {cs : Array Value} {e : TypeId} {o : Obj} : Seg ((w.alloc o).alloc (.cells cs e)) ((w.alloc o).alloc (.cells cs e)).heap.size (some ⟨w.heap.size + 1, 0, none⟩) cs.toList := by
  have h := seg_new (w := w.alloc o) (cs := cs) (e := e)
  rw [World.size_alloc] at h
  exact h.more (by simp)
def qOf (b : Bool) : Int := if b then 34 else 92
set_option maxRecDepth 100000 in
set_option maxHeartbeats 16000000 in
theorem rshown_oth (p : ByteArray) (r : Int) (qb : Bool) (w : World) (he : ¬ (r < 32 ∨ (127 ≤ r ∧ r ≤ 159))) :
    Calls Tryd.prog 76 #[.agg #[.string p, .int .i32 r], .bool qb] w fun e w' => ∃ A c ts, e = .returned (.slice A ts.length c) ∧ Seg w' w'.heap.size A (sV ts) ∧ ts.map nl = elemsOf (qOf qb) (r, nl p) ∧ Below w.heap.size w w' := by
  have hy : (r = 92 ∨ r = qOf qb) → elemsOf (qOf qb) (r, nl p) = [[92], nl p] := fun h => by
    unfold elemsOf; rw [if_neg he, if_pos h]
  have hn : ¬ (r = 92 ∨ r = qOf qb) → elemsOf (qOf qb) (r, nl p) = [nl p] := fun h => by
    unfold elemsOf; rw [if_neg he, if_neg h]
  have HY := Lib.hid hy
  have HN := Lib.hid hn
  clear hy hn
  have d1 : decide (r < 32) = false := by simp; omega
  have hb : ∀ (o o' : Obj), Below w.heap.size w ((w.alloc o).alloc o') := fun o o' => ((Below.refl _ _).alloc (Nat.le_refl _) _).alloc (by simp) _
  by_cases hr : 127 ≤ r
  · have d2 : decide (127 ≤ r) = true := by simp; omega
    have d3 : decide (r ≤ 159) = false := by simp; omega
    have e1 : (r == 92) = false := by simp; omega
    have e2 : (r == 34) = false := by simp; omega
    have HH := Lib.hid (show ¬ (r = 92 ∨ r = qOf qb) from by cases qb <;> simp [qOf] <;> omega)
    clear he hr
    cases qb
    all_goals
      go_enter Tryd.func76, Tryd.ntmps76
      go_wp2_with (fail)
      go_ret
      exact ⟨some ⟨w.heap.size + 1, 0, none⟩, 1, [p], rfl, seg_two (cs := #[.string p]), by rw [HN.out HH.out]; rfl, hb _ _⟩
  · have d2 : decide (127 ≤ r) = false := by simp; omega
    by_cases h92 : r = 92
    · have e1 : (r == 92) = true := by simp; omega
      have HH := Lib.hid h92
      clear he hr h92
      go_enter Tryd.func76, Tryd.ntmps76
      go_wp2_with (fail)
      go_ret
      exact ⟨some ⟨w.heap.size + 1, 0, none⟩, 2, [⟨#[92]⟩, p], rfl, seg_two (cs := #[.string ⟨#[92]⟩, .string p]), by rw [HY.out (.inl HH.out)]; rfl, hb _ _⟩
    have e1 : (r == 92) = false := by simp; omega
    by_cases h34 : r = 34
    · have e2 : (r == 34) = true := by simp; omega
      have HH := Lib.hid h34
      have HG := Lib.hid h92
      clear he hr h92 h34
      cases qb
      · go_enter Tryd.func76, Tryd.ntmps76
        go_wp2_with (fail)
        go_ret
        exact ⟨some ⟨w.heap.size + 1, 0, none⟩, 1, [p], rfl, seg_two (cs := #[.string p]), by rw [HN.out (by have := HG.out; simp [qOf]; omega)]; rfl, hb _ _⟩
      · go_enter Tryd.func76, Tryd.ntmps76
        go_wp2_with (fail)
        go_ret
        exact ⟨some ⟨w.heap.size + 1, 0, none⟩, 2, [⟨#[92]⟩, p], rfl, seg_two (cs := #[.string ⟨#[92]⟩, .string p]), by rw [HY.out (.inr (by rw [HH.out]; rfl))]; rfl, hb _ _⟩
    · have e2 : (r == 34) = false := by simp; omega
      have HH := Lib.hid (show ¬ (r = 92 ∨ r = qOf qb) from by cases qb <;> simp [qOf] <;> omega)
      clear he hr h92 h34
      cases qb
      all_goals
        go_enter Tryd.func76, Tryd.ntmps76
        go_wp2_with (fail)
        go_ret
        exact ⟨some ⟨w.heap.size + 1, 0, none⟩, 1, [p], rfl, seg_two (cs := #[.string p]), by rw [HN.out HH.out]; rfl, hb _ _⟩
theorem rshown_any (p : ByteArray) (r : Int) (qb : Bool) (hp : p.size ≤ 4) (w : World) :
    Calls Tryd.prog 76 #[.agg #[.string p, .int .i32 r], .bool qb] w fun e w' => ∃ A c ts, e = .returned (.slice A ts.length c) ∧ Seg w' w'.heap.size A (sV ts) ∧ ts.map nl = elemsOf (qOf qb) (r, nl p) ∧ Below w.heap.size w w' := by
  by_cases he : r < 32 ∨ (127 ≤ r ∧ r ≤ 159)
  · have e : elemsOf (qOf qb) (r, nl p) = (nl p).flatMap escB := by unfold elemsOf; rw [if_pos he]
    rw [e]
    exact rshown_esc p r qb hp w he
  · exact rshown_oth p r qb w he
end Go.Proofs.YtfipljhlponcoaaDoor
