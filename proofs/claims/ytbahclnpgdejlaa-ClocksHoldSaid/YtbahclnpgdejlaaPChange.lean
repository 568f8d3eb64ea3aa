/- The program's change when it refuses: the contracts. -/
import Derived.Test.YtbahclnpgdejlaaRMove
set_option linter.unusedVariables false
namespace Go.Proofs.Ytbahclnpgdejlaa
open Go.RowKit
theorem change_rate {w : World} {B nb n : Nat} {Ac Ar Au Ah A' : Option Addr} {cc cr cu ch c' : Nat} {s : St} {l' : List Clk} (h : NetAt w B nb n Ac Ar Au Ah cc cr cu ch s) (hg : Good l') (hl : n = l'.length) (hn5 : n ≤ 512)
    (hs : Seg w w.heap.size A' (clkCells l')) (hbad : ∃ j, j < n ∧ fitsAt l' j = false) :
    Calls Try.prog 48 #[.pointer (some ⟨nb, 0, none⟩), .slice A' n c'] w fun e w' => e = .returned (.tuple #[.slice none 0 0, .int .i64 181]) ∧ Below w.heap.size w w' := by
  have hrk := reckon_any A' c' l' n hl hg w w.heap.size (Nat.le_refl _) hs (by omega)
  have HR := Lib.hid hrk
  have HB := Lib.hid hbad
  clear hrk hbad h hg hs hl
  go_enter Try.func48, Try.ntmps48
  go_wp2_with (go_at_call 23; refine HR.out.mono ?_; rintro e w1 ⟨hb1, (⟨hf, rfl, hrow1⟩ | ⟨⟨j, hj, hx⟩, rfl⟩)⟩)
  · obtain ⟨j, hj, hx⟩ := HB.out
    exact absurd (hf j hj) (by rw [hx]; simp)
  · go_ret2
    exact ⟨rfl, hb1⟩
set_option maxRecDepth 100000 in
set_option maxHeartbeats 2000000 in
theorem change_busy {w : World} {B nb n : Nat} {Ac Ar Au Ah A' : Option Addr} {cc cr cu ch c' : Nat} {s : St} {l' : List Clk} (h : NetAt w B nb n Ac Ar Au Ah cc cr cu ch s) (hg : Good l') (hl : n = l'.length) (hn5 : n ≤ 512) (h0 : 0 < n)
    (hv : Vec w B A' 30 (clkCells l')) (hBw : B ≤ w.heap.size) (hfit : ∀ j, j < n → fitsAt l' j = true) {j0 : Nat} (hj0 : j0 < n) (hbz : busyAt l' s.rs (ratesOf l') s.hs j0 = true) (hbusy : ∀ j, j < j0 → busyAt l' s.rs (ratesOf l') s.hs j = false) :
    Calls Try.prog 48 #[.pointer (some ⟨nb, 0, none⟩), .slice A' n c'] w fun e w' => e = .returned (.tuple #[.slice none 0 0, .int .i64 182]) ∧ Below w.heap.size w w' := by
  have hrk := reckon_any A' c' l' n hl hg w w.heap.size (Nat.le_refl _) hv.seg (by omega)
  have HR := Lib.hid hrk
  have HF := Lib.hid hfit
  have HB := Lib.hid hbusy
  have HL := Lib.hid hl
  have HBZ := Lib.hid hbz
  obtain ⟨gh, hAh, _, hrowh⟩ := h.row_h h0
  have hlenr := h.lenr
  have hlenh := h.lenh
  obtain ⟨gr0, hAr, _, hrowr⟩ := h.vr (by intro e; have := congrArg List.length e; simp [i64s] at this; rw [this] at hlenr; simp at hlenr; omega)
  obtain ⟨gc, hAc, hBc, hrowc⟩ := hv (by intro e; have := congrArg List.length e; rw [clkCells, flat_length _ 7 clk_len] at this; simp only [List.length_nil] at this; omega)
  subst hAh hAr hAc
  have HLR := Lib.hid hlenr
  have HLH := Lib.hid hlenh
  clear hrk hfit hbusy hl hlenr hlenh hbz
  obtain ⟨i0, ei, ez0, ez1, ez2⟩ := info_parts Try.info78
  go_enter Try.func48, Try.ntmps48
  go_wp2_with (go_at_call 23; refine HR.out.mono ?_; rintro e w1 ⟨hb1, (⟨_, rfl, hrow1⟩ | ⟨⟨j, hj, hx⟩, rfl⟩)⟩)
  · go_loopw [8, 22] (fun o i wr => ∃ k : Nat, k ≤ j0 ∧ i = .int .i64 k ∧ (∃ A c, o = .slice A (chg s.rs (ratesOf l') k).length c) ∧ wr.ownsRow w1.heap.size 78 3 o (chg s.rs (ratesOf l') k).length (chgCells (chg s.rs (ratesOf l') k)) ∧ Frame (fun _ => False) w1 wr) (fun _ i _ => n - (intOf i).toNat)
    case atStart => exact ⟨0, by omega, rfl, ⟨none, 0, rfl⟩, World.ownsRow_nil _ _ _ _, Frame.refl _ _⟩
    case round =>
      obtain ⟨k, hk, rfl, ⟨Ao, co, rfl⟩, hown, hfr⟩ := hrel
      have hkn : k < n := by omega
      have hkl : k < l'.length := by rw [← HL.out]; exact hkn
      have hnew := (hrow1.frame hfr (fun x => x)).cell (k := k) (by rw [i64s_len, ratesOf_len]; exact hkl)
      rw [i64s_get _ _ (by rw [ratesOf_len]; exact hkl)] at hnew
      have hold_ := ((hrowr.below hb1).frame hfr (fun x => x)).cell (k := k) (by rw [i64s_len, ← HLR.out]; exact hkn)
      rw [i64s_get _ _ (by rw [← HLR.out]; exact hkn)] at hold_
      have hhs := ((hrowh.below hb1).frame hfr (fun x => x)).cell (k := k) (by rw [i64s_len, ← HLH.out]; exact hkn)
      rw [i64s_get _ _ (by rw [← HLH.out]; exact hkn)] at hhs
      have hbox := (hfr.heap (by have := h.lt; have := hb1.size; omega) (fun x => x)).trans ((hb1.block nb h.lt).trans h.box)
      have c1 := cell_of_row wr nb 1 _ _ (0, 0) hbox
      have c3 := cell_of_row wr nb 3 _ _ (0, 0) hbox
      simp only [List.getElem?_toArray, List.getElem?_cons_succ, List.getElem?_cons_zero] at c1 c3
      have hst := ((hrowc.below hb1).frame hfr (fun x => x)).cell (k := k * 7 + 6) (by rw [clkCells, flat_length _ 7 clk_len]; omega)
      rw [clkCells, flat_get _ 7 clk_len l' k 6 hkl (by omega)] at hst
      have hs6 : (Clk.cells l'[k])[6]? = some (.bool (steadyAt l' k)) := by simp [Clk.cells, steadyAt, hkl]
      rw [hs6] at hst
      by_cases hlt : k < j0
      · have hbu := HB.out k hlt
        obtain ⟨a, ha⟩ : ∃ a, a = s.rs.getD k 0 := ⟨_, rfl⟩
        obtain ⟨b, hb⟩ : ∃ b, b = (ratesOf l').getD k 0 := ⟨_, rfl⟩
        obtain ⟨z, hz⟩ : ∃ z, z = s.hs.getD k 0 := ⟨_, rfl⟩
        obtain ⟨y, hy⟩ : ∃ y, y = steadyAt l' k := ⟨_, rfl⟩
        unfold busyAt at hbu
        rw [← ha] at hold_ hbu
        rw [← hb] at hnew hbu
        rw [← hz] at hhs hbu
        rw [← hy] at hst hbu
        have HAB : Hid (chg s.rs (ratesOf l') (k + 1) = if a = b then chg s.rs (ratesOf l') k else chg s.rs (ratesOf l') k ++ [(k, a, b)]) := by rw [ha, hb]; rfl
        have hki : (k : Int) < (n : Int) := by omega
        have HO := Lib.hid hown
        have HFR := Lib.hid hfr
        have hcl := chg_len s.rs (ratesOf l') k
        clear ha hb hz hy hs6 hbox hown hfr
        by_cases hab : a = b
        · have e1 : (a == b) = true := by simpa using hab
          have e2 : (a != b) = false := by simpa using hab
          have HAB2 : Hid (chg s.rs (ratesOf l') (k + 1) = chg s.rs (ratesOf l') k) := HAB.out.trans (if_pos hab)
          clear hab hbu HAB
          go_wp2
          go_roundw
          case rel => exact ⟨k + 1, by omega, by go_num, ⟨Ao, co, by rw [HAB2.out]⟩, by rw [HAB2.out]; exact HO.out, HFR.out⟩
          case measure => simp [intOf]; omega
        · have e1 : (a == b) = false := by simpa using hab
          have e2 : (a != b) = true := by simpa using hab
          have HAB2 : Hid (chg s.rs (ratesOf l') (k + 1) = chg s.rs (ratesOf l') k ++ [(k, a, b)]) := HAB.out.trans (if_neg hab)
          have hzy : (0 < z ∧ y = false) ∨ z ≤ 0 := by
            rw [e1] at hbu
            by_cases hz0 : 0 < z
            · left
              refine ⟨hz0, ?_⟩
              simpa [hz0] using hbu
            · right; omega
          clear hab hbu HAB
          rcases hzy with ⟨hz0, rfl⟩ | hz0
          all_goals
            go_wp2_with (at_builtin; refine wpList_append_seg _ rfl (.tmp 52) (.tmp 57) 74 rfl w1.heap.size 78 i0 _ 3 24 Try.underlying74 ei ez0 ez1 ez2 rfl (by decide) _ _ (chgCells (chg s.rs (ratesOf l') k)) rfl (HO.out.alloc _) (wr.heap.size + 1) (some ⟨wr.heap.size, 0, none⟩) 1 1 [.int .i64 k, .int .i64 a, .int .i64 b] rfl rfl (seg_new wr 78 #[.int .i64 k, .int .i64 a, .int .i64 b]) ?_ ?_ ?_ ?_ ?_)
            · first | exact ⟨rfl, rfl, rfl⟩ | (intro u hu; simp at hu; rcases hu with rfl | rfl | rfl <;> rfl)
            · unfold maxLen; omega
            · omega
            · have := HFR.out.size; simp; omega
            intro v3 w3 hown3 hg3 _
            obtain ⟨A3, c3', rfl⟩ := own_shape hown3
            have hfr3 : Frame (fun _ => False) w1 w3 := HFR3 (m := 0) (row := none) HFR.out HO.out (Nat.le_refl _) hg3
            have ht : chgCells (chg s.rs (ratesOf l') k) ++ [.int .i64 (k : Int), .int .i64 a, .int .i64 b] = chgCells (chg s.rs (ratesOf l') (k + 1)) := by rw [HAB2.out]; simp [chgCells]
            rw [ht] at hown3
            have hl3 : (chg s.rs (ratesOf l') k).length + 1 = (chg s.rs (ratesOf l') (k + 1)).length := by rw [HAB2.out]; simp
            rw [hl3] at hown3
            have H3 := Lib.hid hown3
            have HF3 := Lib.hid hfr3
            have HL3 := Lib.hid hl3
            clear hown3 hfr3 hl3 ht hg3
            go_wp2
            go_roundw
            case rel => exact ⟨k + 1, by omega, by go_num, ⟨A3, c3', by rw [HL3.out]⟩, by rw [HL3.out]; exact H3.out, HF3.out⟩
            case measure => simp [intOf]; omega
      · obtain rfl : k = j0 := by omega
        have hbu := HBZ.out
        unfold busyAt at hbu
        have hki : (k : Int) < (n : Int) := by omega
        have HFR := Lib.hid hfr
        generalize s.rs.getD k 0 = a at *
        generalize (ratesOf l').getD k 0 = b at *
        generalize s.hs.getD k 0 = z at *
        generalize steadyAt l' k = y at *
        simp only [Bool.and_eq_true, Bool.not_eq_true', decide_eq_true_eq] at hbu
        obtain ⟨⟨e1, hz⟩, rfl⟩ := hbu
        have e2 : (a != b) = true := by simp only [bne, e1]; rfl
        have hfin : Below w.heap.size w wr := hb1.trans (hfr.toBelow (Nat.le_refl _) (fun _ _ x => x) |>.mono hb1.size)
        have HFIN := Lib.hid hfin
        clear hfin hown hfr hbox hs6
        go_wp2
        go_ret2
        exact ⟨rfl, HFIN.out⟩
  · exact absurd (HF.out j hj) (by rw [hx]; simp)
end Go.Proofs.Ytbahclnpgdejlaa
