/- Owner, awake, Same: the contracts. -/
import Derived.Test.YtndocngkganpdaaRgEx
set_option linter.unusedVariables false
namespace Go.Proofs.Ytndocngkganpdaa
open Go.RowKit
/-- Who has an address, what is wrong. -/
def ownE (l : List Nd) (at_ : Nat) : Nat × Int := if treeB l then (if (ownerB l at_).1 = 0 then (0, 6) else ((ownerB l at_).1, 0)) else (0, 40)
theorem tree_pos {l : List Nd} (h : treeB l = true) : l.length ≠ 0 := fun h0 => by rw [tree_nil h0] at h; cases h
theorem wrong00 (l : List Nd) : wrongF l 0 0 = if treeB l then 0 else 40 := by
  unfold wrongF
  split
  · rename_i h
    have := tree_pos h
    rw [if_neg (by omega)]
  · rfl
theorem range_drop {n j : Nat} (h : j < n) : (List.range n).drop j = j :: (List.range n).drop (j + 1) := by
  rw [List.drop_eq_getElem_cons (by simpa using h)]
  simp
theorem range_end (n : Nat) : (List.range n).drop n = [] := List.drop_eq_nil_of_le (by simp)
/-- The windows of a place are of 64 bits. -/
theorem outF_lt (l : List Nd) (p b s : Nat) (h : b < 18446744073709551616) : (outF l p b s).1 < 18446744073709551616 := by
  have := thr_lt (l := l) (down := false) (wayF l p) b s h
  rw [thr_out] at this
  exact this
theorem outs_lt (l : List Nd) (p : Nat) : ∀ ws : List (Nat × Nat), (∀ x ∈ ws, x.1 < 18446744073709551616 ∧ x.2 < 18446744073709551616) → ∀ x ∈ (outsF l p ws).1, x.1 < 18446744073709551616 ∧ x.2 < 18446744073709551616
  | [], _, x, hx => by cases hx
  | w :: r, h, x, hx => by
    by_cases h1 : (outF l p w.1 w.2).2 = 0
    · by_cases h2 : (outsF l p r).2 = 0
      · rw [outs_ok h1 h2] at hx
        rcases List.mem_cons.1 hx with rfl | hx
        · exact ⟨outF_lt l p _ _ (h w (by simp)).1, (h w (by simp)).2⟩
        · exact outs_lt l p r (fun y hy => h y (by simp [hy])) x hx
      · rw [outs_mid h1 h2] at hx; cases hx
    · rw [outs_bad h1] at hx; cases hx
theorem wins_lt (l : List Nd) (i : Nat) : ∀ x ∈ (windowsF l i).1, x.1 < 18446744073709551616 ∧ x.2 < 18446744073709551616 := by
  unfold windowsF
  cases h : regF l i with
  | none => intro x hx; cases hx
  | some ws => exact outs_lt l _ ws (reg_lt h)
set_option maxRecDepth 100000 in
set_option maxHeartbeats 16000000 in
theorem powner_any (A : Option Addr) (cap n : Nat) (l : List Nm) (hn : n = l.length) (hsz : Sized l) (at_ : Nat) (hat : at_ < 18446744073709551616) (w : World) (B : Nat) (hB : B ≤ w.heap.size) (hs : Nodes w B A l) :
    Calls Try.prog 13 #[.slice A n cap, .int .u64 (at_ : Nat)] w fun e w' => e = .returned (.tuple #[.int .i64 ((ownE (dat l) at_).1 : Nat), .int .i64 (ownE (dat l) at_).2]) ∧ Below w.heap.size w w' := by
  have NO := node_any A cap n l hn hsz 0 0 w B hB hs
  rw [wrong00] at NO
  unfold ownE
  cases ht : treeB (dat l) with
  | false =>
    rw [ht] at NO
    have NO' : Calls Try.prog 28 #[.slice A n cap, .int .i64 0, .int .i64 0] w fun e w' => e = .returned (.int .i64 40) ∧ Below w.heap.size w w' := NO
    have HNO := Lib.hid NO'
    clear NO NO' ht hn hsz hs
    go_enter Try.func13, Try.ntmps13
    go_wp2_with (first
      | (go_at_call 28; refine HNO.out.mono ?_; rintro e w1 ⟨rfl, hb1⟩
         have HB1 := Lib.hid hb1
         clear hb1)
      | fail)
    go_ret2
    exact ⟨rfl, HB1.out⟩
  | true =>
    rw [ht] at NO
    have NO' : Calls Try.prog 28 #[.slice A n cap, .int .i64 0, .int .i64 0] w fun e w' => e = .returned (.int .i64 0) ∧ Below w.heap.size w w' := NO
    have hu := tree_ups ht
    have hlen := tree_len ht
    rw [dat_len, ← hn] at hlen
    have hshort := tree_short ht
    have WI : ∀ i : Nat, 0 < i → i < n → ∀ W, Below w.heap.size w W → Calls Try.prog 34 #[.slice A n cap, .int .i64 (i : Nat)] W fun e w' => WinR 31 (windowsF (dat l) i) W.heap.size e w' ∧ Below W.heap.size W w' := fun i h0 hi W hW => windows_any A cap n l hn (by omega) hsz hshort hu i h0 hi W B (Nat.le_trans hB hW.size) (hs.below (hW.mono hB))
    obtain ⟨fin, hfin⟩ : ∃ fin, fin = ownerB (dat l) at_ := ⟨_, rfl⟩
    have hf0 : ((List.range n).drop 1).foldl (ownP (dat l) at_) (0, 0) = fin := by rw [hfin]; unfold ownerB; rw [dat_len, ← hn]
    show Calls Try.prog 13 _ _ fun e w' => e = .returned (.tuple #[.int .i64 ((if (ownerB (dat l) at_).1 = 0 then ((0 : Nat), (6 : Int)) else ((ownerB (dat l) at_).1, 0)).1 : Nat), .int .i64 (if (ownerB (dat l) at_).1 = 0 then ((0 : Nat), (6 : Int)) else ((ownerB (dat l) at_).1, 0)).2]) ∧ _
    rw [← hfin]
    have hn0 : 1 ≤ n := by have := tree_pos ht; rw [dat_len] at this; omega
    have HNO := Lib.hid NO'
    have HWI := Lib.hid WI
    have HF0 := Lib.hid hf0
    clear NO NO' ht hn hsz hs WI hf0 hfin hu hshort
    go_enter Try.func13, Try.ntmps13
    go_wp2_with (first
      | (go_at_call 28; refine HNO.out.mono ?_; rintro e w1 ⟨rfl, hb1⟩
         have HB1 := Lib.hid hb1
         clear hb1)
      | fail)
    have R0 := Lib.hid (rowAt_box w1 31 [.int .u64 0, .int .u64 0])
    have HB2 := Lib.hid (HB1.out.alloc HB1.out.size (.cells #[.int .u64 0, .int .u64 0] 31))
    have hg8 : w.heap.size ≤ w1.heap.size := HB1.out.size
    generalize w1.heap.size = g8 at *
    go_loopw [7, 9] (fun bv iv wx => ∃ (j best ls lb : Nat), 1 ≤ j ∧ j ≤ n ∧ iv = .int .i64 j ∧ bv = .int .i64 best ∧ best ≤ j ∧ ls < 18446744073709551616 ∧ ((List.range n).drop j).foldl (ownP (dat l) at_) (best, ls) = fin ∧ RowAt wx g8 31 [.int .u64 (lb : Int), .int .u64 (ls : Int)] ∧ Below w.heap.size w wx) (fun _ iv _ => n - (intOf iv).toNat)
    case atStart => exact ⟨1, 0, 0, 0, by omega, hn0, rfl, rfl, by omega, by omega, HF0.out, R0.out, HB2.out⟩
    case round =>
      obtain ⟨j, best, ls, lb, hj1, hjn, rfl, rfl, hbj, hls, hfo, hro, hb⟩ := hrel
      have HRO := Lib.hid hro
      have HB := Lib.hid hb
      have hlt8 : g8 < wr.heap.size := hro.lt
      by_cases hjlt : j < n
      · have hji : (j : Int) < (n : Int) := by omega
        rw [range_drop hjlt, List.foldl_cons] at hfo
        have CW := HWI.out j (by omega) hjlt wr hb
        have hwl := wins_lt (dat l) j
        have hP : ownP (dat l) at_ (best, ls) j = if (windowsF (dat l) j).2 ≠ 0 then (best, ls) else (windowsF (dat l) j).1.foldl (ownS at_ j) (best, ls) := rfl
        rw [hP] at hfo
        generalize windowsF (dat l) j = X at *
        obtain ⟨L, we⟩ := X
        have CW' : Calls Try.prog 34 #[.slice A n cap, .int .i64 (j : Nat)] wr fun e w' => (∃ AL cL, e = .returned (.tuple #[.slice AL L.length cL, .int .i64 we]) ∧ w'.ownsRow wr.heap.size 31 2 (.slice AL L.length cL) L.length (winCells L)) ∧ Below wr.heap.size wr w' := CW
        obtain ⟨N, hN⟩ : ∃ N, N = L.length := ⟨_, rfl⟩
        rw [← hN] at CW'
        have HCW := Lib.hid CW'
        have HN := Lib.hid hN
        have HWL := Lib.hid hwl
        clear CW CW' hwl hP hN hro hb
        by_cases hwe : we = 0
        case neg =>
          have d1 : (we == 0) = false := by rw [beq_eq_false_iff_ne]; exact hwe
          rw [if_pos hwe] at hfo
          have HFO := Lib.hid hfo
          clear hfo
          go_wp2_with (first
            | (go_at_call 34; refine HCW.out.mono ?_; rintro e w2 ⟨⟨AL, cL, rfl, hown⟩, hb2⟩
               have HB3 := Lib.hid (below_next HB.out hb2)
               have HR3 := Lib.hid (HRO.out.keep (hb2.block _ hlt8))
               clear hb2 hown)
            | fail)
          exact ⟨⟨j + 1, best, ls, lb, by omega, by omega, by go_num, rfl, by omega, hls, HFO.out, HR3.out, HB3.out⟩, by simp [intOf]; omega⟩
        subst hwe
        rw [if_neg (fun h => h rfl)] at hfo
        obtain ⟨wo, hwo⟩ : ∃ wo : World, wo = wr := ⟨_, rfl⟩
        rw [← hwo] at hlt8 HB HRO HCW ⊢
        clear hwo
        obtain ⟨mid, hmid⟩ : ∃ mid, mid = L.foldl (ownS at_ j) (best, ls) := ⟨_, rfl⟩
        have hfo : ((List.range n).drop (j + 1)).foldl (ownP (dat l) at_) mid = fin := by rw [hmid]; exact hfo
        have HFO := Lib.hid hfo
        have HMID := Lib.hid hmid
        clear hfo hmid
        go_wp2_with (first
          | (go_at_call 34; refine HCW.out.mono ?_; rintro e w2 ⟨⟨AL, cL, rfl, hown⟩, hb2⟩
             have HB3 := Lib.hid (below_next HB.out hb2)
             have HR3 := Lib.hid (HRO.out.keep (hb2.block _ hlt8))
             have HO := Lib.hid hown
             clear hb2 hown)
          | fail)
        have hNb : N ≤ maxLen := by
          rcases HO.out.2 with ⟨_, h⟩ | ⟨g, cap, cur, hv, h1, h2, h3, h4, _⟩
          · rw [h]; exact Nat.zero_le _
          · injection hv with _ hv
            exact Nat.le_trans h3 h4
        unfold maxLen at hNb
        go_loopw [7, 36] (fun bv iv wx => ∃ (k best2 ls2 lb2 : Nat), k ≤ N ∧ iv = .int .i64 k ∧ bv = .int .i64 best2 ∧ best2 ≤ j ∧ ls2 < 18446744073709551616 ∧ (L.drop k).foldl (ownS at_ j) (best2, ls2) = mid ∧ RowAt wx g8 31 [.int .u64 (lb2 : Int), .int .u64 (ls2 : Int)] ∧ wx.ownsRow wo.heap.size 31 2 (.slice AL N cL) N (winCells L) ∧ Below w.heap.size w wx) (fun _ iv _ => N - (intOf iv).toNat)
        case atStart => exact ⟨0, best, ls, lb, by omega, rfl, rfl, hbj, hls, HMID.out.symm, HR3.out, HO.out, HB3.out⟩
        case round =>
          obtain ⟨k, best2, ls2, lb2, hk, rfl, rfl, hb2j, hls2, hfk, hro2, hown2, hb2⟩ := hrel
          have HRO2 := Lib.hid hro2
          have HOW2 := Lib.hid hown2
          have HBB := Lib.hid hb2
          have hlt9 : g8 < wr.heap.size := hro2.lt
          by_cases hkN : k < N
          · have hkL : k < L.length := by rw [← HN.out]; exact hkN
            have hki : (k : Int) < (N : Int) := by omega
            rw [List.drop_eq_getElem_cons hkL, List.foldl_cons] at hfk
            obtain ⟨g, off, eA, hg, xa⟩ := (own_seg hown2).thing (f := wiCells) (m := 2) wi_len (by omega) hkL
            subst eA
            have x0 : wr.cell? ⟨g, off + k * 2, none⟩ = some (.int .u64 (L[k].1 : Int)) := xa 0 _ rfl
            have x1 : wr.cell? ⟨g, off + k * 2 + 1, none⟩ = some (.int .u64 (L[k].2 : Int)) := xa 1 _ rfl
            obtain ⟨hx1, hx2⟩ := HWL.out L[k] (List.getElem_mem hkL)
            have hS : ownS at_ j (best2, ls2) L[k] = if withinB at_ 1 L[k].1 L[k].2 && (best2 == 0 || decide (L[k].2 < ls2)) then (j, L[k].2) else (best2, ls2) := rfl
            rw [hS] at hfk
            generalize L[k].1 = wb at *
            generalize L[k].2 = ws at *
            have WI := fun W => within_any at_ 1 wb ws hat (by omega) hx1 hx2 W
            obtain ⟨X, hX⟩ : ∃ X, X = withinB at_ 1 wb ws := ⟨_, rfl⟩
            rw [← hX] at hfk WI
            have HW2 := Lib.hid WI
            have d0 : (wr.alloc (.cells #[.int .u64 (wb : Int), .int .u64 (ws : Int)] 31)).cell? ⟨wr.heap.size, 0, none⟩ = some (.int .u64 (wb : Int)) := cell_of_row _ _ _ _ _ _ (heap_alloc_new wr _)
            have d1 : (wr.alloc (.cells #[.int .u64 (wb : Int), .int .u64 (ws : Int)] 31)).cell? ⟨wr.heap.size, 1, none⟩ = some (.int .u64 (ws : Int)) := cell_of_row _ _ _ _ _ _ (heap_alloc_new wr _)
            have hbA : Below wr.heap.size wr (wr.alloc (.cells #[.int .u64 (wb : Int), .int .u64 (ws : Int)] 31)) := (Below.refl _ wr).alloc (Nat.le_refl _) _
            have hltA : wr.heap.size < (wr.alloc (.cells #[.int .u64 (wb : Int), .int .u64 (ws : Int)] 31)).heap.size := by simp
            have HBA := Lib.hid hbA
            have HLA := Lib.hid hltA
            clear hX WI hS xa hro2 hown2 hb2 hbA hltA
            cases hT : X && (best2 == 0 || decide (ws < ls2)) with
            | false =>
              rw [hT] at hfk
              have HFK := Lib.hid hfk
              clear hfk
              have hcs : X = false ∨ X = true ∧ ¬ best2 = 0 ∧ ¬ ws < ls2 := by
                cases X
                · left; rfl
                · right
                  simp only [Bool.true_and, Bool.or_eq_false_iff, beq_eq_false_iff_ne, decide_eq_false_iff_not] at hT
                  exact ⟨rfl, hT.1, hT.2⟩
              clear hT
              rcases hcs with rfl | ⟨rfl, hb0, hw0⟩
              · go_wp2_with (first
                  | (go_at_call 35; refine (HW2.out _).mono ?_; rintro e w3 ⟨rfl, hb3⟩
                     have hb4 := below_next HBA.out hb3
                     have HB4 := Lib.hid (below_next HBB.out hb4)
                     have HR4 := Lib.hid (HRO2.out.keep (hb4.block _ hlt9))
                     have HO4 := Lib.hid (own_keep HOW2.out fun g _ hlt => hb4.block g hlt)
                     clear hb3 hb4)
                  | fail)
                exact ⟨⟨k + 1, best2, ls2, lb2, by omega, by go_num, rfl, hb2j, hls2, HFK.out, HR4.out, HO4.out, HB4.out⟩, by simp [intOf]; omega⟩
              · have e1 : ¬ (best2 : Int) = 0 := by omega
                have e2 : ¬ (ws : Int) < (ls2 : Int) := by omega
                go_wp2_with (first
                  | (go_at_call 35; refine (HW2.out _).mono ?_; rintro e w3 ⟨rfl, hb3⟩
                     have hb4 := below_next HBA.out hb3
                     have HB4 := Lib.hid (below_next HBB.out hb4)
                     have hr4 := HRO2.out.keep (hb4.block _ hlt9)
                     have HR4 := Lib.hid hr4
                     have HO4 := Lib.hid (own_keep HOW2.out fun g _ hlt => hb4.block g hlt)
                     have z1 := (hb3.cell (p := ⟨wr.heap.size, 1, none⟩) HLA.out).trans d1
                     have y1 := hr4.cell (k := 1) (by simp)
                     simp only [List.getElem?_cons_zero, List.getElem?_cons_succ] at y1
                     clear hb3 hb4 hr4)
                  | fail)
                exact ⟨⟨k + 1, best2, ls2, lb2, by omega, by go_num, rfl, hb2j, hls2, HFK.out, HR4.out, HO4.out, HB4.out⟩, by simp [intOf]; omega⟩
            | true =>
              rw [hT] at hfk
              have HFK := Lib.hid hfk
              clear hfk
              have hcs : X = true ∧ (best2 = 0 ∨ ¬ best2 = 0 ∧ ws < ls2) := by
                simp only [Bool.and_eq_true, Bool.or_eq_true, beq_iff_eq, decide_eq_true_eq] at hT
                refine ⟨hT.1, ?_⟩
                rcases hT.2 with h | h
                · exact .inl h
                · by_cases h0 : best2 = 0
                  · exact .inl h0
                  · exact .inr ⟨h0, h⟩
              clear hT
              obtain ⟨rfl, hcs⟩ := hcs
              have hd : ((best2 : Int) = 0) ∨ ¬ ((best2 : Int) = 0) ∧ (ws : Int) < (ls2 : Int) := by omega
              clear hcs
              rcases hd with hd | ⟨hd, hd2⟩
              all_goals
                go_wp2_with (first
                  | (go_at_call 35; refine (HW2.out _).mono ?_; rintro e w3 ⟨rfl, hb3⟩
                     have hb4 := below_next HBA.out hb3
                     have HB4 := Lib.hid (below_next HBB.out hb4)
                     have hr4 := HRO2.out.keep (hb4.block _ hlt9)
                     have HR4 := Lib.hid hr4
                     have HO4 := Lib.hid (own_keep HOW2.out fun g _ hlt => hb4.block g hlt)
                     have z0 := (hb3.cell (p := ⟨wr.heap.size, 0, none⟩) HLA.out).trans d0
                     have z1 := (hb3.cell (p := ⟨wr.heap.size, 1, none⟩) HLA.out).trans d1
                     have y0 := hr4.cell (k := 0) (by simp)
                     have y1 := hr4.cell (k := 1) (by simp)
                     have f0 := hr4.frozen 0
                     have f1 := hr4.frozen 1
                     simp only [List.getElem?_cons_zero, List.getElem?_cons_succ] at y0 y1
                     clear hb3 hb4 hr4)
                  | fail)
                have hne8 : g8 ≠ wr.heap.size := Nat.ne_of_lt hlt9
                refine wp_region_held_drew (S := fun W => W.cell? ⟨wr.heap.size, 0, none⟩ = some (.int .u64 (wb : Int)) ∧ W.cell? ⟨wr.heap.size, 1, none⟩ = some (.int .u64 (ws : Int))) (by kernel_rfl) ⟨z0, z1⟩ (fun hHeld => ?_)
                (refine held_take (i := 0) rfl rfl (by kernel_rfl) (by kernel_rfl) (by kernel_rfl) (fun _ _ _ h => h) (by rfl) (by intro w hSw; obtain ⟨hS1, hS2⟩ := hSw; go_simp; first | done | with_reducible rfl) (by assumption) ?_; try simp only [Act.put, List.setIfInBounds_toArray, List.set_cons_zero, List.set_cons_succ])
                (refine held_take (i := 1) rfl rfl (by kernel_rfl) (by kernel_rfl) (by kernel_rfl) (fun _ _ _ h => h) (by rfl) (by intro w hSw; obtain ⟨hS1, hS2⟩ := hSw; go_simp; first | done | with_reducible rfl) (by assumption) ?_; try simp only [Act.put, List.setIfInBounds_toArray, List.set_cons_zero, List.set_cons_succ])
                (refine held_take (i := 2) rfl rfl (by kernel_rfl) (by kernel_rfl) (by kernel_rfl) (fun _ _ _ h => h) (by rfl) (by intro w hSw; obtain ⟨hS1, hS2⟩ := hSw; go_simp; first | done | with_reducible rfl) (by assumption) ?_; try simp only [Act.put, List.setIfInBounds_toArray, List.set_cons_zero, List.set_cons_succ])
                refine wpAnyH_ready (rs := [3]) (by kernel_rfl) (by simp) ?_
                refine AllReadyH.cons rfl (fun K hK => ?_) AllReadyH.nil
                go_simp
                have hst : RowAt (((w3.drew).setCell ⟨g8, 0, none⟩ (.int .u64 (wb : Int))).setCell ⟨g8, 1, none⟩ (.int .u64 (ws : Int))) g8 31 [.int .u64 (wb : Int), .int .u64 (ws : Int)] := RowAt.store (xs := [.int .u64 (wb : Int), .int .u64 (ls2 : Int)]) (RowAt.store (w := w3.drew) (xs := [.int .u64 (lb2 : Int), .int .u64 (ls2 : Int)]) HR4.out 0 (.int .u64 (wb : Int))) 1 (.int .u64 (ws : Int))
                have HST := Lib.hid hst
                have hof : ∀ (x : Addr), x.block ≠ g8 → (((w3.drew).setCell ⟨g8, 0, none⟩ (.int .u64 (wb : Int))).setCell ⟨g8, 1, none⟩ (.int .u64 (ws : Int))).cell? x = w3.cell? x := fun x hx => by
                  rw [World.cell?_setCell_other _ _ _ _ (by intro e; subst e; exact hx rfl), World.cell?_setCell_other _ _ _ _ (by intro e; subst e; exact hx rfl)]; rfl
                have hbl : ∀ k, k ≠ g8 → (((w3.drew).setCell ⟨g8, 0, none⟩ (.int .u64 (wb : Int))).setCell ⟨g8, 1, none⟩ (.int .u64 (ws : Int))).heap[k]? = w3.heap[k]? := fun k hk =>
                  (Below.heap_setCell _ _ _ _ hk).trans (Below.heap_setCell _ _ _ _ hk)
                refine hK.out _ _ ⟨(hof _ (by exact fun e => hne8 e.symm)).trans z0, (hof _ (by exact fun e => hne8 e.symm)).trans z1⟩ (fun hHeld => ?_)
                clear hK K
                try simp only [Act.put, List.setIfInBounds_toArray, List.set_cons_zero, List.set_cons_succ]
                refine wpAnyH_done (by kernel_rfl) ?_ _
                have HO5 := Lib.hid (own_keep HO4.out fun g hg _ => hbl g (by have := (HO4.out.lt g hg).1; omega))
                have HB5 := Lib.hid (((HB4.out.drew).setCell (p := ⟨g8, 0, none⟩) hg8 (.int .u64 (wb : Int))).setCell (p := ⟨g8, 1, none⟩) hg8 (.int .u64 (ws : Int)))
                clear hst hof hbl hHeld z0 z1 y0 y1 f0 f1
                go_wp2_with fail
                exact ⟨⟨k + 1, j, ws, wb, by omega, by go_num, rfl, Nat.le_refl _, hx2, HFK.out, HST.out, HO5.out, HB5.out⟩, by simp [intOf]; omega⟩
          · obtain rfl : k = N := by omega
            rw [List.drop_eq_nil_of_le (by rw [HN.out]; exact Nat.le_refl _)] at hfk
            obtain rfl : (best2, ls2) = mid := hfk
            clear hro2 hown2 hb2
            go_wp2_with fail
            exact ⟨⟨j + 1, best2, ls2, lb2, by omega, by omega, by go_num, rfl, by omega, hls2, HFO.out, HRO2.out, HBB.out⟩, by simp [intOf]; omega⟩
      · obtain rfl : j = n := by omega
        rw [range_end] at hfo
        obtain rfl : (best, ls) = fin := hfo
        clear hro hb HF0
        by_cases hb0 : best = 0
        · subst hb0
          go_wp2_with fail
          go_ret2
          exact ⟨rfl, HB.out⟩
        · have e1 : ¬ (best : Int) = 0 := by omega
          have e2 : ((best : Int) == 0) = false := by rw [beq_eq_false_iff_ne]; exact e1
          have hf : (if best = 0 then ((0 : Nat), (6 : Int)) else (best, 0)) = (best, 0) := if_neg hb0
          have HF := Lib.hid hf
          clear hf
          go_wp2_with fail
          go_ret2
          first | exact ⟨rfl, HB.out⟩ | (refine ⟨?_, HB.out⟩; simp only [HF.out]; rfl) | (refine ⟨?_, HB.out⟩; simp [hb0])
end Go.Proofs.Ytndocngkganpdaa

set_option linter.unusedVariables false
namespace Go.Proofs.Ytndocngkganpdaa
open Go.RowKit
theorem within_one (a b s : Nat) : withinB a 1 b s = (decide (b ≤ a) && decide (a - b < s)) := by
  unfold withinB
  by_cases h1 : b ≤ a
  · by_cases h2 : a - b < s
    · rw [decide_eq_true h1, decide_eq_true h2, decide_eq_true (by omega)]; rfl
    · rw [decide_eq_false h2]; simp
  · rw [decide_eq_false h1]; simp
theorem outs_err (l : List Nd) (p : Nat) (ws : List (Nat × Nat)) (h : (outsF l p ws).2 ≠ 0) : (outsF l p ws).1 = [] := by
  cases ws with
  | nil => rfl
  | cons x R =>
    by_cases h1 : (outF l p x.1 x.2).2 = 0
    · by_cases h2 : (outsF l p R).2 = 0
      · rw [outs_ok h1 h2] at h; exact absurd rfl h
      · rw [outs_mid h1 h2]
    · rw [outs_bad h1]
theorem wins_err (l : List Nd) (i : Nat) (h : (windowsF l i).2 ≠ 0) : (windowsF l i).1 = [] := by
  unfold windowsF at h ⊢
  cases hr : regF l i with
  | none => rfl
  | some ws => rw [hr] at h; exact outs_err l _ ws h
set_option maxRecDepth 100000 in
set_option maxHeartbeats 16000000 in
theorem rowner_any (A : Option Addr) (cap n : Nat) (l : List Nm) (hn : n = l.length) (hsz : Sized l) (at_ : Nat) (hat : at_ < 18446744073709551616) (w : World) (B : Nat) (hB : B ≤ w.heap.size) (hs : Nodes w B A l) :
    Calls Try.prog 19 #[.slice A n cap, .int .u64 (at_ : Nat)] w fun e w' => e = .returned (.tuple #[.int .i64 ((ownE (dat l) at_).1 : Nat), .int .i64 (ownE (dat l) at_).2]) ∧ Below w.heap.size w w' := by
  have NO := tree3_any A cap n l hn hsz w B hB hs
  unfold ownE
  cases ht : treeB (dat l) with
  | false =>
    rw [ht] at NO
    have HNO := Lib.hid NO
    clear NO ht hn hsz hs
    go_enter Try.func19, Try.ntmps19
    go_wp2_with (first
      | (go_at_call 7; refine HNO.out.mono ?_; rintro e w1 ⟨rfl, hb1⟩
         have HB1 := Lib.hid hb1
         clear hb1)
      | fail)
    go_ret2
    exact ⟨rfl, HB1.out⟩
  | true =>
    rw [ht] at NO
    have hu := tree_ups ht
    have hlen := tree_len ht
    rw [dat_len, ← hn] at hlen
    have hshort := tree_short ht
    have WI : ∀ i : Nat, 0 < i → i < n → ∀ W, Below w.heap.size w W → Calls Try.prog 46 #[.slice A n cap, .int .i64 (i : Nat)] W fun e w' => WinR 37 (windowsF (dat l) i) W.heap.size e w' ∧ Below W.heap.size W w' := fun i h0 hi W hW => rwindows_any A cap n l hn (by omega) hsz hshort hu i h0 hi W B (Nat.le_trans hB hW.size) (hs.below (hW.mono hB))
    obtain ⟨fin, hfin⟩ : ∃ fin, fin = ownerB (dat l) at_ := ⟨_, rfl⟩
    have hf0 : ((List.range n).drop 1).foldl (ownP (dat l) at_) (0, 0) = fin := by rw [hfin]; unfold ownerB; rw [dat_len, ← hn]
    show Calls Try.prog 19 _ _ fun e w' => e = .returned (.tuple #[.int .i64 ((if (ownerB (dat l) at_).1 = 0 then ((0 : Nat), (6 : Int)) else ((ownerB (dat l) at_).1, 0)).1 : Nat), .int .i64 (if (ownerB (dat l) at_).1 = 0 then ((0 : Nat), (6 : Int)) else ((ownerB (dat l) at_).1, 0)).2]) ∧ _
    rw [← hfin]
    have hn0 : 1 ≤ n := by have := tree_pos ht; rw [dat_len] at this; omega
    have HNO := Lib.hid NO
    have HWI := Lib.hid WI
    have HF0 := Lib.hid hf0
    clear NO ht hn hsz hs WI hf0 hfin hu hshort
    go_enter Try.func19, Try.ntmps19
    go_wp2_with (first
      | (go_at_call 7; refine HNO.out.mono ?_; rintro e w1 ⟨rfl, hb1⟩
         have HB1 := Lib.hid hb1
         clear hb1)
      | fail)
    go_loopw [6, 7, 8] (fun bv sv iv wx => ∃ (j best ls : Nat), 1 ≤ j ∧ j ≤ n ∧ iv = .int .i64 j ∧ bv = .int .i64 best ∧ sv = .int .u64 ls ∧ best ≤ j ∧ ls < 18446744073709551616 ∧ ((List.range n).drop j).foldl (ownP (dat l) at_) (best, ls) = fin ∧ Below w.heap.size w wx) (fun _ _ iv _ => n - (intOf iv).toNat)
    case atStart => exact ⟨1, 0, 0, by omega, hn0, rfl, rfl, rfl, by omega, by omega, HF0.out, HB1.out⟩
    case round =>
      obtain ⟨j, best, ls, hj1, hjn, rfl, rfl, rfl, hbj, hls, hfo, hb⟩ := hrel
      have HB := Lib.hid hb
      by_cases hjlt : j < n
      · have hji : (j : Int) < (n : Int) := by omega
        rw [range_drop hjlt, List.foldl_cons] at hfo
        have CW := HWI.out j (by omega) hjlt wr hb
        have hwl := wins_lt (dat l) j
        have hwe := wins_err (dat l) j
        have hP : ownP (dat l) at_ (best, ls) j = if (windowsF (dat l) j).2 ≠ 0 then (best, ls) else (windowsF (dat l) j).1.foldl (ownS at_ j) (best, ls) := rfl
        rw [hP] at hfo
        generalize windowsF (dat l) j = X at *
        obtain ⟨L, we⟩ := X
        have CW' : Calls Try.prog 46 #[.slice A n cap, .int .i64 (j : Nat)] wr fun e w' => (∃ AL cL, e = .returned (.tuple #[.slice AL L.length cL, .int .i64 we]) ∧ w'.ownsRow wr.heap.size 37 2 (.slice AL L.length cL) L.length (winCells L)) ∧ Below wr.heap.size wr w' := CW
        have hmid : ((List.range n).drop (j + 1)).foldl (ownP (dat l) at_) (L.foldl (ownS at_ j) (best, ls)) = fin := by
          by_cases h : we = 0
          · rw [if_neg (fun hh => hh h)] at hfo; exact hfo
          · rw [if_pos h] at hfo
            obtain rfl : L = [] := hwe h
            exact hfo
        have hNe : L.length ≠ 0 → we = 0 := fun h => by
          by_cases h2 : we = 0
          · exact h2
          · exact absurd (by rw [show L = [] from hwe h2]; rfl) h
        obtain ⟨N, hN⟩ : ∃ N, N = L.length := ⟨_, rfl⟩
        rw [← hN] at CW' hNe
        have HCW := Lib.hid CW'
        have HN := Lib.hid hN
        have HWL := Lib.hid hwl
        have HNE := Lib.hid hNe
        obtain ⟨mid, hmi⟩ : ∃ mid, mid = L.foldl (ownS at_ j) (best, ls) := ⟨_, rfl⟩
        rw [← hmi] at hmid
        have HFO := Lib.hid hmid
        have HMID := Lib.hid hmi
        clear CW CW' hwl hwe hP hN hb hfo hmid hmi hNe
        obtain ⟨wo, hwo⟩ : ∃ wo : World, wo = wr := ⟨_, rfl⟩
        rw [← hwo] at HB HCW ⊢
        clear hwo
        go_wp2_with (first
          | (go_at_call 46; refine HCW.out.mono ?_; rintro e w2 ⟨⟨AL, cL, rfl, hown⟩, hb2⟩
             have HB3 := Lib.hid (below_next HB.out hb2)
             have HO := Lib.hid hown
             clear hb2 hown)
          | fail)
        have hNb : N ≤ maxLen := by
          rcases HO.out.2 with ⟨_, h⟩ | ⟨g, cap, cur, hv, h1, h2, h3, h4, _⟩
          · rw [h]; exact Nat.zero_le _
          · injection hv with _ hv
            exact Nat.le_trans h3 h4
        unfold maxLen at hNb
        go_loopw [6, 7, 11] (fun bv sv iv wx => ∃ (k best2 ls2 : Nat), k ≤ N ∧ iv = .int .i64 k ∧ bv = .int .i64 best2 ∧ sv = .int .u64 ls2 ∧ best2 ≤ j ∧ ls2 < 18446744073709551616 ∧ (L.drop k).foldl (ownS at_ j) (best2, ls2) = mid ∧ wx.ownsRow wo.heap.size 37 2 (.slice AL N cL) N (winCells L) ∧ Below w.heap.size w wx) (fun _ _ iv _ => N - (intOf iv).toNat)
        case atStart => exact ⟨0, best, ls, by omega, rfl, rfl, rfl, hbj, hls, HMID.out.symm, HO.out, HB3.out⟩
        case round =>
          obtain ⟨k, best2, ls2, hk, rfl, rfl, rfl, hb2j, hls2, hfk, hown2, hb2⟩ := hrel
          have HOW2 := Lib.hid hown2
          have HBB := Lib.hid hb2
          by_cases hkN : k < N
          · have hkL : k < L.length := by rw [← HN.out]; exact hkN
            have hki : (k : Int) < (N : Int) := by omega
            obtain rfl : we = 0 := HNE.out (by omega)
            rw [List.drop_eq_getElem_cons hkL, List.foldl_cons] at hfk
            obtain ⟨g, off, eA, hg, xa⟩ := (own_seg hown2).thing (f := wiCells) (m := 2) wi_len (by omega) hkL
            subst eA
            have x0 : wr.cell? ⟨g, off + k * 2, none⟩ = some (.int .u64 (L[k].1 : Int)) := xa 0 _ rfl
            have x1 : wr.cell? ⟨g, off + k * 2 + 1, none⟩ = some (.int .u64 (L[k].2 : Int)) := xa 1 _ rfl
            obtain ⟨hx1, hx2⟩ := HWL.out L[k] (List.getElem_mem hkL)
            have hS : ownS at_ j (best2, ls2) L[k] = if withinB at_ 1 L[k].1 L[k].2 && (best2 == 0 || decide (L[k].2 < ls2)) then (j, L[k].2) else (best2, ls2) := rfl
            rw [hS, within_one] at hfk
            generalize L[k].1 = wb at *
            generalize L[k].2 = ws at *
            have HFK := Lib.hid hfk
            clear hS xa hown2 hb2 hfk
            by_cases c1 : wb ≤ at_
            case neg =>
              have e1 : decide ((wb : Int) ≤ (at_ : Int)) = false := decide_eq_false (by omega)
              have e1n : decide (wb ≤ at_) = false := decide_eq_false c1
              have HF2 := Lib.hid (show (L.drop (k + 1)).foldl (ownS at_ j) (best2, ls2) = mid by have := HFK.out; rw [decide_eq_false c1] at this; exact this)
              clear c1 HFK
              go_wp2_with fail
              go_quiet (fail)
              go_wp2_with fail
              exact ⟨⟨k + 1, best2, ls2, by omega, by go_num, rfl, rfl, hb2j, hls2, HF2.out, HOW2.out, below_drewN HBB.out _⟩, by simp [intOf]; omega⟩
            have e1 : decide ((wb : Int) ≤ (at_ : Int)) = true := decide_eq_true (by omega)
            have e1n : decide (wb ≤ at_) = true := decide_eq_true c1
            have w1 : IntKind.u64.wrap ((at_ : Int) - (wb : Int)) = (at_ : Int) - (wb : Int) := by rw [IntKind.wrap_u64]; omega
            by_cases c2 : at_ - wb < ws
            case neg =>
              have e2 : decide ((at_ : Int) - (wb : Int) < (ws : Int)) = false := decide_eq_false (by omega)
              have HF2 := Lib.hid (show (L.drop (k + 1)).foldl (ownS at_ j) (best2, ls2) = mid by have := HFK.out; rw [decide_eq_true c1, decide_eq_false c2] at this; exact this)
              clear c1 c2 HFK
              go_wp2_with fail
              go_quiet (fail)
              go_wp2_with fail
              exact ⟨⟨k + 1, best2, ls2, by omega, by go_num, rfl, rfl, hb2j, hls2, HF2.out, HOW2.out, below_drewN HBB.out _⟩, by simp [intOf]; omega⟩
            have e2 : decide ((at_ : Int) - (wb : Int) < (ws : Int)) = true := decide_eq_true (by omega)
            by_cases c3 : best2 = 0
            · subst c3
              have HF2 := Lib.hid (show (L.drop (k + 1)).foldl (ownS at_ j) (j, ws) = mid by have := HFK.out; rw [decide_eq_true c1, decide_eq_true c2] at this; exact this)
              clear c1 c2 HFK
              go_wp2_with fail
              go_quiet (fail)
              go_wp2_with fail
              exact ⟨⟨k + 1, j, ws, by omega, by go_num, rfl, rfl, Nat.le_refl _, hx2, HF2.out, HOW2.out, below_drewN HBB.out _⟩, by simp [intOf]; omega⟩
            have e3 : ((best2 : Int) == 0) = false := by rw [beq_eq_false_iff_ne]; omega
            by_cases c4 : ws < ls2
            · have e4 : decide ((ws : Int) < (ls2 : Int)) = true := decide_eq_true (by omega)
              have e4n : decide (ws < ls2) = true := decide_eq_true c4
              have e5 : (ws : Int) < (ls2 : Int) := by omega
              have HF2 := Lib.hid (show (L.drop (k + 1)).foldl (ownS at_ j) (j, ws) = mid by have := HFK.out; rw [decide_eq_true c1, decide_eq_true c2, decide_eq_true c4, Bool.or_true] at this; exact this)
              clear c1 c2 HFK c4
              go_wp2_with fail
              go_quiet (fail)
              go_wp2_with fail
              exact ⟨⟨k + 1, j, ws, by omega, by go_num, rfl, rfl, Nat.le_refl _, hx2, HF2.out, HOW2.out, below_drewN HBB.out _⟩, by simp [intOf]; omega⟩
            · have e4 : decide ((ws : Int) < (ls2 : Int)) = false := decide_eq_false (by omega)
              have e4n : decide (ws < ls2) = false := decide_eq_false c4
              have HF2 := Lib.hid (show (L.drop (k + 1)).foldl (ownS at_ j) (best2, ls2) = mid by have := HFK.out; rw [decide_eq_true c1, decide_eq_true c2, decide_eq_false c4, show (best2 == 0) = false from by rw [beq_eq_false_iff_ne]; exact c3] at this; exact this)
              clear c1 c2 HFK c4
              go_wp2_with fail
              go_quiet (fail)
              go_wp2_with fail
              exact ⟨⟨k + 1, best2, ls2, by omega, by go_num, rfl, rfl, hb2j, hls2, HF2.out, HOW2.out, below_drewN HBB.out _⟩, by simp [intOf]; omega⟩
          · obtain rfl : k = N := by omega
            rw [List.drop_eq_nil_of_le (by rw [HN.out]; exact Nat.le_refl _)] at hfk
            obtain rfl : (best2, ls2) = mid := hfk
            clear hown2 hb2
            go_wp2_with fail
            exact ⟨⟨j + 1, best2, ls2, by omega, by omega, by go_num, rfl, rfl, by omega, hls2, HFO.out, HBB.out⟩, by simp [intOf]; omega⟩
      · obtain rfl : j = n := by omega
        rw [range_end] at hfo
        obtain rfl : (best, ls) = fin := hfo
        clear hb HF0
        by_cases hb0 : best = 0
        · subst hb0
          go_wp2_with fail
          go_ret2
          exact ⟨rfl, HB.out⟩
        · have e1 : ¬ (best : Int) = 0 := by omega
          have e2 : ((best : Int) == 0) = false := by rw [beq_eq_false_iff_ne]; exact e1
          have hf : (if best = 0 then ((0 : Nat), (6 : Int)) else (best, 0)) = (best, 0) := if_neg hb0
          have HF := Lib.hid hf
          clear hf
          go_wp2_with fail
          go_ret2
          first | exact ⟨rfl, HB.out⟩ | (refine ⟨?_, HB.out⟩; simp only [HF.out]; rfl) | (refine ⟨?_, HB.out⟩; simp [hb0])
end Go.Proofs.Ytndocngkganpdaa

set_option linter.unusedVariables false
namespace Go.Proofs.Ytndocngkganpdaa
open Go.RowKit
def awkB : List Pr := [⟨kA, ⟨#[0, 0, 0, 1]⟩⟩, ⟨kRng, ⟨#[0, 0, 0, 0, 0, 0, 0, 1, 0, 0, 0, 0, 0, 1, 0, 0]⟩⟩]
def awkU : List Pr := [⟨kReg, ⟨#[0, 0, 1, 0, 0, 0, 0, 32]⟩⟩]
def awkD : List Nd := [⟨-1, ⟨#[]⟩, []⟩, ⟨0, ⟨#[98]⟩, awkB⟩, ⟨1, ⟨#[117]⟩, awkU⟩]
theorem awk_tree : treeB awkD = true := by kernel_rfl
theorem awk_win : winE awkD 2 = ([(4294967552, 32)], 0) := by kernel_rfl
theorem awk_own : ownE awkD 4294967568 = (2, 0) := by kernel_rfl
def awkL (g : Nat) : List Nm := [⟨⟨-1, ⟨#[]⟩, []⟩, none, 0⟩, ⟨⟨0, ⟨#[98]⟩, awkB⟩, some ⟨g, 0, none⟩, 2⟩, ⟨⟨1, ⟨#[117]⟩, awkU⟩, some ⟨g + 1, 0, none⟩, 1⟩]
theorem awk_dat (g : Nat) : dat (awkL g) = awkD := rfl
theorem awk_sized (g : Nat) : Sized (awkL g) := by
  refine ⟨(by decide : 3 * 48 ≤ 140737488355328), ?_, ?_, ?_⟩
  · intro x hx
    rw [awk_dat] at hx
    have h : ∀ x ∈ awkD, x.n.size ≤ 100 ∧ ∀ y ∈ x.ps, y.n.size ≤ 100 ∧ y.v.size ≤ 100 := by decide
    refine ⟨by have := (h x hx).1; omega, fun y hy => ?_⟩
    have := (h x hx).2 y hy
    omega
  · intro x hx
    have h : x.d.ps.length ≤ 100 := by
      simp only [awkL, List.mem_cons, List.not_mem_nil, or_false] at hx
      rcases hx with rfl | rfl | rfl
      · exact (by decide : 0 ≤ 100)
      · exact (by decide : 2 ≤ 100)
      · exact (by decide : 1 ≤ 100)
    omega
  · intro x hx
    simp only [awkL, List.mem_cons, List.not_mem_nil, or_false] at hx
    rcases hx with rfl | rfl | rfl
    · exact (by decide : (Lit.int .i64 (-1)).wf = true)
    · exact (by decide : (Lit.int .i64 0).wf = true)
    · exact (by decide : (Lit.int .i64 1).wf = true)
def awkW (w : World) : World := ((w.alloc (.cells (prCells awkB).toArray 54)).alloc (.cells (prCells awkU).toArray 54)).alloc (.cells (nmCells (awkL w.heap.size)).toArray 42)
theorem seg_of_heap {w : World} {g B : Nat} {e : TypeId} {cs : List Value} (h : w.heap[g]? = some (.cells cs.toArray e (0, 0))) (hB : g < B) : Seg w B (some ⟨g, 0, none⟩) cs := fun _ => ⟨g, 0, rfl, hB, fun j u hu => by
  rw [Nat.zero_add, cell_of_row _ _ _ _ _ _ h]; simpa using hu⟩
theorem awk_nodes (w : World) : Nodes (awkW w) (awkW w).heap.size (some ⟨w.heap.size + 2, 0, none⟩) (awkL w.heap.size) := by
  have hz : (awkW w).heap.size = w.heap.size + 3 := by unfold awkW; simp
  have h2 : (awkW w).heap[w.heap.size + 2]? = some (.cells (nmCells (awkL w.heap.size)).toArray 42 (0, 0)) := by
    have := heap_alloc_new ((w.alloc (.cells (prCells awkB).toArray 54)).alloc (.cells (prCells awkU).toArray 54)) (.cells (nmCells (awkL w.heap.size)).toArray 42)
    rw [show ((w.alloc (.cells (prCells awkB).toArray 54)).alloc (.cells (prCells awkU).toArray 54)).heap.size = w.heap.size + 2 from by simp] at this
    exact this
  have h1 : (awkW w).heap[w.heap.size + 1]? = some (.cells (prCells awkU).toArray 54 (0, 0)) := by
    have := heap_alloc_new (w.alloc (.cells (prCells awkB).toArray 54)) (.cells (prCells awkU).toArray 54)
    rw [show (w.alloc (.cells (prCells awkB).toArray 54)).heap.size = w.heap.size + 1 from by simp] at this
    exact (Below.heap_alloc _ _ _ (by simp)).trans this
  have h0 : (awkW w).heap[w.heap.size]? = some (.cells (prCells awkB).toArray 54 (0, 0)) := by
    have := heap_alloc_new w (.cells (prCells awkB).toArray 54)
    exact ((Below.heap_alloc _ _ _ (by simp; omega)).trans (Below.heap_alloc _ _ _ (by simp))).trans this
  refine ⟨seg_of_heap h2 (by omega), fun x hx => ?_⟩
  simp only [awkL, List.mem_cons, List.not_mem_nil, or_false] at hx
  rcases hx with rfl | rfl | rfl
  · exact Seg.nil
  · exact seg_of_heap h0 (by omega)
  · exact seg_of_heap h1 (by omega)
theorem awk_below (w : World) : Below w.heap.size w (awkW w) := (((Below.refl _ w).alloc (Nat.le_refl _) _).alloc (by simp) _).alloc (by simp; omega) _
set_option maxRecDepth 100000 in
set_option maxHeartbeats 16000000 in
theorem awake_any (w : World) : Calls Try.prog 9 #[] w fun e w' => e = .returned (.bool true) ∧ Below w.heap.size w w' := by
  obtain ⟨W, hW⟩ : ∃ W, W = awkW w := ⟨_, rfl⟩
  have hn := awk_nodes w
  have hb := awk_below w
  rw [← hW] at hn hb
  have WI := pwindows_any (some ⟨w.heap.size + 2, 0, none⟩) 3 3 (awkL w.heap.size) rfl (awk_sized _) 2 W W.heap.size (Nat.le_refl _) hn
  rw [awk_dat, awk_win] at WI
  have OW := fun w2 (h : Below W.heap.size W w2) => powner_any (some ⟨w.heap.size + 2, 0, none⟩) 3 3 (awkL w.heap.size) rfl (awk_sized _) 4294967568 (by omega) w2 W.heap.size h.size (hn.below h)
  rw [awk_dat, awk_own] at OW
  have HWI := Lib.hid WI
  have HOW := Lib.hid OW
  have HB := Lib.hid hb
  clear WI OW hn hb
  go_enter Try.func9, Try.ntmps9
  go_wp2_with (first
    | (go_at_call 15; show Calls Try.prog 15 _ (awkW w) _; rw [← hW]; refine HWI.out.mono ?_; rintro e w1 ⟨⟨A1, c1, rfl, hown⟩, hb1⟩
       have HB1 := Lib.hid hb1
       have HO := Lib.hid hown
       clear hb1 hown)
    | (go_at_call 13; refine (HOW.out _ HB1.out).mono ?_; rintro e w2 ⟨rfl, hb2⟩
       have HB2 := Lib.hid (below_next HB1.out hb2)
       have hO2 := own_keep HO.out fun g _ hlt => hb2.block g hlt
       obtain ⟨g, eA, hg1, hg2, hrA⟩ := RowAt.of_own hO2 (by decide)
       have z0 : w2.cell? ⟨g, 0, none⟩ = some (.int .u64 4294967552) := (hrA.cell (k := 0) (by decide))
       have z1 : w2.cell? ⟨g, 1, none⟩ = some (.int .u64 32) := (hrA.cell (k := 1) (by decide))
       subst eA
       clear hb2 hO2)
    | fail)
  go_ret
  exact ⟨rfl, below_next HB.out HB2.out⟩
end Go.Proofs.Ytndocngkganpdaa

set_option linter.unusedVariables false
namespace Go.Proofs.Ytndocngkganpdaa
open Go.RowKit
set_option maxRecDepth 100000 in
set_option maxHeartbeats 4000000 in
theorem rsame_any (A : Option Addr) (c n : Nat) (la : List Nm) (hn : n = la.length) (hz : Sized la) (A' : Option Addr) (c' n' : Nat) (lb : List Nm) (hn' : n' = lb.length) (w : World) (B : Nat) (hB : B ≤ w.heap.size) (hs : Nodes w B A la) (hs' : Nodes w B A' lb) :
    Calls Try.prog 47 #[.slice A n c, .slice A' n' c'] w fun e w' => e = .returned (.bool (sameB (dat la) (dat lb))) ∧ Below w.heap.size w w' := by
  have hlen : n ≠ n' → sameB (dat la) (dat lb) = false := fun h => sb_len (by rw [dat_len, dat_len, ← hn, ← hn']; exact h)
  have hall : n = n' → (∀ (i : Nat) (ha : i < (dat la).length) (hb : i < (dat lb).length), i < n → sameNode (dat la)[i] (dat lb)[i] = true) → sameB (dat la) (dat lb) = true := fun e h =>
    sb_all (by rw [dat_len, dat_len, ← hn, ← hn']; exact e) fun i ha hb => h i ha hb (by rw [hn, ← dat_len]; exact ha)
  have htwo : ∀ (i : Nat) (ha : i < la.length) (hb : i < lb.length), Two (sameB (dat la) (dat lb)) la[i].d.p lb[i].d.p la[i].d.n lb[i].d.n la[i].d.ps.length lb[i].d.ps.length la[i].d.ps lb[i].d.ps := fun i ha hb => by
    have := two_of (a := dat la) (b := dat lb) (i := i) (by rw [dat_len]; exact ha) (by rw [dat_len]; exact hb)
    rw [dat_get la ha, dat_get lb hb] at this
    exact this
  have hnn : n ≤ 2932031007403 := by have := hz.n; omega
  obtain ⟨r, hr⟩ : ∃ r, r = sameB (dat la) (dat lb) := ⟨_, rfl⟩
  rw [← hr] at hlen hall ⊢
  simp only [← hr] at htwo
  have HLEN := Lib.hid hlen
  have HALL := Lib.hid hall
  have HTWO := Lib.hid htwo
  have HN := Lib.hid hn
  have HN' := Lib.hid hn'
  have HZ := Lib.hid hz
  have HS := Lib.hid hs
  have HS' := Lib.hid hs'
  clear hlen hall htwo hn hn' hz hs hs' hr
  by_cases hne : n = n'
  case neg =>
    obtain rfl : r = false := HLEN.out hne
    have e1 : ((n : Int) == (n' : Int)) = false := by rw [beq_eq_false_iff_ne]; omega
    go_enter Try.func47, Try.ntmps47
    go_wp2
    go_ret
    exact ⟨rfl, Below.refl _ _⟩
  subst hne
  go_enter Try.func47, Try.ntmps47
  go_wp2
  go_loopw [5] (fun iv wr => ∃ k : Nat, k ≤ n ∧ iv = .int .i64 k ∧ (∀ (i : Nat) (ha : i < (dat la).length) (hb : i < (dat lb).length), i < k → sameNode (dat la)[i] (dat lb)[i] = true) ∧ Below w.heap.size w wr) (fun iv _ => n - (intOf iv).toNat)
  case atStart => exact ⟨0, by omega, rfl, fun i _ _ h => absurd h (Nat.not_lt_zero i), Below.refl _ _⟩
  case round =>
    obtain ⟨k, hk, rfl, hok, hb⟩ := hrel
    have HOK := Lib.hid hok
    have HB := Lib.hid hb
    clear hok hb
    by_cases hlt : k < n
    · have hka : k < la.length := by rw [← HN.out]; exact hlt
      have hkb : k < lb.length := by rw [← HN'.out]; exact hlt
      have hki : (k : Int) < (n : Int) := by omega
      obtain ⟨b, off, rfl, hbB, x0, x1, x2, x3⟩ := (HS.out.below (HB.out.mono hB)).at_ hka
      obtain ⟨b', off', rfl, hbB', y0, y1, y2, y3⟩ := (HS'.out.below (HB.out.mono hB)).at_ hkb
      have htw := HTWO.out k hka hkb
      have hpb := HZ.out.props _ (List.getElem_mem hka)
      have hgo : la[k].d.p = lb[k].d.p → la[k].d.n = lb[k].d.n → sameProps la[k].d.ps lb[k].d.ps = true → ∀ (i : Nat) (ha : i < (dat la).length) (hb : i < (dat lb).length), i < k + 1 → sameNode (dat la)[i] (dat lb)[i] = true := fun e1 e2 e3 i ha hb hi => by
        rcases (show i < k ∨ i = k by omega) with h | rfl
        · exact HOK.out i ha hb h
        · rw [dat_get la hka, dat_get lb hkb]; exact sn_all e1 e2 e3
      generalize la[k] = x at *
      generalize lb[k] = y at *
      obtain ⟨⟨P, s, ps⟩, xA, xc⟩ := x
      obtain ⟨⟨Q, t, qs⟩, yA, yc⟩ := y
      simp only at x0 x1 x2 x3 y0 y1 y2 y3 htw hpb hgo
      obtain ⟨m, hm⟩ : ∃ m, m = ps.length := ⟨_, rfl⟩
      obtain ⟨m', hm'⟩ : ∃ m', m' = qs.length := ⟨_, rfl⟩
      rw [← hm] at x2 hpb htw
      rw [← hm'] at y2 htw
      have HTW := Lib.hid htw
      have HGO := Lib.hid hgo
      have HX := Lib.hid x3
      have HY := Lib.hid y3
      have HM := Lib.hid hm
      have HM' := Lib.hid hm'
      clear htw hgo x3 y3 hm hm'
      by_cases hpq : P = Q
      case neg =>
        obtain rfl : r = false := HTW.out.p hpq
        have f1 : (P != Q) = true := by simpa using hpq
        clear hpq
        go_wp2_with fail
        go_quiet (fail)
        go_wp2_with fail
        go_ret
        exact ⟨rfl, below_drewN HB.out _⟩
      subst hpq
      by_cases hst : s = t
      case neg =>
        obtain rfl : r = false := HTW.out.n hst
        have f1 : (s.toList == t.toList) = false := str_ne hst
        have f2 : (s.toList != t.toList) = true := by unfold bne; rw [f1]; rfl
        clear hst
        go_wp2_with fail
        go_quiet (fail)
        go_wp2_with fail
        go_ret
        exact ⟨rfl, below_drewN HB.out _⟩
      subst hst
      by_cases hmm : m = m'
      case neg =>
        obtain rfl : r = false := HTW.out.l hmm
        have f1 : ((m : Int) != (m' : Int)) = true := by rw [bne_iff_ne]; omega
        clear hmm
        go_wp2_with fail
        go_quiet (fail)
        go_wp2_with fail
        go_ret
        exact ⟨rfl, below_drewN HB.out _⟩
      subst hmm
      have hcx : ∀ w1, Below w.heap.size w w1 → w1.cell? ⟨b, off + k * 3 + 2, none⟩ = some (.slice xA m xc) ∧ w1.cell? ⟨b', off' + k * 3 + 2, none⟩ = some (.slice yA m yc) ∧ Seg w1 B xA (prCells ps) ∧ Seg w1 B yA (prCells qs) := fun w1 h1 =>
        ⟨cell_move x2 HB.out h1 (by show b < w.heap.size; omega), cell_move y2 HB.out h1 (by show b' < w.heap.size; omega), seg_move HX.out HB.out h1 hB, seg_move HY.out HB.out h1 hB⟩
      have HCX := Lib.hid hcx
      clear hcx
      go_wp2_with fail
      go_quiet (fail)
      go_wp2_with fail
      clear x0 x1 x2 y0 y1 y2
      go_loopw [6] (fun iv wx => ∃ j : Nat, j ≤ m ∧ iv = .int .i64 j ∧ (∀ (i : Nat) (ha : i < ps.length) (hb : i < qs.length), i < j → ps[i].n = qs[i].n ∧ ps[i].v = qs[i].v) ∧ Below w.heap.size w wx) (fun iv _ => m - (intOf iv).toNat)
      case atStart => exact ⟨0, by omega, rfl, fun i _ _ h => absurd h (Nat.not_lt_zero i), below_drewN HB.out _⟩
      case round =>
        obtain ⟨j, hj, rfl, heq, hbx⟩ := hrel
        have HEQ := Lib.hid heq
        have HBX := Lib.hid hbx
        obtain ⟨x2, y2, sx, sy⟩ := HCX.out _ hbx
        clear heq hbx
        by_cases hjm : j < m
        · have hjp : j < ps.length := by rw [← HM.out]; exact hjm
          have hjq : j < qs.length := by rw [← HM'.out]; exact hjm
          have hji : (j : Int) < (m : Int) := by omega
          obtain ⟨gx, ox, rfl, _, u0, u1⟩ := sx.pr hjp
          obtain ⟨gy, oy, rfl, _, v0, v1⟩ := sy.pr hjq
          have hbad := HTW.out.at_ j hjp hjq
          have hnext : ps[j].n = qs[j].n ∧ ps[j].v = qs[j].v → ∀ (i : Nat) (ha : i < ps.length) (hb : i < qs.length), i < j + 1 → ps[i].n = qs[i].n ∧ ps[i].v = qs[i].v := fun h i ha hb hi => by
            rcases (show i < j ∨ i = j by omega) with h2 | rfl
            · exact HEQ.out i ha hb h2
            · exact h
          generalize ps[j] = x at *
          generalize qs[j] = y at *
          obtain ⟨xn, xv⟩ := x
          obtain ⟨yn, yv⟩ := y
          simp only at u0 u1 v0 v1 hbad hnext
          have HBAD := Lib.hid hbad
          have HNX := Lib.hid hnext
          clear hbad hnext sx sy
          by_cases h1 : xn = yn
          case neg =>
            obtain rfl : r = false := HBAD.out (fun h => h1 h.1)
            have f1 : (xn.toList == yn.toList) = false := str_ne h1
            clear h1
            go_wp2_with fail
            go_quiet (fail)
            go_wp2_with fail
            go_ret
            exact ⟨rfl, below_drewN HBX.out _⟩
          subst h1
          by_cases h1 : xv = yv
          case neg =>
            obtain rfl : r = false := HBAD.out (fun h => h1 h.2)
            have f1 : (xv.toList == yv.toList) = false := str_ne h1
            clear h1
            go_wp2_with fail
            go_quiet (fail)
            go_wp2_with fail
            go_ret
            exact ⟨rfl, below_drewN HBX.out _⟩
          subst h1
          have hn2 := HNX.out ⟨by trivial, by trivial⟩
          have HN2 := Lib.hid hn2
          clear hn2
          go_wp2_with fail
          go_quiet (fail)
          go_wp2_with fail
          exact ⟨⟨j + 1, by omega, by go_num, HN2.out, below_drewN HBX.out _⟩, by simp [intOf]; omega⟩
        · obtain rfl : j = m := by omega
          have hk2 := HGO.out (by trivial) (by trivial) (sp_all (by rw [← HM.out, ← HM'.out]) fun i ha hb => HEQ.out i ha hb (by rw [HM.out]; exact ha))
          have HK2 := Lib.hid hk2
          clear hk2
          go_wp2_with fail
          exact ⟨⟨k + 1, by omega, by go_num, HK2.out, HBX.out⟩, by simp [intOf]; omega⟩
    · obtain rfl : k = n := by omega
      obtain rfl : r = true := HALL.out (by trivial) HOK.out
      go_wp2
      go_ret
      exact ⟨rfl, HB.out⟩
end Go.Proofs.Ytndocngkganpdaa
