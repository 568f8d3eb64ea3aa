/- ranges.Owner: the contract. -/
import Derived.Test.YtndocngkganpdaaRgExq
set_option linter.unusedVariables false
namespace Go.Proofs.Ytndocngkganpdaa
open Go.RowKit
/-- Who has an address, what is wrong. -/
def ownE (l : List Nd) (at_ : Nat) : Nat × Int := if treeB l then (if (ownerB l at_).1 = 0 then (0, 6) else ((ownerB l at_).1, 0)) else (0, 40)
theorem tree_pos {l : List Nd} (h : treeB l = true) : l.length ≠ 0 := fun h0 => by rw [tree_nil h0] at h; cases h
theorem wrong00 (l : List Nd) : wrongF l 0 0 = if treeB l then 0 else 40 := by
  unfold wrongF
  split
  · rename_i h
    have := tree_pos h
    rw [if_neg (by omega)]
  · rfl
theorem range_drop {n j : Nat} (h : j < n) : (List.range n).drop j = j :: (List.range n).drop (j + 1) := by
  rw [List.drop_eq_getElem_cons (by simpa using h)]
  simp
theorem range_end (n : Nat) : (List.range n).drop n = [] := List.drop_eq_nil_of_le (by simp)
/-- The windows of a place are of 64 bits. -/
theorem outF_lt (l : List Nd) (p b s : Nat) (h : b < 18446744073709551616) : (outF l p b s).1 < 18446744073709551616 := by
  have := thr_lt (l := l) (down := false) (wayF l p) b s h
  rw [thr_out] at this
  exact this
theorem outs_lt (l : List Nd) (p : Nat) : ∀ ws : List (Nat × Nat), (∀ x ∈ ws, x.1 < 18446744073709551616 ∧ x.2 < 18446744073709551616) → ∀ x ∈ (outsF l p ws).1, x.1 < 18446744073709551616 ∧ x.2 < 18446744073709551616
  | [], _, x, hx => by cases hx
  | w :: r, h, x, hx => by
    by_cases h1 : (outF l p w.1 w.2).2 = 0
    · by_cases h2 : (outsF l p r).2 = 0
      · rw [outs_ok h1 h2] at hx
        rcases List.mem_cons.1 hx with rfl | hx
        · exact ⟨outF_lt l p _ _ (h w (by simp)).1, (h w (by simp)).2⟩
        · exact outs_lt l p r (fun y hy => h y (by simp [hy])) x hx
      · rw [outs_mid h1 h2] at hx; cases hx
    · rw [outs_bad h1] at hx; cases hx
theorem wins_lt (l : List Nd) (i : Nat) : ∀ x ∈ (windowsF l i).1, x.1 < 18446744073709551616 ∧ x.2 < 18446744073709551616 := by
  unfold windowsF
  cases h : regF l i with
  | none => intro x hx; cases hx
  | some ws => exact outs_lt l _ ws (reg_lt h)
set_option maxRecDepth 100000 in
set_option maxHeartbeats 16000000 in
theorem powner_any (A : Option Addr) (cap n : Nat) (l : List Nm) (hn : n = l.length) (hsz : Sized l) (at_ : Nat) (hat : at_ < 18446744073709551616) (w : World) (B : Nat) (hB : B ≤ w.heap.size) (hs : Nodes w B A l) :
    Calls Try.prog 13 #[.slice A n cap, .int .u64 (at_ : Nat)] w fun e w' => e = .returned (.tuple #[.int .i64 ((ownE (dat l) at_).1 : Nat), .int .i64 (ownE (dat l) at_).2]) ∧ Below w.heap.size w w' := by
  have NO := node_any A cap n l hn hsz 0 0 w B hB hs
  rw [wrong00] at NO
  unfold ownE
  cases ht : treeB (dat l) with
  | false =>
    rw [ht] at NO
    have NO' : Calls Try.prog 28 #[.slice A n cap, .int .i64 0, .int .i64 0] w fun e w' => e = .returned (.int .i64 40) ∧ Below w.heap.size w w' := NO
    have HNO := Lib.hid NO'
    clear NO NO' ht hn hsz hs
    go_enter Try.func13, Try.ntmps13
    go_wp2_with (first
      | (go_at_call 28; refine HNO.out.mono ?_; rintro e w1 ⟨rfl, hb1⟩
         have HB1 := Lib.hid hb1
         clear hb1)
      | fail)
    go_ret2
    exact ⟨rfl, HB1.out⟩
  | true =>
    rw [ht] at NO
    have NO' : Calls Try.prog 28 #[.slice A n cap, .int .i64 0, .int .i64 0] w fun e w' => e = .returned (.int .i64 0) ∧ Below w.heap.size w w' := NO
    have hu := tree_ups ht
    have hlen := tree_len ht
    rw [dat_len, ← hn] at hlen
    have hshort := tree_short ht
    have WI : ∀ i : Nat, 0 < i → i < n → ∀ W, Below w.heap.size w W → Calls Try.prog 34 #[.slice A n cap, .int .i64 (i : Nat)] W fun e w' => WinR 31 (windowsF (dat l) i) W.heap.size e w' ∧ Below W.heap.size W w' := fun i h0 hi W hW => windows_any A cap n l hn (by omega) hsz hshort hu i h0 hi W B (Nat.le_trans hB hW.size) (hs.below (hW.mono hB))
    obtain ⟨fin, hfin⟩ : ∃ fin, fin = ownerB (dat l) at_ := ⟨_, rfl⟩
    have hf0 : ((List.range n).drop 1).foldl (ownP (dat l) at_) (0, 0) = fin := by rw [hfin]; unfold ownerB; rw [dat_len, ← hn]
    show Calls Try.prog 13 _ _ fun e w' => e = .returned (.tuple #[.int .i64 ((if (ownerB (dat l) at_).1 = 0 then ((0 : Nat), (6 : Int)) else ((ownerB (dat l) at_).1, 0)).1 : Nat), .int .i64 (if (ownerB (dat l) at_).1 = 0 then ((0 : Nat), (6 : Int)) else ((ownerB (dat l) at_).1, 0)).2]) ∧ _
    rw [← hfin]
    have hn0 : 1 ≤ n := by have := tree_pos ht; rw [dat_len] at this; omega
    have HNO := Lib.hid NO'
    have HWI := Lib.hid WI
    have HF0 := Lib.hid hf0
    clear NO NO' ht hn hsz hs WI hf0 hfin hu hshort
    go_enter Try.func13, Try.ntmps13
    go_wp2_with (first
      | (go_at_call 28; refine HNO.out.mono ?_; rintro e w1 ⟨rfl, hb1⟩
         have HB1 := Lib.hid hb1
         clear hb1)
      | fail)
    have R0 := Lib.hid (rowAt_box w1 31 [.int .u64 0, .int .u64 0])
    have HB2 := Lib.hid (HB1.out.alloc HB1.out.size (.cells #[.int .u64 0, .int .u64 0] 31))
    have hg8 : w.heap.size ≤ w1.heap.size := HB1.out.size
    generalize w1.heap.size = g8 at *
    go_loopw [7, 9] (fun bv iv wx => ∃ (j best ls lb : Nat), 1 ≤ j ∧ j ≤ n ∧ iv = .int .i64 j ∧ bv = .int .i64 best ∧ best ≤ j ∧ ls < 18446744073709551616 ∧ ((List.range n).drop j).foldl (ownP (dat l) at_) (best, ls) = fin ∧ RowAt wx g8 31 [.int .u64 (lb : Int), .int .u64 (ls : Int)] ∧ Below w.heap.size w wx) (fun _ iv _ => n - (intOf iv).toNat)
    case atStart => exact ⟨1, 0, 0, 0, by omega, hn0, rfl, rfl, by omega, by omega, HF0.out, R0.out, HB2.out⟩
    case round =>
      obtain ⟨j, best, ls, lb, hj1, hjn, rfl, rfl, hbj, hls, hfo, hro, hb⟩ := hrel
      have HRO := Lib.hid hro
      have HB := Lib.hid hb
      have hlt8 : g8 < wr.heap.size := hro.lt
      by_cases hjlt : j < n
      · have hji : (j : Int) < (n : Int) := by omega
        rw [range_drop hjlt, List.foldl_cons] at hfo
        have CW := HWI.out j (by omega) hjlt wr hb
        have hwl := wins_lt (dat l) j
        have hP : ownP (dat l) at_ (best, ls) j = if (windowsF (dat l) j).2 ≠ 0 then (best, ls) else (windowsF (dat l) j).1.foldl (ownS at_ j) (best, ls) := rfl
        rw [hP] at hfo
        generalize windowsF (dat l) j = X at *
        obtain ⟨L, we⟩ := X
        have CW' : Calls Try.prog 34 #[.slice A n cap, .int .i64 (j : Nat)] wr fun e w' => (∃ AL cL, e = .returned (.tuple #[.slice AL L.length cL, .int .i64 we]) ∧ w'.ownsRow wr.heap.size 31 2 (.slice AL L.length cL) L.length (winCells L)) ∧ Below wr.heap.size wr w' := CW
        obtain ⟨N, hN⟩ : ∃ N, N = L.length := ⟨_, rfl⟩
        rw [← hN] at CW'
        have HCW := Lib.hid CW'
        have HN := Lib.hid hN
        have HWL := Lib.hid hwl
        clear CW CW' hwl hP hN hro hb
        by_cases hwe : we = 0
        case neg =>
          have d1 : (we == 0) = false := by rw [beq_eq_false_iff_ne]; exact hwe
          rw [if_pos hwe] at hfo
          have HFO := Lib.hid hfo
          clear hfo
          go_wp2_with (first
            | (go_at_call 34; refine HCW.out.mono ?_; rintro e w2 ⟨⟨AL, cL, rfl, hown⟩, hb2⟩
               have HB3 := Lib.hid (below_next HB.out hb2)
               have HR3 := Lib.hid (HRO.out.keep (hb2.block _ hlt8))
               clear hb2 hown)
            | fail)
          exact ⟨⟨j + 1, best, ls, lb, by omega, by omega, by go_num, rfl, by omega, hls, HFO.out, HR3.out, HB3.out⟩, by simp [intOf]; omega⟩
        subst hwe
        rw [if_neg (fun h => h rfl)] at hfo
        obtain ⟨wo, hwo⟩ : ∃ wo : World, wo = wr := ⟨_, rfl⟩
        rw [← hwo] at hlt8 HB HRO HCW ⊢
        clear hwo
        obtain ⟨mid, hmid⟩ : ∃ mid, mid = L.foldl (ownS at_ j) (best, ls) := ⟨_, rfl⟩
        have hfo : ((List.range n).drop (j + 1)).foldl (ownP (dat l) at_) mid = fin := by rw [hmid]; exact hfo
        have HFO := Lib.hid hfo
        have HMID := Lib.hid hmid
        clear hfo hmid
        go_wp2_with (first
          | (go_at_call 34; refine HCW.out.mono ?_; rintro e w2 ⟨⟨AL, cL, rfl, hown⟩, hb2⟩
             have HB3 := Lib.hid (below_next HB.out hb2)
             have HR3 := Lib.hid (HRO.out.keep (hb2.block _ hlt8))
             have HO := Lib.hid hown
             clear hb2 hown)
          | fail)
        have hNb : N ≤ maxLen := by
          rcases HO.out.2 with ⟨_, h⟩ | ⟨g, cap, cur, hv, h1, h2, h3, h4, _⟩
          · rw [h]; exact Nat.zero_le _
          · injection hv with _ hv
            exact Nat.le_trans h3 h4
        unfold maxLen at hNb
        go_loopw [7, 36] (fun bv iv wx => ∃ (k best2 ls2 lb2 : Nat), k ≤ N ∧ iv = .int .i64 k ∧ bv = .int .i64 best2 ∧ best2 ≤ j ∧ ls2 < 18446744073709551616 ∧ (L.drop k).foldl (ownS at_ j) (best2, ls2) = mid ∧ RowAt wx g8 31 [.int .u64 (lb2 : Int), .int .u64 (ls2 : Int)] ∧ wx.ownsRow wo.heap.size 31 2 (.slice AL N cL) N (winCells L) ∧ Below w.heap.size w wx) (fun _ iv _ => N - (intOf iv).toNat)
        case atStart => exact ⟨0, best, ls, lb, by omega, rfl, rfl, hbj, hls, HMID.out.symm, HR3.out, HO.out, HB3.out⟩
        case round =>
          obtain ⟨k, best2, ls2, lb2, hk, rfl, rfl, hb2j, hls2, hfk, hro2, hown2, hb2⟩ := hrel
          have HRO2 := Lib.hid hro2
          have HOW2 := Lib.hid hown2
          have HBB := Lib.hid hb2
          have hlt9 : g8 < wr.heap.size := hro2.lt
          by_cases hkN : k < N
          · have hkL : k < L.length := by rw [← HN.out]; exact hkN
            have hki : (k : Int) < (N : Int) := by omega
            rw [List.drop_eq_getElem_cons hkL, List.foldl_cons] at hfk
            obtain ⟨g, off, eA, hg, xa⟩ := (own_seg hown2).thing (f := wiCells) (m := 2) wi_len (by omega) hkL
            subst eA
            have x0 : wr.cell? ⟨g, off + k * 2, none⟩ = some (.int .u64 (L[k].1 : Int)) := xa 0 _ rfl
            have x1 : wr.cell? ⟨g, off + k * 2 + 1, none⟩ = some (.int .u64 (L[k].2 : Int)) := xa 1 _ rfl
            obtain ⟨hx1, hx2⟩ := HWL.out L[k] (List.getElem_mem hkL)
            have hS : ownS at_ j (best2, ls2) L[k] = if withinB at_ 1 L[k].1 L[k].2 && (best2 == 0 || decide (L[k].2 < ls2)) then (j, L[k].2) else (best2, ls2) := rfl
            rw [hS] at hfk
            generalize L[k].1 = wb at *
            generalize L[k].2 = ws at *
            have WI := fun W => within_any at_ 1 wb ws hat (by omega) hx1 hx2 W
            obtain ⟨X, hX⟩ : ∃ X, X = withinB at_ 1 wb ws := ⟨_, rfl⟩
            rw [← hX] at hfk WI
            have HW2 := Lib.hid WI
            have d0 : (wr.alloc (.cells #[.int .u64 (wb : Int), .int .u64 (ws : Int)] 31)).cell? ⟨wr.heap.size, 0, none⟩ = some (.int .u64 (wb : Int)) := cell_of_row _ _ _ _ _ _ (heap_alloc_new wr _)
            have d1 : (wr.alloc (.cells #[.int .u64 (wb : Int), .int .u64 (ws : Int)] 31)).cell? ⟨wr.heap.size, 1, none⟩ = some (.int .u64 (ws : Int)) := cell_of_row _ _ _ _ _ _ (heap_alloc_new wr _)
            have hbA : Below wr.heap.size wr (wr.alloc (.cells #[.int .u64 (wb : Int), .int .u64 (ws : Int)] 31)) := (Below.refl _ wr).alloc (Nat.le_refl _) _
            have hltA : wr.heap.size < (wr.alloc (.cells #[.int .u64 (wb : Int), .int .u64 (ws : Int)] 31)).heap.size := by simp
            have HBA := Lib.hid hbA
            have HLA := Lib.hid hltA
            clear hX WI hS xa hro2 hown2 hb2 hbA hltA
            cases hT : X && (best2 == 0 || decide (ws < ls2)) with
            | false =>
              rw [hT] at hfk
              have HFK := Lib.hid hfk
              clear hfk
              have hcs : X = false ∨ X = true ∧ ¬ best2 = 0 ∧ ¬ ws < ls2 := by
                cases X
                · left; rfl
                · right
                  simp only [Bool.true_and, Bool.or_eq_false_iff, beq_eq_false_iff_ne, decide_eq_false_iff_not] at hT
                  exact ⟨rfl, hT.1, hT.2⟩
              clear hT
              rcases hcs with rfl | ⟨rfl, hb0, hw0⟩
              · go_wp2_with (first
                  | (go_at_call 35; refine (HW2.out _).mono ?_; rintro e w3 ⟨rfl, hb3⟩
                     have hb4 := below_next HBA.out hb3
                     have HB4 := Lib.hid (below_next HBB.out hb4)
                     have HR4 := Lib.hid (HRO2.out.keep (hb4.block _ hlt9))
                     have HO4 := Lib.hid (own_keep HOW2.out fun g _ hlt => hb4.block g hlt)
                     clear hb3 hb4)
                  | fail)
                exact ⟨⟨k + 1, best2, ls2, lb2, by omega, by go_num, rfl, hb2j, hls2, HFK.out, HR4.out, HO4.out, HB4.out⟩, by simp [intOf]; omega⟩
              · have e1 : ¬ (best2 : Int) = 0 := by omega
                have e2 : ¬ (ws : Int) < (ls2 : Int) := by omega
                go_wp2_with (first
                  | (go_at_call 35; refine (HW2.out _).mono ?_; rintro e w3 ⟨rfl, hb3⟩
                     have hb4 := below_next HBA.out hb3
                     have HB4 := Lib.hid (below_next HBB.out hb4)
                     have hr4 := HRO2.out.keep (hb4.block _ hlt9)
                     have HR4 := Lib.hid hr4
                     have HO4 := Lib.hid (own_keep HOW2.out fun g _ hlt => hb4.block g hlt)
                     have z1 := (hb3.cell (p := ⟨wr.heap.size, 1, none⟩) HLA.out).trans d1
                     have y1 := hr4.cell (k := 1) (by simp)
                     simp only [List.getElem?_cons_zero, List.getElem?_cons_succ] at y1
                     clear hb3 hb4 hr4)
                  | fail)
                exact ⟨⟨k + 1, best2, ls2, lb2, by omega, by go_num, rfl, hb2j, hls2, HFK.out, HR4.out, HO4.out, HB4.out⟩, by simp [intOf]; omega⟩
            | true =>
              rw [hT] at hfk
              have HFK := Lib.hid hfk
              clear hfk
              have hcs : X = true ∧ (best2 = 0 ∨ ¬ best2 = 0 ∧ ws < ls2) := by
                simp only [Bool.and_eq_true, Bool.or_eq_true, beq_iff_eq, decide_eq_true_eq] at hT
                refine ⟨hT.1, ?_⟩
                rcases hT.2 with h | h
                · exact .inl h
                · by_cases h0 : best2 = 0
                  · exact .inl h0
                  · exact .inr ⟨h0, h⟩
              clear hT
              obtain ⟨rfl, hcs⟩ := hcs
              have hd : ((best2 : Int) = 0) ∨ ¬ ((best2 : Int) = 0) ∧ (ws : Int) < (ls2 : Int) := by omega
              clear hcs
              rcases hd with hd | ⟨hd, hd2⟩
              all_goals
                go_wp2_with (first
                  | (go_at_call 35; refine (HW2.out _).mono ?_; rintro e w3 ⟨rfl, hb3⟩
                     have hb4 := below_next HBA.out hb3
                     have HB4 := Lib.hid (below_next HBB.out hb4)
                     have hr4 := HRO2.out.keep (hb4.block _ hlt9)
                     have HR4 := Lib.hid hr4
                     have HO4 := Lib.hid (own_keep HOW2.out fun g _ hlt => hb4.block g hlt)
                     have z0 := (hb3.cell (p := ⟨wr.heap.size, 0, none⟩) HLA.out).trans d0
                     have z1 := (hb3.cell (p := ⟨wr.heap.size, 1, none⟩) HLA.out).trans d1
                     have y0 := hr4.cell (k := 0) (by simp)
                     have y1 := hr4.cell (k := 1) (by simp)
                     have f0 := hr4.frozen 0
                     have f1 := hr4.frozen 1
                     simp only [List.getElem?_cons_zero, List.getElem?_cons_succ] at y0 y1
                     clear hb3 hb4 hr4)
                  | fail)
                have hne8 : g8 ≠ wr.heap.size := Nat.ne_of_lt hlt9
                refine wp_region_held_drew (S := fun W => W.cell? ⟨wr.heap.size, 0, none⟩ = some (.int .u64 (wb : Int)) ∧ W.cell? ⟨wr.heap.size, 1, none⟩ = some (.int .u64 (ws : Int))) (by kernel_rfl) ⟨z0, z1⟩ (fun hHeld => ?_)
                (refine held_take (i := 0) rfl rfl (by kernel_rfl) (by kernel_rfl) (by kernel_rfl) (fun _ _ _ h => h) (by rfl) (by intro w hSw; obtain ⟨hS1, hS2⟩ := hSw; go_simp; first | done | with_reducible rfl) (by assumption) ?_; try simp only [Act.put, List.setIfInBounds_toArray, List.set_cons_zero, List.set_cons_succ])
                (refine held_take (i := 1) rfl rfl (by kernel_rfl) (by kernel_rfl) (by kernel_rfl) (fun _ _ _ h => h) (by rfl) (by intro w hSw; obtain ⟨hS1, hS2⟩ := hSw; go_simp; first | done | with_reducible rfl) (by assumption) ?_; try simp only [Act.put, List.setIfInBounds_toArray, List.set_cons_zero, List.set_cons_succ])
                (refine held_take (i := 2) rfl rfl (by kernel_rfl) (by kernel_rfl) (by kernel_rfl) (fun _ _ _ h => h) (by rfl) (by intro w hSw; obtain ⟨hS1, hS2⟩ := hSw; go_simp; first | done | with_reducible rfl) (by assumption) ?_; try simp only [Act.put, List.setIfInBounds_toArray, List.set_cons_zero, List.set_cons_succ])
                refine wpAnyH_ready (rs := [3]) (by kernel_rfl) (by simp) ?_
                refine AllReadyH.cons rfl (fun K hK => ?_) AllReadyH.nil
                go_simp
                have hst : RowAt (((w3.drew).setCell ⟨g8, 0, none⟩ (.int .u64 (wb : Int))).setCell ⟨g8, 1, none⟩ (.int .u64 (ws : Int))) g8 31 [.int .u64 (wb : Int), .int .u64 (ws : Int)] := RowAt.store (xs := [.int .u64 (wb : Int), .int .u64 (ls2 : Int)]) (RowAt.store (w := w3.drew) (xs := [.int .u64 (lb2 : Int), .int .u64 (ls2 : Int)]) HR4.out 0 (.int .u64 (wb : Int))) 1 (.int .u64 (ws : Int))
                have HST := Lib.hid hst
                have hof : ∀ (x : Addr), x.block ≠ g8 → (((w3.drew).setCell ⟨g8, 0, none⟩ (.int .u64 (wb : Int))).setCell ⟨g8, 1, none⟩ (.int .u64 (ws : Int))).cell? x = w3.cell? x := fun x hx => by
                  rw [World.cell?_setCell_other _ _ _ _ (by intro e; subst e; exact hx rfl), World.cell?_setCell_other _ _ _ _ (by intro e; subst e; exact hx rfl)]; rfl
                have hbl : ∀ k, k ≠ g8 → (((w3.drew).setCell ⟨g8, 0, none⟩ (.int .u64 (wb : Int))).setCell ⟨g8, 1, none⟩ (.int .u64 (ws : Int))).heap[k]? = w3.heap[k]? := fun k hk =>
                  (Below.heap_setCell _ _ _ _ hk).trans (Below.heap_setCell _ _ _ _ hk)
                refine hK.out _ _ ⟨(hof _ (by exact fun e => hne8 e.symm)).trans z0, (hof _ (by exact fun e => hne8 e.symm)).trans z1⟩ (fun hHeld => ?_)
                clear hK K
                try simp only [Act.put, List.setIfInBounds_toArray, List.set_cons_zero, List.set_cons_succ]
                refine wpAnyH_done (by kernel_rfl) ?_ _
                have HO5 := Lib.hid (own_keep HO4.out fun g hg _ => hbl g (by have := (HO4.out.lt g hg).1; omega))
                have HB5 := Lib.hid (((HB4.out.drew).setCell (p := ⟨g8, 0, none⟩) hg8 (.int .u64 (wb : Int))).setCell (p := ⟨g8, 1, none⟩) hg8 (.int .u64 (ws : Int)))
                clear hst hof hbl hHeld z0 z1 y0 y1 f0 f1
                go_wp2_with fail
                exact ⟨⟨k + 1, j, ws, wb, by omega, by go_num, rfl, Nat.le_refl _, hx2, HFK.out, HST.out, HO5.out, HB5.out⟩, by simp [intOf]; omega⟩
          · obtain rfl : k = N := by omega
            rw [List.drop_eq_nil_of_le (by rw [HN.out]; exact Nat.le_refl _)] at hfk
            obtain rfl : (best2, ls2) = mid := hfk
            clear hro2 hown2 hb2
            go_wp2_with fail
            exact ⟨⟨j + 1, best2, ls2, lb2, by omega, by omega, by go_num, rfl, by omega, hls2, HFO.out, HRO2.out, HBB.out⟩, by simp [intOf]; omega⟩
      · obtain rfl : j = n := by omega
        rw [range_end] at hfo
        obtain rfl : (best, ls) = fin := hfo
        clear hro hb HF0
        by_cases hb0 : best = 0
        · subst hb0
          go_wp2_with fail
          go_ret2
          exact ⟨rfl, HB.out⟩
        · have e1 : ¬ (best : Int) = 0 := by omega
          have e2 : ((best : Int) == 0) = false := by rw [beq_eq_false_iff_ne]; exact e1
          have hf : (if best = 0 then ((0 : Nat), (6 : Int)) else (best, 0)) = (best, 0) := if_neg hb0
          have HF := Lib.hid hf
          clear hf
          go_wp2_with fail
          go_ret2
          first | exact ⟨rfl, HB.out⟩ | (refine ⟨?_, HB.out⟩; simp only [HF.out]; rfl) | (refine ⟨?_, HB.out⟩; simp [hb0])
end Go.Proofs.Ytndocngkganpdaa
