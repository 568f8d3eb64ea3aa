/- The document's Owner: the contract. -/
import Derived.Test.YtndocngkganpdaaRgOwn
set_option linter.unusedVariables false
namespace Go.Proofs.Ytndocngkganpdaa
open Go.RowKit
theorem within_one (a b s : Nat) : withinB a 1 b s = (decide (b ≤ a) && decide (a - b < s)) := by
  unfold withinB
  by_cases h1 : b ≤ a
  · by_cases h2 : a - b < s
    · rw [decide_eq_true h1, decide_eq_true h2, decide_eq_true (by omega)]; rfl
    · rw [decide_eq_false h2]; simp
  · rw [decide_eq_false h1]; simp
theorem outs_err (l : List Nd) (p : Nat) (ws : List (Nat × Nat)) (h : (outsF l p ws).2 ≠ 0) : (outsF l p ws).1 = [] := by
  cases ws with
  | nil => rfl
  | cons x R =>
    by_cases h1 : (outF l p x.1 x.2).2 = 0
    · by_cases h2 : (outsF l p R).2 = 0
      · rw [outs_ok h1 h2] at h; exact absurd rfl h
      · rw [outs_mid h1 h2]
    · rw [outs_bad h1]
theorem wins_err (l : List Nd) (i : Nat) (h : (windowsF l i).2 ≠ 0) : (windowsF l i).1 = [] := by
  unfold windowsF at h ⊢
  cases hr : regF l i with
  | none => rfl
  | some ws => rw [hr] at h; exact outs_err l _ ws h
set_option maxRecDepth 100000 in
set_option maxHeartbeats 16000000 in
theorem rowner_any (A : Option Addr) (cap n : Nat) (l : List Nm) (hn : n = l.length) (hsz : Sized l) (at_ : Nat) (hat : at_ < 18446744073709551616) (w : World) (B : Nat) (hB : B ≤ w.heap.size) (hs : Nodes w B A l) :
    Calls Try.prog 19 #[.slice A n cap, .int .u64 (at_ : Nat)] w fun e w' => e = .returned (.tuple #[.int .i64 ((ownE (dat l) at_).1 : Nat), .int .i64 (ownE (dat l) at_).2]) ∧ Below w.heap.size w w' := by
  have NO := tree3_any A cap n l hn hsz w B hB hs
  unfold ownE
  cases ht : treeB (dat l) with
  | false =>
    rw [ht] at NO
    have HNO := Lib.hid NO
    clear NO ht hn hsz hs
    go_enter Try.func19, Try.ntmps19
    go_wp2_with (first
      | (go_at_call 7; refine HNO.out.mono ?_; rintro e w1 ⟨rfl, hb1⟩
         have HB1 := Lib.hid hb1
         clear hb1)
      | fail)
    go_ret2
    exact ⟨rfl, HB1.out⟩
  | true =>
    rw [ht] at NO
    have hu := tree_ups ht
    have hlen := tree_len ht
    rw [dat_len, ← hn] at hlen
    have hshort := tree_short ht
    have WI : ∀ i : Nat, 0 < i → i < n → ∀ W, Below w.heap.size w W → Calls Try.prog 46 #[.slice A n cap, .int .i64 (i : Nat)] W fun e w' => WinR 37 (windowsF (dat l) i) W.heap.size e w' ∧ Below W.heap.size W w' := fun i h0 hi W hW => rwindows_any A cap n l hn (by omega) hsz hshort hu i h0 hi W B (Nat.le_trans hB hW.size) (hs.below (hW.mono hB))
    obtain ⟨fin, hfin⟩ : ∃ fin, fin = ownerB (dat l) at_ := ⟨_, rfl⟩
    have hf0 : ((List.range n).drop 1).foldl (ownP (dat l) at_) (0, 0) = fin := by rw [hfin]; unfold ownerB; rw [dat_len, ← hn]
    show Calls Try.prog 19 _ _ fun e w' => e = .returned (.tuple #[.int .i64 ((if (ownerB (dat l) at_).1 = 0 then ((0 : Nat), (6 : Int)) else ((ownerB (dat l) at_).1, 0)).1 : Nat), .int .i64 (if (ownerB (dat l) at_).1 = 0 then ((0 : Nat), (6 : Int)) else ((ownerB (dat l) at_).1, 0)).2]) ∧ _
    rw [← hfin]
    have hn0 : 1 ≤ n := by have := tree_pos ht; rw [dat_len] at this; omega
    have HNO := Lib.hid NO
    have HWI := Lib.hid WI
    have HF0 := Lib.hid hf0
    clear NO ht hn hsz hs WI hf0 hfin hu hshort
    go_enter Try.func19, Try.ntmps19
    go_wp2_with (first
      | (go_at_call 7; refine HNO.out.mono ?_; rintro e w1 ⟨rfl, hb1⟩
         have HB1 := Lib.hid hb1
         clear hb1)
      | fail)
    go_loopw [6, 7, 8] (fun bv sv iv wx => ∃ (j best ls : Nat), 1 ≤ j ∧ j ≤ n ∧ iv = .int .i64 j ∧ bv = .int .i64 best ∧ sv = .int .u64 ls ∧ best ≤ j ∧ ls < 18446744073709551616 ∧ ((List.range n).drop j).foldl (ownP (dat l) at_) (best, ls) = fin ∧ Below w.heap.size w wx) (fun _ _ iv _ => n - (intOf iv).toNat)
    case atStart => exact ⟨1, 0, 0, by omega, hn0, rfl, rfl, rfl, by omega, by omega, HF0.out, HB1.out⟩
    case round =>
      obtain ⟨j, best, ls, hj1, hjn, rfl, rfl, rfl, hbj, hls, hfo, hb⟩ := hrel
      have HB := Lib.hid hb
      by_cases hjlt : j < n
      · have hji : (j : Int) < (n : Int) := by omega
        rw [range_drop hjlt, List.foldl_cons] at hfo
        have CW := HWI.out j (by omega) hjlt wr hb
        have hwl := wins_lt (dat l) j
        have hwe := wins_err (dat l) j
        have hP : ownP (dat l) at_ (best, ls) j = if (windowsF (dat l) j).2 ≠ 0 then (best, ls) else (windowsF (dat l) j).1.foldl (ownS at_ j) (best, ls) := rfl
        rw [hP] at hfo
        generalize windowsF (dat l) j = X at *
        obtain ⟨L, we⟩ := X
        have CW' : Calls Try.prog 46 #[.slice A n cap, .int .i64 (j : Nat)] wr fun e w' => (∃ AL cL, e = .returned (.tuple #[.slice AL L.length cL, .int .i64 we]) ∧ w'.ownsRow wr.heap.size 37 2 (.slice AL L.length cL) L.length (winCells L)) ∧ Below wr.heap.size wr w' := CW
        have hmid : ((List.range n).drop (j + 1)).foldl (ownP (dat l) at_) (L.foldl (ownS at_ j) (best, ls)) = fin := by
          by_cases h : we = 0
          · rw [if_neg (fun hh => hh h)] at hfo; exact hfo
          · rw [if_pos h] at hfo
            obtain rfl : L = [] := hwe h
            exact hfo
        have hNe : L.length ≠ 0 → we = 0 := fun h => by
          by_cases h2 : we = 0
          · exact h2
          · exact absurd (by rw [show L = [] from hwe h2]; rfl) h
        obtain ⟨N, hN⟩ : ∃ N, N = L.length := ⟨_, rfl⟩
        rw [← hN] at CW' hNe
        have HCW := Lib.hid CW'
        have HN := Lib.hid hN
        have HWL := Lib.hid hwl
        have HNE := Lib.hid hNe
        obtain ⟨mid, hmi⟩ : ∃ mid, mid = L.foldl (ownS at_ j) (best, ls) := ⟨_, rfl⟩
        rw [← hmi] at hmid
        have HFO := Lib.hid hmid
        have HMID := Lib.hid hmi
        clear CW CW' hwl hwe hP hN hb hfo hmid hmi hNe
        obtain ⟨wo, hwo⟩ : ∃ wo : World, wo = wr := ⟨_, rfl⟩
        rw [← hwo] at HB HCW ⊢
        clear hwo
        go_wp2_with (first
          | (go_at_call 46; refine HCW.out.mono ?_; rintro e w2 ⟨⟨AL, cL, rfl, hown⟩, hb2⟩
             have HB3 := Lib.hid (below_next HB.out hb2)
             have HO := Lib.hid hown
             clear hb2 hown)
          | fail)
        have hNb : N ≤ maxLen := by
          rcases HO.out.2 with ⟨_, h⟩ | ⟨g, cap, cur, hv, h1, h2, h3, h4, _⟩
          · rw [h]; exact Nat.zero_le _
          · injection hv with _ hv
            exact Nat.le_trans h3 h4
        unfold maxLen at hNb
        go_loopw [6, 7, 11] (fun bv sv iv wx => ∃ (k best2 ls2 : Nat), k ≤ N ∧ iv = .int .i64 k ∧ bv = .int .i64 best2 ∧ sv = .int .u64 ls2 ∧ best2 ≤ j ∧ ls2 < 18446744073709551616 ∧ (L.drop k).foldl (ownS at_ j) (best2, ls2) = mid ∧ wx.ownsRow wo.heap.size 37 2 (.slice AL N cL) N (winCells L) ∧ Below w.heap.size w wx) (fun _ _ iv _ => N - (intOf iv).toNat)
        case atStart => exact ⟨0, best, ls, by omega, rfl, rfl, rfl, hbj, hls, HMID.out.symm, HO.out, HB3.out⟩
        case round =>
          obtain ⟨k, best2, ls2, hk, rfl, rfl, rfl, hb2j, hls2, hfk, hown2, hb2⟩ := hrel
          have HOW2 := Lib.hid hown2
          have HBB := Lib.hid hb2
          by_cases hkN : k < N
          · have hkL : k < L.length := by rw [← HN.out]; exact hkN
            have hki : (k : Int) < (N : Int) := by omega
            obtain rfl : we = 0 := HNE.out (by omega)
            rw [List.drop_eq_getElem_cons hkL, List.foldl_cons] at hfk
            obtain ⟨g, off, eA, hg, xa⟩ := (own_seg hown2).thing (f := wiCells) (m := 2) wi_len (by omega) hkL
            subst eA
            have x0 : wr.cell? ⟨g, off + k * 2, none⟩ = some (.int .u64 (L[k].1 : Int)) := xa 0 _ rfl
            have x1 : wr.cell? ⟨g, off + k * 2 + 1, none⟩ = some (.int .u64 (L[k].2 : Int)) := xa 1 _ rfl
            obtain ⟨hx1, hx2⟩ := HWL.out L[k] (List.getElem_mem hkL)
            have hS : ownS at_ j (best2, ls2) L[k] = if withinB at_ 1 L[k].1 L[k].2 && (best2 == 0 || decide (L[k].2 < ls2)) then (j, L[k].2) else (best2, ls2) := rfl
            rw [hS, within_one] at hfk
            generalize L[k].1 = wb at *
            generalize L[k].2 = ws at *
            have HFK := Lib.hid hfk
            clear hS xa hown2 hb2 hfk
            by_cases c1 : wb ≤ at_
            case neg =>
              have e1 : decide ((wb : Int) ≤ (at_ : Int)) = false := decide_eq_false (by omega)
              have e1n : decide (wb ≤ at_) = false := decide_eq_false c1
              have HF2 := Lib.hid (show (L.drop (k + 1)).foldl (ownS at_ j) (best2, ls2) = mid by have := HFK.out; rw [decide_eq_false c1] at this; exact this)
              clear c1 HFK
              go_wp2_with fail
              go_quiet (fail)
              go_wp2_with fail
              exact ⟨⟨k + 1, best2, ls2, by omega, by go_num, rfl, rfl, hb2j, hls2, HF2.out, HOW2.out, below_drewN HBB.out _⟩, by simp [intOf]; omega⟩
            have e1 : decide ((wb : Int) ≤ (at_ : Int)) = true := decide_eq_true (by omega)
            have e1n : decide (wb ≤ at_) = true := decide_eq_true c1
            have w1 : IntKind.u64.wrap ((at_ : Int) - (wb : Int)) = (at_ : Int) - (wb : Int) := by rw [IntKind.wrap_u64]; omega
            by_cases c2 : at_ - wb < ws
            case neg =>
              have e2 : decide ((at_ : Int) - (wb : Int) < (ws : Int)) = false := decide_eq_false (by omega)
              have HF2 := Lib.hid (show (L.drop (k + 1)).foldl (ownS at_ j) (best2, ls2) = mid by have := HFK.out; rw [decide_eq_true c1, decide_eq_false c2] at this; exact this)
              clear c1 c2 HFK
              go_wp2_with fail
              go_quiet (fail)
              go_wp2_with fail
              exact ⟨⟨k + 1, best2, ls2, by omega, by go_num, rfl, rfl, hb2j, hls2, HF2.out, HOW2.out, below_drewN HBB.out _⟩, by simp [intOf]; omega⟩
            have e2 : decide ((at_ : Int) - (wb : Int) < (ws : Int)) = true := decide_eq_true (by omega)
            by_cases c3 : best2 = 0
            · subst c3
              have HF2 := Lib.hid (show (L.drop (k + 1)).foldl (ownS at_ j) (j, ws) = mid by have := HFK.out; rw [decide_eq_true c1, decide_eq_true c2] at this; exact this)
              clear c1 c2 HFK
              go_wp2_with fail
              go_quiet (fail)
              go_wp2_with fail
              exact ⟨⟨k + 1, j, ws, by omega, by go_num, rfl, rfl, Nat.le_refl _, hx2, HF2.out, HOW2.out, below_drewN HBB.out _⟩, by simp [intOf]; omega⟩
            have e3 : ((best2 : Int) == 0) = false := by rw [beq_eq_false_iff_ne]; omega
            by_cases c4 : ws < ls2
            · have e4 : decide ((ws : Int) < (ls2 : Int)) = true := decide_eq_true (by omega)
              have e4n : decide (ws < ls2) = true := decide_eq_true c4
              have e5 : (ws : Int) < (ls2 : Int) := by omega
              have HF2 := Lib.hid (show (L.drop (k + 1)).foldl (ownS at_ j) (j, ws) = mid by have := HFK.out; rw [decide_eq_true c1, decide_eq_true c2, decide_eq_true c4, Bool.or_true] at this; exact this)
              clear c1 c2 HFK c4
              go_wp2_with fail
              go_quiet (fail)
              go_wp2_with fail
              exact ⟨⟨k + 1, j, ws, by omega, by go_num, rfl, rfl, Nat.le_refl _, hx2, HF2.out, HOW2.out, below_drewN HBB.out _⟩, by simp [intOf]; omega⟩
            · have e4 : decide ((ws : Int) < (ls2 : Int)) = false := decide_eq_false (by omega)
              have e4n : decide (ws < ls2) = false := decide_eq_false c4
              have HF2 := Lib.hid (show (L.drop (k + 1)).foldl (ownS at_ j) (best2, ls2) = mid by have := HFK.out; rw [decide_eq_true c1, decide_eq_true c2, decide_eq_false c4, show (best2 == 0) = false from by rw [beq_eq_false_iff_ne]; exact c3] at this; exact this)
              clear c1 c2 HFK c4
              go_wp2_with fail
              go_quiet (fail)
              go_wp2_with fail
              exact ⟨⟨k + 1, best2, ls2, by omega, by go_num, rfl, rfl, hb2j, hls2, HF2.out, HOW2.out, below_drewN HBB.out _⟩, by simp [intOf]; omega⟩
          · obtain rfl : k = N := by omega
            rw [List.drop_eq_nil_of_le (by rw [HN.out]; exact Nat.le_refl _)] at hfk
            obtain rfl : (best2, ls2) = mid := hfk
            clear hown2 hb2
            go_wp2_with fail
            exact ⟨⟨j + 1, best2, ls2, by omega, by omega, by go_num, rfl, rfl, by omega, hls2, HFO.out, HBB.out⟩, by simp [intOf]; omega⟩
      · obtain rfl : j = n := by omega
        rw [range_end] at hfo
        obtain rfl : (best, ls) = fin := hfo
        clear hb HF0
        by_cases hb0 : best = 0
        · subst hb0
          go_wp2_with fail
          go_ret2
          exact ⟨rfl, HB.out⟩
        · have e1 : ¬ (best : Int) = 0 := by omega
          have e2 : ((best : Int) == 0) = false := by rw [beq_eq_false_iff_ne]; exact e1
          have hf : (if best = 0 then ((0 : Nat), (6 : Int)) else (best, 0)) = (best, 0) := if_neg hb0
          have HF := Lib.hid hf
          clear hf
          go_wp2_with fail
          go_ret2
          first | exact ⟨rfl, HB.out⟩ | (refine ⟨?_, HB.out⟩; simp only [HF.out]; rfl) | (refine ⟨?_, HB.out⟩; simp [hb0])
end Go.Proofs.Ytndocngkganpdaa
