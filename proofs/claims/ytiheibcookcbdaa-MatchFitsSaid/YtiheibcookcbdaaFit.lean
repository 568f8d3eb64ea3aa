/- Fit, the document's and the program's: contracts. -/
import Derived.Test.YtiheibcookcbdaaRFits
import Derived.Test.YtiheibcookcbdaaOwnC
import Derived.Test.YtiheibcookcbdaaNoFitB
import Derived.Deep.DeepCutAuto
import Derived.Deep.CutRange
set_option linter.unusedVariables false
namespace Go.Proofs.Ytiheibcookcbdaa
open Go.RowKit
set_option maxRecDepth 100000 in
theorem rcards_any (A : Option Addr) (cap n : Nat) (l : List Cd) (hn : n = l.length) (hcap : n ≤ cap) (hz : CSized l) (w : World) (B : Nat) (hB : B ≤ w.heap.size) (hs : Cards w B A l) :
    Calls Try.prog 12 #[.slice A n cap] w fun e w' => e = .returned (.bool (allOk (cdat l))) ∧ Below w.heap.size w w' := by
  have hc := rcheck_any A cap n l hn hcap hz w B hB hs
  generalize allOk (cdat l) = ok at *
  have HC := Lib.hid hc
  clear hc hn hcap hz hs
  rcases ok with _ | _
  all_goals
    go_enter Try.func12, Try.ntmps12
    go_wp2_with (go_at_call 20; refine HC.out.mono ?_; rintro e w1 ⟨hr, hb1⟩; obtain ⟨k, rfl⟩ := hr; have HB1 := Lib.hid hb1; clear hb1)
    go_ret
    exact ⟨by rfl, HB1.out⟩
set_option maxRecDepth 100000 in
theorem cwrong_any (A : Option Addr) (cap n : Nat) (l : List Cd) (hn : n = l.length) (hz : CSized l) (w : World) (B : Nat) (hB : B ≤ w.heap.size) (hs : Cards w B A l) :
    Calls Try.prog 14 #[.slice A n cap] w fun e w' => e = .returned (.int .i64 (if allOk (cdat l) then 0 else 70)) ∧ Below w.heap.size w w' := by
  have hc := ccheck_any A cap n l hn hz w B hB hs
  generalize allOk (cdat l) = ok at *
  have HC := Lib.hid hc
  clear hc hn hz hs
  rcases ok with _ | _
  all_goals
    go_enter Try.func14, Try.ntmps14
    go_wp2_with (go_at_call 22; refine HC.out.mono ?_; rintro e w1 ⟨hr, hb1⟩; obtain ⟨k, rfl⟩ := hr; have HB1 := Lib.hid hb1; clear hb1)
    go_ret
    exact ⟨by rfl, HB1.out⟩
/-- A cell pair of the call's own, through what only makes memory. -/
theorem row_box {w w1 : World} {e : TypeId} {u v : Value} (hb : Below (w.heap.size + 1) (w.alloc (.cells #[u, v] e)) w1) : RowAt w1 w.heap.size e [u, v] ∧ Below w.heap.size w w1 :=
  ⟨RowAt.keep (w := w.alloc (.cells #[u, v] e)) ⟨_, heap_alloc_new _ _, rfl⟩ (hb.block _ (Nat.lt_succ_self _)), ((Below.refl w.heap.size w).alloc (Nat.le_refl _) (.cells #[u, v] e)).trans (hb.mono (Nat.le_succ _))⟩
theorem box_size {w w1 : World} {o : Obj} (hb : Below (w.heap.size + 1) (w.alloc o) w1) : w.heap.size + 1 ≤ w1.heap.size := by have := hb.size; simp at this; omega
theorem RowAt.two {w : World} {g : Nat} {e : TypeId} {u v : Value} (h : RowAt w g e [u, v]) : w.cell? ⟨g, 0, none⟩ = some u ∧ w.cell? ⟨g, 1, none⟩ = some v := ⟨h.cell (k := 0) (by simp), h.cell (k := 1) (by simp)⟩
set_option maxRecDepth 100000 in
set_option maxHeartbeats 4000000 in
theorem rfit_any (A : Option Addr) (cap n : Nat) (l : List Cd) (hn : n = l.length) (hcap : n ≤ cap) (hz : CSized l) (A' : Option Addr) (cap' m : Nat) (ts : List ByteArray) (hm : m = ts.length) (hml : m ≤ 8796093022208) (w : World) (B : Nat) (hB : B ≤ w.heap.size) (hs : Cards w B A l) (ht : Seg w B A' (strs ts)) :
    Calls Try.prog 6 #[.slice A n cap, .slice A' m cap'] w fun e w' => e = .returned (.tuple #[.agg #[.int .i64 (fitF (cdat l) ts).1, .int .i64 (fitF (cdat l) ts).2.1], .int .i64 (fitF (cdat l) ts).2.2]) ∧ Below w.heap.size w w' := by
  have hb0 : Below (w.heap.size + 1) (w.alloc (.cells #[.int .i64 0, .int .i64 0] 26)) (w.alloc (.cells #[.int .i64 0, .int .i64 0] 26)) := Below.refl _ _
  have hcl : ∀ w1, Below (w.heap.size + 1) (w.alloc (.cells #[.int .i64 0, .int .i64 0] 26)) w1 → Calls Try.prog 12 #[.slice A n cap] w1 fun e w' => e = .returned (.bool (allOk (cdat l))) ∧ Below (w.heap.size + 1) (w.alloc (.cells #[.int .i64 0, .int .i64 0] 26)) w' := fun w1 hb =>
    (rcards_any A cap n l hn hcap hz w1 B (Nat.le_trans hB (row_box hb).2.size) (hs.below ((row_box hb).2.mono hB))).mono fun e w' ⟨h1, h2⟩ => ⟨h1, hb.trans (h2.mono (box_size hb))⟩
  have hft : ∀ w1, Below (w.heap.size + 1) (w.alloc (.cells #[.int .i64 0, .int .i64 0] 26)) w1 → Calls Try.prog 13 #[.slice A n cap, .slice A' m cap'] w1 fun e w' => e = .returned (.agg #[.int .i64 (fitsF (cdat l) ts).1, .int .i64 (fitsF (cdat l) ts).2]) ∧ Below (w.heap.size + 1) (w.alloc (.cells #[.int .i64 0, .int .i64 0] 26)) w' := fun w1 hb =>
    (rfits_any A cap n l hn hz A' cap' m ts hm hml w1 B (Nat.le_trans hB (row_box hb).2.size) (hs.below ((row_box hb).2.mono hB)) (ht.below ((row_box hb).2.mono hB))).mono fun e w' ⟨h1, h2⟩ => ⟨h1, hb.trans (h2.mono (box_size hb))⟩
  have hbx := fun w1 (hb : Below (w.heap.size + 1) (w.alloc (.cells #[.int .i64 0, .int .i64 0] 26)) w1) => row_box hb
  unfold fitF
  generalize allOk (cdat l) = ok at *
  generalize fitsF (cdat l) ts = R at *
  obtain ⟨c, t⟩ := R
  simp only at hft ⊢
  have HB0 := Lib.hid hb0
  have HCL := Lib.hid hcl
  have HFT := Lib.hid hft
  have HBX := Lib.hid hbx
  clear hb0 hcl hft hbx hn hcap hz hm hs ht
  rcases ok with _ | _
  · go_enter Try.func6, Try.ntmps6
    go_wp2_with (go_at_call 12; refine (HCL.out _ HB0.out).mono ?_; rintro e w1 ⟨rfl, hb1⟩
                 have hr1 := (HBX.out _ hb1).1
                 obtain ⟨c0, c1⟩ := hr1.two
                 have f0 := hr1.frozen 0
                 have f1 := hr1.frozen 1
                 have HR1 := Lib.hid hr1
                 have HB1 := Lib.hid hb1
                 clear hb1 hr1)
    obtain ⟨d0, d1⟩ := ((HR1.out.store 0 (.int .i64 0)).store 1 (.int .i64 0)).two
    exact bodyPost_ret (v := .tuple #[.agg #[.int .i64 0, .int .i64 0], .int .i64 70]) (by simp [results, Try.results6, go_sem, d0, d1]) rfl ⟨rfl, ((HBX.out _ HB1.out).2.setCell (Nat.le_refl _) _).setCell (Nat.le_refl _) _⟩
  have hw : ∀ w2, Below (w.heap.size + 1) (w.alloc (.cells #[.int .i64 0, .int .i64 0] 26)) w2 → RowAt (w2.alloc (.cells #[.int .i64 c, .int .i64 t] 26)) w.heap.size 26 [.int .i64 0, .int .i64 0] ∧ Below w.heap.size w (w2.alloc (.cells #[.int .i64 c, .int .i64 t] 26)) := fun w2 h2 =>
    ⟨(row_box h2).1.alloc _, (row_box h2).2.alloc (by have := box_size h2; omega) _⟩
  have HW := Lib.hid hw
  clear hw
  by_cases hc : c < 0
  · have e1 : decide (c < 0) = true := by simp; omega
    rw [if_pos rfl, if_pos hc]
    go_enter Try.func6, Try.ntmps6
    go_wp2_with (first
      | (go_at_call 13; refine (HFT.out _ HB1.out).mono ?_; rintro e w2 ⟨rfl, hb2⟩
         obtain ⟨hr2, hbw⟩ := HW.out _ hb2
         obtain ⟨c0, c1⟩ := hr2.two
         have f0 := hr2.frozen 0
         have f1 := hr2.frozen 1
         have HR2 := Lib.hid hr2
         have HB2 := Lib.hid hbw
         clear hb2 hr2 hbw)
      | (go_at_call 12; refine (HCL.out _ HB0.out).mono ?_; rintro e w1 ⟨rfl, hb1⟩
         have HB1 := Lib.hid hb1
         clear hb1))
    obtain ⟨d0, d1⟩ := ((HR2.out.store 0 (.int .i64 0)).store 1 (.int .i64 0)).two
    exact bodyPost_ret (v := .tuple #[.agg #[.int .i64 0, .int .i64 0], .int .i64 6]) (by simp [results, Try.results6, go_sem, d0, d1]) rfl ⟨rfl, (HB2.out.setCell (Nat.le_refl _) _).setCell (Nat.le_refl _) _⟩
  · have e1 : decide (c < 0) = false := by simp; omega
    rw [if_pos rfl, if_neg hc]
    go_enter Try.func6, Try.ntmps6
    go_wp2_with (first
      | (go_at_call 13; refine (HFT.out _ HB1.out).mono ?_; rintro e w2 ⟨rfl, hb2⟩
         obtain ⟨hr2, hbw⟩ := HW.out _ hb2
         obtain ⟨c0, c1⟩ := hr2.two
         have f0 := hr2.frozen 0
         have f1 := hr2.frozen 1
         have HR2 := Lib.hid hr2
         have HB2 := Lib.hid hbw
         clear hb2 hr2 hbw)
      | (go_at_call 12; refine (HCL.out _ HB0.out).mono ?_; rintro e w1 ⟨rfl, hb1⟩
         have HB1 := Lib.hid hb1
         clear hb1))
    obtain ⟨d0, d1⟩ := ((HR2.out.store 0 (.int .i64 c)).store 1 (.int .i64 t)).two
    exact bodyPost_ret (v := .tuple #[.agg #[.int .i64 c, .int .i64 t], .int .i64 0]) (by simp [results, Try.results6, go_sem, d0, d1]) rfl ⟨rfl, (HB2.out.setCell (Nat.le_refl _) _).setCell (Nat.le_refl _) _⟩
theorem neq30 (c t : Int) (hc : 0 ≤ c) (W : World) : (binOp .eql 30 (.agg #[.int .i64 c, .int .i64 t]) (.agg #[.int .i64 (-1), .int .i64 0])).run Try.prog W = .ok (.bool false) W := by
  have h1 : (c == -1) = false := by rw [beq_eq_false_iff_ne]; omega
  have h2 : ¬ c = -1 := by omega
  go_simp
set_option maxRecDepth 100000 in
set_option maxHeartbeats 4000000 in
theorem cfit_any (A : Option Addr) (cap n : Nat) (l : List Cd) (hn : n = l.length) (hz : CSized l) (A' : Option Addr) (cap' m : Nat) (ts : List ByteArray) (hm : m = ts.length) (hml : m ≤ 8796093022208) (w : World) (B : Nat) (hB : B ≤ w.heap.size) (hs : Cards w B A l) (ht : Seg w B A' (strs ts)) :
    Calls Try.prog 7 #[.slice A n cap, .slice A' m cap'] w fun e w' => e = .returned (.tuple #[.agg #[.int .i64 (fitF (cdat l) ts).1, .int .i64 (fitF (cdat l) ts).2.1], .int .i64 (fitF (cdat l) ts).2.2]) ∧ Below w.heap.size w w' := by
  have hb0 : Below (w.heap.size + 1) (w.alloc (.cells #[.int .i64 0, .int .i64 0] 30)) (w.alloc (.cells #[.int .i64 0, .int .i64 0] 30)) := Below.refl _ _
  have hcl : ∀ w1, Below (w.heap.size + 1) (w.alloc (.cells #[.int .i64 0, .int .i64 0] 30)) w1 → Calls Try.prog 14 #[.slice A n cap] w1 fun e w' => e = .returned (.int .i64 (if allOk (cdat l) then 0 else 70)) ∧ Below (w.heap.size + 1) (w.alloc (.cells #[.int .i64 0, .int .i64 0] 30)) w' := fun w1 hb =>
    (cwrong_any A cap n l hn hz w1 B (Nat.le_trans hB (row_box hb).2.size) (hs.below ((row_box hb).2.mono hB))).mono fun e w' ⟨h1, h2⟩ => ⟨h1, hb.trans (h2.mono (box_size hb))⟩
  have hft : ∀ w1, Below (w.heap.size + 1) (w.alloc (.cells #[.int .i64 0, .int .i64 0] 30)) w1 → Calls Try.prog 15 #[.slice A n cap, .slice A' m cap'] w1 fun e w' => e = .returned (.agg #[.int .i64 (fitsF (cdat l) ts).1, .int .i64 (fitsF (cdat l) ts).2]) ∧ Below (w.heap.size + 1) (w.alloc (.cells #[.int .i64 0, .int .i64 0] 30)) w' := fun w1 hb =>
    (cfits_any A cap n l hn hz A' cap' m ts hm hml w1 B (Nat.le_trans hB (row_box hb).2.size) (hs.below ((row_box hb).2.mono hB)) (ht.below ((row_box hb).2.mono hB))).mono fun e w' ⟨h1, h2⟩ => ⟨h1, hb.trans (h2.mono (box_size hb))⟩
  have hbx := fun w1 (hb : Below (w.heap.size + 1) (w.alloc (.cells #[.int .i64 0, .int .i64 0] 30)) w1) => row_box hb
  unfold fitF
  generalize allOk (cdat l) = ok at *
  obtain ⟨R, hRE⟩ : ∃ R, R = fitsF (cdat l) ts := ⟨_, rfl⟩
  rw [← hRE]
  simp only [← hRE] at hft
  have HRE := Lib.hid hRE
  clear hRE
  obtain ⟨c, t⟩ := R
  simp only at hft ⊢
  have HB0 := Lib.hid hb0
  have HCL := Lib.hid hcl
  have HFT := Lib.hid hft
  have HBX := Lib.hid hbx
  clear hb0 hcl hft hbx hn hz hm hs ht
  rcases ok with _ | _
  · go_enter Try.func7, Try.ntmps7
    go_wp2_with (go_at_call 14; refine (HCL.out _ HB0.out).mono ?_; rintro e w1 ⟨rfl, hb1⟩
                 have hr1 := (HBX.out _ hb1).1
                 obtain ⟨c0, c1⟩ := hr1.two
                 have f0 := hr1.frozen 0
                 have f1 := hr1.frozen 1
                 have HR1 := Lib.hid hr1
                 have HB1 := Lib.hid hb1
                 clear hb1 hr1)
    obtain ⟨d0, d1⟩ := ((HR1.out.store 0 (.int .i64 0)).store 1 (.int .i64 0)).two
    exact bodyPost_ret (v := .tuple #[.agg #[.int .i64 0, .int .i64 0], .int .i64 70]) (by simp [results, Try.results7, go_sem, d0, d1]) rfl ⟨rfl, ((HBX.out _ HB1.out).2.setCell (Nat.le_refl _) _).setCell (Nat.le_refl _) _⟩
  have hways : (c = -1 ∧ t = 0) ∨ 0 ≤ c := by
    rcases from_ways (cdat l) ts 0 with h | h
    · have : fitsF (cdat l) ts = (-1, 0) := h
      rw [← HRE.out] at this
      injection this with h1 h2
      exact .inl ⟨h1, h2⟩
    · have h' : 0 ≤ (fitsF (cdat l) ts).1 := h
      rw [← HRE.out] at h'
      exact .inr h'
  have hw : ∀ w2, Below (w.heap.size + 1) (w.alloc (.cells #[.int .i64 0, .int .i64 0] 30)) w2 → ∀ w4, Below (w2.alloc (.cells #[.int .i64 c, .int .i64 t] 30)).drew.heap.size (w2.alloc (.cells #[.int .i64 c, .int .i64 t] 30)).drew w4 →
      RowAt w4 w.heap.size 30 [.int .i64 0, .int .i64 0] ∧ RowAt w4 w2.heap.size 30 [.int .i64 c, .int .i64 t] ∧ Below w.heap.size w w4 := fun w2 h2 w4 h4 => by
    have hs2 := box_size h2
    have hr : RowAt (w2.alloc (.cells #[.int .i64 c, .int .i64 t] 30)) w.heap.size 30 [.int .i64 0, .int .i64 0] := (row_box h2).1.alloc _
    have hq : RowAt (w2.alloc (.cells #[.int .i64 c, .int .i64 t] 30)) w2.heap.size 30 [.int .i64 c, .int .i64 t] := row_new w2 _ 30 _ rfl
    have hb : Below w.heap.size w (w2.alloc (.cells #[.int .i64 c, .int .i64 t] 30)) := (row_box h2).2.alloc (by omega) _
    exact ⟨hr.keep (h4.block _ (by have := hr.lt; exact this)), hq.keep (h4.block _ (by have := hq.lt; exact this)), hb.drew.trans (h4.mono hb.size)⟩
  have HW := Lib.hid hw
  clear hw
  have hrow := fun (w2 : World) => (row_new w2 #[.int .i64 c, .int .i64 t] 30 _ rfl).two
  have HROW := Lib.hid hrow
  clear hrow
  rcases hways with ⟨rfl, rfl⟩ | hc
  · have hq := eql30
    rw [if_pos rfl, if_pos (by decide)]
    go_enter Try.func7, Try.ntmps7
    go_upto_region 5 with (first
      | (go_at_call 15; refine (HFT.out _ HB1.out).mono ?_; rintro e w2 ⟨rfl, hb2⟩
         have HB2 := Lib.hid hb2
         clear hb2)
      | (go_at_call 14; refine (HCL.out _ HB0.out).mono ?_; rintro e w1 ⟨rfl, hb1⟩
         have HB1 := Lib.hid hb1
         clear hb1)
      | fail)
    obtain ⟨x0, x1⟩ := HROW.out w2
    go_region_held3 (fun W => W.cell? ⟨w2.heap.size, 0, none⟩ = some (.int .i64 (-1)) ∧ W.cell? ⟨w2.heap.size, 1, none⟩ = some (.int .i64 0)) (first | exact ⟨x0, x1⟩ | exact ⟨y0, y1⟩) (first
      | (go_at_call 16; refine (none_any _).mono ?_; rintro e w6 ⟨rfl, hb6⟩
         obtain ⟨hr4, hq4, hb4⟩ := HW.out _ HB2.out _ hb6
         obtain ⟨y0, y1⟩ := hq4.two
         obtain ⟨c0, c1⟩ := hr4.two
         have f0 := hr4.frozen 0
         have f1 := hr4.frozen 1
         have HR4 := Lib.hid hr4
         have HB4 := Lib.hid hb4
         clear hb6 hr4 hq4 hb4)
      | fail)
    go_wp2_with fail
    obtain ⟨d0, d1⟩ := ((HR4.out.store 0 (.int .i64 0)).store 1 (.int .i64 0)).two
    exact bodyPost_ret (v := .tuple #[.agg #[.int .i64 0, .int .i64 0], .int .i64 6]) (by simp [results, Try.results7, go_sem, d0, d1]) rfl ⟨rfl, (HB4.out.setCell (Nat.le_refl _) _).setCell (Nat.le_refl _) _⟩
  · have hq := fun W => neq30 c t hc W
    rw [if_pos rfl, if_neg (by omega)]
    go_enter Try.func7, Try.ntmps7
    go_upto_region 5 with (first
      | (go_at_call 15; refine (HFT.out _ HB1.out).mono ?_; rintro e w2 ⟨rfl, hb2⟩
         have HB2 := Lib.hid hb2
         clear hb2)
      | (go_at_call 14; refine (HCL.out _ HB0.out).mono ?_; rintro e w1 ⟨rfl, hb1⟩
         have HB1 := Lib.hid hb1
         clear hb1)
      | fail)
    obtain ⟨x0, x1⟩ := HROW.out w2
    go_region_held3 (fun W => W.cell? ⟨w2.heap.size, 0, none⟩ = some (.int .i64 c) ∧ W.cell? ⟨w2.heap.size, 1, none⟩ = some (.int .i64 t)) (first | exact ⟨x0, x1⟩ | exact ⟨y0, y1⟩) (first
      | (go_at_call 16; refine (none_any _).mono ?_; rintro e w6 ⟨rfl, hb6⟩
         obtain ⟨hr4, hq4, hb4⟩ := HW.out _ HB2.out _ hb6
         obtain ⟨y0, y1⟩ := hq4.two
         obtain ⟨c0, c1⟩ := hr4.two
         have f0 := hr4.frozen 0
         have f1 := hr4.frozen 1
         have HR4 := Lib.hid hr4
         have HB4 := Lib.hid hb4
         clear hb6 hr4 hq4 hb4)
      | fail)
    go_wp2_with fail
    obtain ⟨d0, d1⟩ := ((HR4.out.store 0 (.int .i64 c)).store 1 (.int .i64 t)).two
    exact bodyPost_ret (v := .tuple #[.agg #[.int .i64 c, .int .i64 t], .int .i64 0]) (by simp [results, Try.results7, go_sem, d0, d1]) rfl ⟨rfl, (HB4.out.setCell (Nat.le_refl _) _).setCell (Nat.le_refl _) _⟩
end Go.Proofs.Ytiheibcookcbdaa
