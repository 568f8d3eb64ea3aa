/- MatchNames: the walk. -/
import Derived.Test.YtiheibcookcbdaaNoFitB
import Derived.Test.YtiheibcookcbdaaQuirk
set_option linter.unusedVariables false
namespace Go.Proofs.Ytiheibcookcbdaa
open Go.RowKit
def nms : List ByteArray := [bSlow, bHalf, bDouble, bOdd]
def nmCells : List Value := [.string bSlow, .string bHalf, .string bDouble, .string bOdd]
theorem nm_at {i : Nat} (h : i < 4) : ∃ k : ByteArray, nmCells[i]? = some (.string k) ∧ (k = bSlow ∨ k = bHalf ∨ k = bDouble ∨ k = bOdd) := by
  match i, h with
  | 0, _ => exact ⟨_, rfl, .inl rfl⟩
  | 1, _ => exact ⟨_, rfl, .inr (.inl rfl)⟩
  | 2, _ => exact ⟨_, rfl, .inr (.inr (.inl rfl))⟩
  | 3, _ => exact ⟨_, rfl, .inr (.inr (.inr rfl))⟩
/-- The three lists of names, while the first is written over. -/
structure NmK (W w0 : World) (g i : Nat) : Prop where
  low : Below w0.heap.size w0 W
  base : w0.heap.size = g
  a : ∃ ya, RowAt W g 9 ya ∧ ya.length = 4 ∧ ∀ j, i ≤ j → ya[j]? = nmCells[j]?
  b : RowAt W (g + 1) 9 nmCells
  c : RowAt W (g + 1 + 1) 9 nmCells
theorem NmK.below {W W' w0 : World} {g i : Nat} (h : NmK W w0 g i) (hb : Below W.heap.size W W') : NmK W' w0 g i := by
  obtain ⟨ya, h1, h2, h3⟩ := h.a
  exact ⟨h.low.trans (hb.mono h.low.size), h.base, ⟨ya, h1.keep (hb.block _ h1.lt), h2, h3⟩, h.b.keep (hb.block _ h.b.lt), h.c.keep (hb.block _ h.c.lt)⟩
theorem NmK.set {W w0 : World} {g i : Nat} (h : NmK W w0 g i) (v : Value) : NmK (W.setCell ⟨g, i, none⟩ v) w0 g (i + 1) := by
  obtain ⟨ya, h1, h2, h3⟩ := h.a
  have hg := h.base
  refine ⟨h.low.setCell (p := ⟨g, i, none⟩) (by show _ ≤ g; omega) v, h.base, ⟨ya.set i v, h1.store i v, by rw [List.length_set]; exact h2, fun j hj => ?_⟩, h.b.setOther ⟨g, i, none⟩ (by show g ≠ g + 1; omega) v, h.c.setOther ⟨g, i, none⟩ (by show g ≠ g + 1 + 1; omega) v⟩
  rw [List.getElem?_set_ne (by omega)]
  exact h3 j (by omega)
theorem nmk_start (w : World) : NmK (((w.alloc (.cells #[.string bSlow, .string bHalf, .string bDouble, .string bOdd] 9)).alloc (.cells #[.string bSlow, .string bHalf, .string bDouble, .string bOdd] 9)).alloc (.cells #[.string bSlow, .string bHalf, .string bDouble, .string bOdd] 9)) w w.heap.size 0 := by
  refine ⟨(((Below.refl _ _).alloc (Nat.le_refl _) _).alloc (by simp) _).alloc (by simp; omega) _, rfl, ⟨nmCells, ?_, rfl, fun j _ => rfl⟩, ?_, ⟨_, heap_new _ _ _ (by simp), rfl⟩⟩
  · refine RowAt.keep (w := w.alloc (.cells #[.string bSlow, .string bHalf, .string bDouble, .string bOdd] 9)) ⟨_, heap_alloc_new _ _, rfl⟩ ?_
    rw [Below.heap_alloc _ _ _ (by simp; omega), Below.heap_alloc _ _ _ (by simp)]
  · refine RowAt.keep (w := (w.alloc (.cells #[.string bSlow, .string bHalf, .string bDouble, .string bOdd] 9)).alloc (.cells #[.string bSlow, .string bHalf, .string bDouble, .string bOdd] 9)) ⟨_, heap_new _ _ _ (by simp), rfl⟩ ?_
    rw [Below.heap_alloc _ _ _ (by simp)]
theorem func_nil (g : Nat) (lb : Array Value) (W : World) : (binOp .eql 40 (.func (.func g) #[] lb) .nilFunc).run Try.prog W = .ok (.bool false) W := by
  first
  | rfl
  | (simp [binOp, Op.equal, run_underlying Try.underlying40]; done)
  | (unfold binOp; simp [go_sem, run_underlying Try.underlying40])
set_option maxRecDepth 100000 in
set_option maxHeartbeats 4000000 in
theorem names_any (w : World) : Calls Try.prog 4 #[] w fun e w' => e = .returned (.bool true) ∧ Below w.heap.size w w' := by
  have hk0 := nmk_start w
  unfold bSlow bHalf bDouble bOdd at hk0
  have HK0 := Lib.hid hk0
  have hq := quirkNames_any
  unfold bSlow bHalf bDouble bOdd at hq
  have HQ := Lib.hid hq
  clear hk0 hq
  go_enter Try.func4, Try.ntmps4
  go_wp2_with (first
    | (go_at_call 10; refine (HQ.out _).mono ?_; rintro e w' ⟨rfl, rfl⟩)
    | fail)
  generalize ((w.alloc (.cells #[.string ⟨#[115, 108, 111, 119]⟩, .string ⟨#[104, 97, 108, 102]⟩, .string ⟨#[100, 111, 117, 98, 108, 101]⟩, .string ⟨#[111, 100, 100]⟩] 9)).alloc (.cells #[.string ⟨#[115, 108, 111, 119]⟩, .string ⟨#[104, 97, 108, 102]⟩, .string ⟨#[100, 111, 117, 98, 108, 101]⟩, .string ⟨#[111, 100, 100]⟩] 9)).alloc (.cells #[.string ⟨#[115, 108, 111, 119]⟩, .string ⟨#[104, 97, 108, 102]⟩, .string ⟨#[100, 111, 117, 98, 108, 101]⟩, .string ⟨#[111, 100, 100]⟩] 9) = w1 at *
  obtain ⟨g, hg⟩ : ∃ g, g = w.heap.size := ⟨_, rfl⟩
  rw [← hg] at HK0 ⊢
  clear hg
  go_loopw [4] (fun iv wr => ∃ i : Nat, i ≤ 4 ∧ iv = .int .i64 i ∧ NmK wr w g i) (fun iv _ => 4 - (intOf iv).toNat)
  case atStart => exact ⟨0, by omega, rfl, HK0.out⟩
  case round =>
    obtain ⟨i, hi, rfl, hk⟩ := hrel
    clear HK0
    have HK := Lib.hid hk
    by_cases hi4 : i < 4
    · have hii : (i : Int) < 4 := by omega
      obtain ⟨k, hnk, hkk⟩ := nm_at hi4
      obtain ⟨ya, h1, h2, h3⟩ := hk.a
      have c0 := (h1.cell (k := i) (by omega)).trans ((h3 i (Nat.le_refl _)).trans hnk)
      have HKK := Lib.hid hkk
      have HNK := Lib.hid hnk
      clear h1 h2 h3 hnk hkk hk
      go_upto_region 10 with (first
        | (go_at_call 11; refine (quirk_any _ k HKK.out).mono ?_; rintro e w3 ⟨gq, lb, rfl, hb3⟩
           have hk3 := HK.out.below hb3
           have HK3 := Lib.hid hk3
           clear hb3 hk3)
        | fail)
      obtain ⟨ya3, h1, h2, h3⟩ := HK3.out.a
      have c1 := (h1.cell (k := i) (by omega)).trans ((h3 i (Nat.le_refl _)).trans HNK.out)
      have f1 := h1.frozen i
      have c2 := (HK3.out.b.cell (k := i) (by simp [nmCells]; omega)).trans HNK.out
      have c3 := (HK3.out.c.cell (k := i) (by simp [nmCells]; omega)).trans HNK.out
      have hkk1 : (k == k) = true := (MapKept.bytes_beq k k).2 rfl
      have hkk2 : (k != k) = false := by rw [bne, hkk1]; rfl
      have hfn := func_nil gq lb
      clear h1 h2 h3 c0
      go_quiet (fail)
      clear hfn
      have hk4 : NmK (w3.drewN nq) w g i := HK3.out.below ⟨rfl, rfl, rfl, Nat.le_refl _, fun _ _ => rfl⟩
      obtain ⟨w4, hw4⟩ : ∃ w4, w4 = w3.drewN nq := ⟨_, rfl⟩
      rw [← hw4] at hk4 ⊢
      have d1 : w4.cell? ⟨g, i, none⟩ = some (.string k) := by rw [hw4]; exact c1
      have e1 : w4.frozen? ⟨g, i, none⟩ = false := by rw [hw4]; exact f1
      have d2 : ∀ v, (w4.setCell ⟨g, i, none⟩ v).cell? ⟨g + 1, i, none⟩ = some (.string k) := fun v => (World.cell?_setCell_far _ _ _ _ (by show g ≠ g + 1; omega)).trans (by rw [hw4]; exact c2)
      have d3 : ∀ v, (w4.setCell ⟨g, i, none⟩ v).cell? ⟨g + 1 + 1, i, none⟩ = some (.string k) := fun v => (World.cell?_setCell_far _ _ _ _ (by show g ≠ g + 1 + 1; omega)).trans (by rw [hw4]; exact c3)
      have hk5 := hk4.set (.string ⟨#[115, 112, 111, 105, 108, 116]⟩)
      have d2' := d2 (.string ⟨#[115, 112, 111, 105, 108, 116]⟩)
      have d3' := d3 (.string ⟨#[115, 112, 111, 105, 108, 116]⟩)
      have HK5 := Lib.hid hk5
      clear c1 f1 c2 c3 hw4 hk4 hk5 d2 d3 HK3
      go_wp2_with fail
      go_quiet (fail)
      go_wp2_with fail
      exact ⟨⟨i + 1, by omega, by go_num, HK5.out.below ⟨rfl, rfl, rfl, Nat.le_refl _, fun _ _ => rfl⟩⟩, by simp [intOf]; omega⟩
    · obtain rfl : i = 4 := by omega
      clear hk
      have hb := HK.out.low
      have HB := Lib.hid hb
      clear hb HK
      go_wp2_with (first
        | (go_at_call 7; refine (fit_nil _ (w3.heap.size + 1) ⟨#[97]⟩ (cell_of_row _ _ _ _ _ (0, 0) (heap_new _ _ _ (by simp)))).mono ?_; rintro e w5 ⟨rfl, hb5⟩
           have HB5 := Lib.hid hb5
           clear hb5)
        | (go_at_call 7; refine (fit_zero _ wr.heap.size ⟨_, heap_alloc_new _ _, rfl⟩).mono ?_; rintro e w3 ⟨rfl, hb3⟩
           have HB3 := Lib.hid hb3
           clear hb3)
        | fail)
      go_ret
      exact ⟨by rfl, (((HB.out.alloc HB.out.size _).trans (HB3.out.mono (by have := HB.out.size; simp; omega))).alloc (by have h1 := HB.out.size; have h2 := HB3.out.size; simp at h2; omega) _).alloc (by have h1 := HB.out.size; have h2 := HB3.out.size; simp at h2; simp; omega) _ |>.trans (HB5.out.mono (by have h1 := HB.out.size; have h2 := HB3.out.size; simp at h2; simp; omega)) |>.alloc (by have h1 := HB.out.size; have h2 := HB3.out.size; have h3 := HB5.out.size; simp at h2 h3; omega) _⟩
end Go.Proofs.Ytiheibcookcbdaa
