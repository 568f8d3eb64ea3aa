/- The document's New: the contract. -/
import Derived.Test.YtbahclnpgdejlaaRTurns
import Derived.Test.YtbahclnpgdejlaaRRound
import Derived.Test.YtbahclnpgdejlaaRChange
import Derived.Deep.RegionLaw
set_option linter.unusedVariables false
namespace Go.Proofs.Ytbahclnpgdejlaa
open Go.RowKit
theorem Try.info81 : (Try.prog.info? 81).map (fun i => (i.zero, i.size, i.bytes)) = some (some (.agg #[.int .i64 0, .int .i64 0, .int .i64 0, .int .i64 0, .int .i64 0, .int .i64 0, .bool false]), 7, 56) := by kernel_rfl
theorem own_empty (w : World) (B e size g : Nat) (hg : g = w.heap.size) (hB : B ≤ w.heap.size) : (w.alloc (.cells #[] e)).ownsRow B e size (.slice (some ⟨g, 0, none⟩) 0 0) 0 [] := by
  subst hg
  exact ⟨by simp, .inr ⟨w.heap.size, 0, #[], rfl, hB, heap_alloc_new w _, Nat.le_refl _, by unfold maxLen; omega, by simp, by simp⟩⟩
theorem RowAt.grown {w w' : World} {g : Nat} {e : TypeId} {xs : List Value} {row : Option Nat} (h : RowAt w g e xs) (hg : w.grownBy w' row) (hne : some g ≠ row) : RowAt w' g e xs := h.keep (hg.block g h.lt hne)
set_option maxRecDepth 100000 in
set_option maxHeartbeats 4000000 in
theorem rnew_ok (A : Option Addr) (cap : Nat) (l : List Clk) (n : Nat) (hn : n = l.length) (w : World) (B : Nat) (hB : B ≤ w.heap.size) (hs : Seg w B A (clkCells l)) (hl : n ≤ 2513169434843) (hm : mayB l = true) (hf : ∀ j, j < n → fitsAt l j = true) :
    Calls Try.prog 16 #[.slice A n cap] w fun e w' => ∃ rb Al Au cl cu, e = .returned (.tuple #[.pointer (some ⟨rb, 0, none⟩), .int .i64 0]) ∧ RNet w' w.heap.size rb n Al Au cl cu l (zeros n) ∧ Below w.heap.size w w' := by
  have hmk := make_ints n hl
  have hgood : Good l := (mayB_iff.1 hm).2
  have hn5 : n ≤ 512 := by rw [hn]; exact (mayB_iff.1 hm).1
  have h1 := rmay_any A cap l n hn w B hB hs (by omega)
  rw [hm] at h1
  have h2 := fun w1 (hb : Below w.heap.size w w1) => rates_any A cap l n hn hgood w1 B (Nat.le_trans hB hb.size) (hs.below (hb.mono hB)) hl
  have hok : capOk l n = true := by subst hn; simp only [capOk, List.all_eq_true]; intro j hj; exact (cap_all hgood l.length (Nat.le_refl _)).2 hf j (by simpa using hj)
  rw [hok] at h2
  have H1 := Lib.hid h1
  have H2 := Lib.hid h2
  have HN := Lib.hid hn
  clear h1 h2 hok hf hm hgood hn
  obtain ⟨i0, fi, fz0, fz1, fz2⟩ := info_parts Try.info81
  go_enter Try.func16, Try.ntmps16
  go_wp2_with (first
    | (go_at_call 32; refine H1.out.mono ?_; rintro e w1 ⟨rfl, hb1⟩; have HB1 := Lib.hid hb1; clear hb1)
    | (go_at_call 33; refine (H2.out _ HB1.out).mono ?_; rintro e w2 ⟨A2, c2, rfl, _, hb2⟩; have HB2 := Lib.hid (HB1.out.trans (hb2.mono HB1.out.size)); clear hb2))
  have hs2 : Seg w2 B A (clkCells l) := hs.below (HB2.out.mono hB)
  have HS2 := Lib.hid hs2
  have hsz := HB2.out.size
  clear hs2 hs
  have m1 := clk_one l
  have m2 : 0 + n ≤ maxLen := by unfold maxLen; omega
  have m3 : (0 + n) * 56 ≤ 140737488355328 := by omega
  have m0 : Hid ((clkCells l).length = n * 7) := by show _ = _; rw [clkCells, flat_length _ 7 clk_len, ← HN.out]
  have M1 := Lib.hid m1
  clear m1
  go_region_held3 (fun _ => True) (trivial) (first
    | (refine step_append_seg rfl (.tmp 16) (.tmp 17) 37 rfl w.heap.size 81 i0 _ 7 56 Try.underlying37 fi fz0 fz1 fz2 rfl (by decide) _ 0 [] (by simp [Act.eval]; rfl) (by first | exact own_empty _ _ _ _ _ rfl hsz | exact World.ownsRow.alloc (own_empty _ _ _ _ _ rfl hsz) _ | exact own_empty _ _ _ _ _ (by simp) (Nat.le_trans hsz (by simp))) B A n cap (clkCells l) (by simp [Act.eval]) m0.out (by first | exact HS2.out.alloc (by omega) _ | exact (HS2.out.alloc (by omega) _).alloc (by simp; omega) _) M1.out m2 m3 (by simp; omega) ?_; intro v3 w3 hown3 hg3 _; obtain ⟨A3, c3, rfl⟩ := own_shape hown3)
    | fail)
  all_goals go_wp2
  all_goals go_ret2
  all_goals
    simp only [Nat.zero_add, List.nil_append] at hown3
    have hv3 := Vec.of_own hown3
    have hs3 := hg3.size
    simp only [World.size_alloc, drew_size] at hs3
    refine ⟨_, _, _, _, _, rfl, ⟨?_, HN.out, (zeros_len n).symm, heap_new _ _ _ ?_, ?_, RowAt.vec ?_ ?_⟩, ?_⟩
    rotate_left
    · first | rfl | (simp only [World.size_alloc]; done)
    · first
        | with_reducible exact hv3.alloc _
        | with_reducible exact (hv3.alloc _).alloc _
    · first
        | (with_reducible refine RowAt.alloc ?_ _; with_reducible refine zeros_row n _ _ rfl)
        | (with_reducible refine RowAt.alloc ?_ _; refine RowAt.grown ?_ hg3 (by simp [Value.ownBlock]); first | (with_reducible refine RowAt.drew ?_; with_reducible refine RowAt.alloc ?_ _; with_reducible exact zeros_row n _ _ rfl) | (with_reducible refine RowAt.drew ?_; with_reducible exact zeros_row n _ _ (by simp)))
    · (try simp only [World.size_alloc, drew_size]); omega
    · have hb3 : Below w.heap.size w w3 := by
        refine Below.grown (Below.drew ?_) hg3 ?_ ?_
        · first
            | with_reducible exact HB2.out.alloc HB2.out.size _
            | with_reducible exact (HB2.out.alloc HB2.out.size _).alloc (by simp only [World.size_alloc]; omega) _
        · (try simp only [drew_size, World.size_alloc]); omega
        · intro g hg
          simp only [Value.ownBlock, Option.some.injEq] at hg
          subst hg
          (try simp only [World.size_alloc])
          omega
      first
        | with_reducible exact hb3.alloc hb3.size _
        | with_reducible exact (hb3.alloc hb3.size _).alloc (by simp only [World.size_alloc]; omega) _
    · (try simp only [World.size_alloc, drew_size]); omega
end Go.Proofs.Ytbahclnpgdejlaa
