import Derived.Test.YtbahclnpgdejlaaPut
set_option linter.unusedVariables false
namespace Go.Proofs.Ytbahclnpgdejlaa
open Go.RowKit
def mark : Clk := ⟨-77, 0, 0, 0, 0, 0, false⟩
theorem clkCells_take (l : List Clk) (k : Nat) (h : k < l.length) : clkCells (l.take (k + 1)) = clkCells (l.take k) ++ Clk.cells l[k] := by
  unfold clkCells
  rw [List.take_succ_eq_append_getElem h, List.flatMap_append]
  simp
set_option maxRecDepth 100000 in
set_option maxHeartbeats 2000000 in
theorem own_any (A : Option Addr) (cap : Nat) (l : List Clk) (n : Nat) (hn : n = l.length) (w : World) (B : Nat) (hB : B ≤ w.heap.size) (hs : Seg w B A (clkCells l)) (hl : n ≤ 2513169434843) :
    Calls Try.prog 11 #[.slice A n cap] w fun e w' => ∃ A' c', e = .returned (.slice A' n c') ∧ w'.ownsRow w.heap.size 30 7 (.slice A' (n + 1 : Nat) c') (n + 1) (clkCells l ++ Clk.cells mark) ∧ Below w.heap.size w w' := by
  obtain ⟨i0, ei, ez0, ez1, ez2⟩ := info_parts Try.info30
  have HN := Lib.hid hn
  clear hn
  go_enter Try.func11, Try.ntmps11
  go_wp2_with fail
  go_loopw [3, 4] (fun o i wr => ∃ k : Nat, k ≤ n ∧ i = .int .i64 k ∧ (∃ A c, o = .slice A k c) ∧ wr.ownsRow w.heap.size 30 7 o k (clkCells (l.take k)) ∧ Below w.heap.size w wr) (fun _ i _ => n - (intOf i).toNat)
  case atStart => exact ⟨0, by omega, rfl, ⟨none, 0, rfl⟩, World.ownsRow_nil _ _ _ _, Below.refl _ _⟩
  case round =>
    obtain ⟨k, hk, rfl, ⟨Ao, co, rfl⟩, hown, hb⟩ := hrel
    have HO := Lib.hid hown
    have HB := Lib.hid hb
    clear hown hb
    by_cases hlt : k < n
    · have hkl : k < l.length := by rw [← HN.out]; exact hlt
      obtain ⟨b, off, rfl, hbb, g0, g1, g2, g3, g4, g5, g6⟩ := (hs.below (HB.out.mono hB)).clk hkl
      have hki : (k : Int) < (n : Int) := by omega
      obtain ⟨⟨f, r, m, d, lo, hi, st⟩, hc⟩ : ∃ c : Clk, c = l[k] := ⟨_, rfl⟩
      have hct := clkCells_take l k hkl
      rw [← hc] at g0 g1 g2 g3 g4 g5 g6 hct
      simp only at g0 g1 g2 g3 g4 g5 g6
      have HC := Lib.hid hct
      clear hc hct
      go_wp2_with (at_builtin; refine wpList_append_seg _ rfl (.tmp 16) (.tmp 32) 31 rfl w.heap.size 30 i0 _ 7 56 Try.underlying31 ei ez0 ez1 ez2 rfl (by decide) _ k (clkCells (l.take k)) rfl ((HO.out.alloc _).alloc _) (wr.heap.size + 1 + 1) (some ⟨wr.heap.size + 1, 0, none⟩) 1 1 (Clk.cells ⟨f, r, m, d, lo, hi, st⟩) rfl rfl ?_ ?_ ?_ ?_ ?_ ?_)
      · have := seg_new (wr.alloc (.cells #[.int .i64 f, .int .i64 r, .int .i64 m, .int .i64 d, .int .i64 lo, .int .i64 hi, .bool st] 81)) 30 #[.int .i64 f, .int .i64 r, .int .i64 m, .int .i64 d, .int .i64 lo, .int .i64 hi, .bool st]
        simpa [Clk.cells] using this
      · simp [Clk.cells]
        exact ⟨rfl, rfl, rfl, rfl, rfl, rfl, rfl⟩
      · unfold maxLen; omega
      · omega
      · have := HB.out.size; simp; omega
      intro v3 w3 hown3 hg3 _
      obtain ⟨A3, c3, rfl⟩ := own_shape hown3
      rw [← HC.out] at hown3
      have hb3 : Below w.heap.size w w3 := by
        refine ((HB.out.alloc HB.out.size _).alloc ?_ _).grown hg3 ?_ ?_
        · have := HB.out.size; simp; omega
        · have := HB.out.size; simp; omega
        · intro g hg; exact (HO.out.lt g hg).1
      have H3 := Lib.hid hown3
      have HB3 := Lib.hid hb3
      clear hown3 hb3 hg3
      go_wp2
      go_roundw
      case rel => exact ⟨k + 1, by omega, by go_num, ⟨A3, c3, rfl⟩, H3.out, HB3.out⟩
      case measure => simp [intOf]; omega
    · obtain rfl : k = n := by omega
      have htk : l.take k = l := List.take_of_length_le (by rw [← HN.out]; omega)
      rw [htk] at HO
      clear htk
      go_wp2_with (at_builtin; refine wpList_append_seg _ rfl (.tmp 34) (.tmp 36) 31 rfl w.heap.size 30 i0 _ 7 56 Try.underlying31 ei ez0 ez1 ez2 rfl (by decide) _ k (clkCells l) rfl (HO.out.alloc _) (wr.heap.size + 1) (some ⟨wr.heap.size, 0, none⟩) 1 1 (Clk.cells mark) rfl rfl ?_ ?_ ?_ ?_ ?_ ?_)
      · exact seg_new wr 30 #[.int .i64 (-77), .int .i64 0, .int .i64 0, .int .i64 0, .int .i64 0, .int .i64 0, .bool false]
      · simp [Clk.cells, mark]
        exact ⟨rfl, rfl, rfl⟩
      · unfold maxLen; omega
      · omega
      · have := HB.out.size; simp; omega
      intro v3 w3 hown3 hg3 _
      obtain ⟨A3, c3, rfl⟩ := own_shape hown3
      have hb3 : Below w.heap.size w w3 := by
        refine (HB.out.alloc HB.out.size _).grown hg3 ?_ ?_
        · have := HB.out.size; simp; omega
        · intro g hg; exact (HO.out.lt g hg).1
      have hcap : k + 1 ≤ c3 := by
        rcases hown3.2 with ⟨h, h'⟩ | ⟨g', cap, cur, hv, _, _, hk1, _⟩
        · omega
        · injection hv with _ _ hv; omega
      obtain ⟨g, hA, _⟩ := own_head hown3 (by omega)
      subst hA
      have H3 := Lib.hid hown3
      have HB3 := Lib.hid hb3
      clear hown3 hb3 hg3
      go_wp2_with fail
      go_ret
      exact ⟨_, c3, rfl, H3.out, HB3.out⟩
end Go.Proofs.Ytbahclnpgdejlaa
