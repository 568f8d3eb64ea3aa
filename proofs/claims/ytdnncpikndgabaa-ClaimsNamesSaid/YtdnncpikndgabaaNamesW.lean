/- The walk of ClaimsNames. -/
import Derived.Test.YtdnncpikndgabaaPFree
set_option linter.unusedVariables false
namespace Go.Proofs.Ytdnncpikndgabaa
open Go.RowKit
theorem free_end : freeE 3 0 18446744073709551615 = 0 ∧ freeL [⟨1, ⟨3, 18446744073709551615, 18446744073709551615⟩⟩] 3 0 18446744073709551615 = [⟨3, 0, 18446744073709551614⟩] := by
  have h := @free_good [⟨1, ⟨3, 18446744073709551615, 18446744073709551615⟩⟩] 3 0 18446744073709551615 (by decide) [⟨3, 18446744073709551615, 18446744073709551615⟩] (by
    have : takenL [⟨1, ⟨3, 18446744073709551615, 18446744073709551615⟩⟩] ⟨3, 0, 18446744073709551615⟩ = [⟨3, 18446744073709551615, 18446744073709551615⟩] := by decide
    rw [this]) (List.pairwise_singleton _ _)
  refine ⟨h.1, h.2.trans ?_⟩
  unfold sweep
  rw [if_pos (by decide), if_pos (by decide)]
  rfl
theorem free_all : freeL [⟨1, ⟨3, 0, 18446744073709551615⟩⟩] 3 0 18446744073709551615 = [] := by
  have h := @free_good [⟨1, ⟨3, 0, 18446744073709551615⟩⟩] 3 0 18446744073709551615 (by decide) [⟨3, 0, 18446744073709551615⟩] (by
    have : takenL [⟨1, ⟨3, 0, 18446744073709551615⟩⟩] ⟨3, 0, 18446744073709551615⟩ = [⟨3, 0, 18446744073709551615⟩] := by decide
    rw [this]) (List.pairwise_singleton _ _)
  refine h.2.trans ?_
  unfold sweep
  rw [if_neg (by decide), if_pos (by decide)]
  rfl
theorem call_end (w : World) (B : Nat) (hB : B ≤ w.heap.size) (A : Option Addr) (hs : Seg w B A [.int .i64 1, .int .u8 3, .int .u64 18446744073709551615, .int .u64 18446744073709551615]) :
    Calls Try.prog 5 #[.slice A 1 1, .int .u8 3, .int .u64 0, .int .u64 18446744073709551615] w fun e w' => (∃ g c', e = .returned (.tuple #[.slice (some ⟨g, 0, none⟩) 1 c', .int .i64 0]) ∧
      w'.cell? ⟨g, 0, none⟩ = some (.int .u8 3) ∧ w'.cell? ⟨g, 1, none⟩ = some (.int .u64 0) ∧ w'.cell? ⟨g, 2, none⟩ = some (.int .u64 18446744073709551614)) ∧ Below w.heap.size w w' := by
  have h := pfree_any A 1 1 [⟨1, ⟨3, 18446744073709551615, 18446744073709551615⟩⟩] rfl (by decide) 3 0 18446744073709551615 (by decide) (fun o ho => by rw [List.mem_singleton.1 ho]; decide) w B hB hs
  refine Calls.mono h ?_
  rintro e w' ⟨⟨A', m, c', rfl, hown⟩, hb⟩
  rw [free_end.1, free_end.2] at *
  have hm : m = 1 := by have := hown.1; simp [clCells, Cl.cells] at this; omega
  subst hm
  obtain ⟨g, rfl, hg1, hg2⟩ := own_head hown (by omega)
  have hc := fun j u hu => hown.cells (g := g) rfl j u hu
  simp only [addr_add, Nat.zero_add] at hc
  exact ⟨⟨g, c', rfl, hc 0 _ rfl, hc 1 _ rfl, hc 2 _ rfl⟩, hb⟩
theorem call_all (w : World) (B : Nat) (hB : B ≤ w.heap.size) (A : Option Addr) (hs : Seg w B A [.int .i64 1, .int .u8 3, .int .u64 0, .int .u64 18446744073709551615]) :
    Calls Try.prog 5 #[.slice A 1 1, .int .u8 3, .int .u64 0, .int .u64 18446744073709551615] w fun e w' => (∃ A' c', e = .returned (.tuple #[.slice A' 0 c', .int .i64 0])) ∧ Below w.heap.size w w' := by
  have h := pfree_any A 1 1 [⟨1, ⟨3, 0, 18446744073709551615⟩⟩] rfl (by decide) 3 0 18446744073709551615 (by decide) (fun o ho => by rw [List.mem_singleton.1 ho]; decide) w B hB hs
  refine Calls.mono h ?_
  rintro e w' ⟨⟨A', m, c', rfl, hown⟩, hb⟩
  rw [free_end.1, free_all] at *
  have hm : m = 0 := by have := hown.1; simp [clCells] at this; omega
  subst hm
  exact ⟨⟨A', c', rfl⟩, hb⟩
theorem call_meet (w : World) : Calls Try.prog 6 #[.agg #[.int .u8 3, .int .u64 0, .int .u64 18446744073709551615], .agg #[.int .u8 3, .int .u64 18446744073709551615, .int .u64 18446744073709551615]] w fun e w' => e = .returned (.bool true) ∧ Below w.heap.size w w' := by
  have h := pmeet_any ⟨3, 0, 18446744073709551615⟩ ⟨3, 18446744073709551615, 18446744073709551615⟩ w
  rw [show meetB ⟨3, 0, 18446744073709551615⟩ ⟨3, 18446744073709551615, 18446744073709551615⟩ = true by decide] at h
  exact h
theorem two_cells (w : World) (W : World) (hW : W = (w.alloc (.cells #[.int .u8 3, .int .u64 0, .int .u64 18446744073709551615] 24)).alloc (.cells #[.int .u8 3, .int .u64 18446744073709551615, .int .u64 18446744073709551615] 24)) :
    (W.cell? ⟨w.heap.size, 0, none⟩ = some (.int .u8 3) ∧ W.cell? ⟨w.heap.size, 1, none⟩ = some (.int .u64 0) ∧ W.cell? ⟨w.heap.size, 2, none⟩ = some (.int .u64 18446744073709551615)) ∧
    (W.cell? ⟨w.heap.size + 1, 0, none⟩ = some (.int .u8 3) ∧ W.cell? ⟨w.heap.size + 1, 1, none⟩ = some (.int .u64 18446744073709551615) ∧ W.cell? ⟨w.heap.size + 1, 2, none⟩ = some (.int .u64 18446744073709551615)) ∧ Below w.heap.size w W ∧ W.heap.size = w.heap.size + 1 + 1 := by
  subst hW
  have h := boxed_cells w ⟨3, 0, 18446744073709551615⟩ ⟨3, 18446744073709551615, 18446744073709551615⟩
  exact ⟨h.1, h.2.1, h.2.2, by simp⟩
set_option maxRecDepth 100000 in
set_option maxHeartbeats 2000000 in
theorem claimsNames_walk (w : World) : Calls Try.prog 3 #[] w fun e w' => e = .returned (.bool true) ∧ Below w.heap.size w w' := by
  obtain ⟨⟨x0, x1, x2⟩, ⟨y0, y1, y2⟩, hb0, hsz⟩ := two_cells w _ rfl
  have hb3 := hb0.alloc hb0.size (.cells #[.int .i64 1, .int .u8 3, .int .u64 18446744073709551615, .int .u64 18446744073709551615] 30)
  have hsg := seg_new ((w.alloc (.cells #[.int .u8 3, .int .u64 0, .int .u64 18446744073709551615] 24)).alloc (.cells #[.int .u8 3, .int .u64 18446744073709551615, .int .u64 18446744073709551615] 24)) 30 #[.int .i64 1, .int .u8 3, .int .u64 18446744073709551615, .int .u64 18446744073709551615]
  rw [hsz] at hsg
  have hc := call_end _ _ (by simp) _ hsg
  have HC := Lib.hid hc
  have HB3 := Lib.hid hb3
  have hx : ∀ (W : World) (p : Addr) (v : Value), Below (w.heap.size + 1 + 1 + 1) (((w.alloc (.cells #[.int .u8 3, .int .u64 0, .int .u64 18446744073709551615] 24)).alloc (.cells #[.int .u8 3, .int .u64 18446744073709551615, .int .u64 18446744073709551615] 24)).alloc (.cells #[.int .i64 1, .int .u8 3, .int .u64 18446744073709551615, .int .u64 18446744073709551615] 30)) W →
      p.block < w.heap.size + 1 + 1 → ((w.alloc (.cells #[.int .u8 3, .int .u64 0, .int .u64 18446744073709551615] 24)).alloc (.cells #[.int .u8 3, .int .u64 18446744073709551615, .int .u64 18446744073709551615] 24)).cell? p = some v → W.cell? p = some v := fun W p v hb hp h => by
    rw [hb.cell (p := p) (by omega), World.cell?_alloc_lt _ _ _ (by rw [hsz]; exact hp)]
    exact h
  have HX := Lib.hid hx
  have X0 := Lib.hid x0
  have X1 := Lib.hid x1
  have X2 := Lib.hid x2
  have Y0 := Lib.hid y0
  have Y1 := Lib.hid y1
  have Y2 := Lib.hid y2
  clear hb0 hb3 hsg hc hx hsz
  go_enter Try.func3, Try.ntmps3
  go_wp2_with (first
    | (go_at_call 6
       refine (call_meet w5).mono ?_
       rintro e w6 ⟨rfl, hb6⟩
       have v0 := (hb6.cell (p := ⟨g, 0, none⟩) (World.block_lt_of_cell? _ _ u0)).trans u0
       have v1 := (hb6.cell (p := ⟨g, 1, none⟩) (World.block_lt_of_cell? _ _ u1)).trans u1
       have v2 := (hb6.cell (p := ⟨g, 2, none⟩) (World.block_lt_of_cell? _ _ u2)).trans u2
       have HB6 := Lib.hid (below_next HB5.out hb6)
       clear hb6)
    | (go_at_call 5
       refine HC2.out.mono ?_
       rintro e w5 ⟨⟨A5, c5, rfl⟩, hb5⟩
       have hb5' : Below w4.heap.size w4 w5 := ((Below.refl _ w4).alloc (Nat.le_refl _) _).trans (hb5.mono (by simp))
       have u0 := (hb5'.cell (p := ⟨g, 0, none⟩) (World.block_lt_of_cell? _ _ z0)).trans z0
       have u1 := (hb5'.cell (p := ⟨g, 1, none⟩) (World.block_lt_of_cell? _ _ z1)).trans z1
       have u2 := (hb5'.cell (p := ⟨g, 2, none⟩) (World.block_lt_of_cell? _ _ z2)).trans z2
       have s0 := (hb5'.cell (p := ⟨w.heap.size, 0, none⟩) (World.block_lt_of_cell? _ _ q0)).trans q0
       have s1 := (hb5'.cell (p := ⟨w.heap.size, 1, none⟩) (World.block_lt_of_cell? _ _ q1)).trans q1
       have s2 := (hb5'.cell (p := ⟨w.heap.size, 2, none⟩) (World.block_lt_of_cell? _ _ q2)).trans q2
       have t0 := (hb5'.cell (p := ⟨w.heap.size + 1, 0, none⟩) (World.block_lt_of_cell? _ _ p0)).trans p0
       have t1 := (hb5'.cell (p := ⟨w.heap.size + 1, 1, none⟩) (World.block_lt_of_cell? _ _ p1)).trans p1
       have t2 := (hb5'.cell (p := ⟨w.heap.size + 1, 2, none⟩) (World.block_lt_of_cell? _ _ p2)).trans p2
       have HB5 := Lib.hid (below_next HB4.out hb5')
       clear hb5 hb5')
    | (go_at_call 5
       refine HC.out.mono ?_
       rintro e w4 ⟨⟨g, c', rfl, z0, z1, z2⟩, hb4⟩
       have hb4' := hb4.mono (show w.heap.size + 1 + 1 + 1 ≤ _ by simp)
       have q0 := HX.out w4 ⟨w.heap.size, 0, none⟩ _ hb4' (by simp; omega) X0.out
       have q1 := HX.out w4 ⟨w.heap.size, 1, none⟩ _ hb4' (by simp; omega) X1.out
       have q2 := HX.out w4 ⟨w.heap.size, 2, none⟩ _ hb4' (by simp; omega) X2.out
       have p0 := HX.out w4 ⟨w.heap.size + 1, 0, none⟩ _ hb4' (by simp) Y0.out
       have p1 := HX.out w4 ⟨w.heap.size + 1, 1, none⟩ _ hb4' (by simp) Y1.out
       have p2 := HX.out w4 ⟨w.heap.size + 1, 2, none⟩ _ hb4' (by simp) Y2.out
       have HB4 := Lib.hid (HB3.out.trans (hb4.mono (by simp; omega)))
       have hsg2 := seg_new w4 30 #[.int .i64 1, .int .u8 3, .int .u64 0, .int .u64 18446744073709551615]
       have hc2 := call_all _ _ (by simp) _ hsg2
       have HC2 := Lib.hid hc2
       clear hb4 hb4' hsg2 hc2 x0 x1 x2 y0 y1 y2))
  go_ret
  exact ⟨rfl, HB6.out⟩
end Go.Proofs.Ytdnncpikndgabaa
