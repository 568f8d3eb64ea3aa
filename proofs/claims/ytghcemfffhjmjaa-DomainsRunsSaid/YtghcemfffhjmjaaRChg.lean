/- DomainsRuns: the document's Changes. -/
import Derived.Test.YtghcemfffhjmjaaRLev
import Derived.Deep.RegionHeld3
set_option linter.unusedVariables false
namespace Go.Proofs.Ytghcemfffhjmjaa
open Go.RowKit
theorem Try.info86 : (Try.prog.info? 86).map (fun i => (i.zero, i.size, i.bytes)) = some (some (.agg #[.int .i64 0, .int .u8 0, .int .u8 0]), 3, 16) := by kernel_rfl
set_option maxRecDepth 100000 in
set_option maxHeartbeats 4000000 in
theorem rchanges_any {w : World} {gf gg n : Nat} (hn : n ≤ 256) {f g : Nat → Nat} (rf : RowAt w gf 5 (lvs f n)) (rg : RowAt w gg 5 (lvs g n)) :
    Calls Try.prog 37 #[.slice (some ⟨gf, 0, none⟩) n n, .slice (some ⟨gg, 0, none⟩) n n] w fun e w' => ∃ A c, e = .returned (.slice A (chgs f g n).length c) ∧
      w'.ownsRow w.heap.size 86 3 (.slice A (chgs f g n).length c) (chgs f g n).length (chCells (chgs f g n)) ∧ Below w.heap.size w w' := by
  have hgf := rf.lt
  have hgg := rg.lt
  have h1 : ∀ w1, Below w.heap.size w w1 → ∀ d, d < n → w1.cell? ⟨gf, d, none⟩ = some (.int .u8 (f d : Int)) := fun w1 hb d hd => (hb.cell (p := ⟨gf, d, none⟩) hgf).trans ((rf.cell (k := d) (by rw [lvs_len]; exact hd)).trans (lvs_get _ hd))
  have h2 : ∀ w1, Below w.heap.size w w1 → ∀ d, d < n → w1.cell? ⟨gg, d, none⟩ = some (.int .u8 (g d : Int)) := fun w1 hb d hd => (hb.cell (p := ⟨gg, d, none⟩) hgg).trans ((rg.cell (k := d) (by rw [lvs_len]; exact hd)).trans (lvs_get _ hd))
  have H1 := Lib.hid h1
  have H2 := Lib.hid h2
  clear h1 h2 rf rg
  obtain ⟨i0, ei, ez0, ez1, ez2⟩ := info_parts Try.info86
  go_enter Try.func37, Try.ntmps37
  go_wp2_with fail
  go_loopw [5, 6] (fun o i wr => ∃ k : Nat, k ≤ n ∧ i = .int .i64 k ∧ (∃ A c, o = .slice A (ups f g k).length c) ∧ wr.ownsRow w.heap.size 86 3 o (ups f g k).length (chCells (ups f g k)) ∧ Below w.heap.size w wr) (fun _ i _ => n - (intOf i).toNat)
  case atStart => exact ⟨0, by omega, rfl, ⟨none, 0, rfl⟩, World.ownsRow_nil _ _ _ _, Below.refl _ _⟩
  case round =>
    obtain ⟨k, hk, rfl, ⟨Ao, co, rfl⟩, hown, hb⟩ := hrel
    have HB := Lib.hid hb
    have HO := Lib.hid hown
    clear hb hown
    by_cases hkn : k < n
    · have hki : (k : Int) < (n : Int) := by omega
      have c1 := H2.out _ HB.out k hkn
      have c2 := H1.out _ HB.out k hkn
      have hul := ups_len f g k
      have e1 : ups f g (k + 1) = if f k < g k then ups f g k ++ [(k, f k, g k)] else ups f g k := rfl
      obtain ⟨p, hp⟩ : ∃ p, p = f k := ⟨_, rfl⟩
      obtain ⟨q, hq⟩ : ∃ q, q = g k := ⟨_, rfl⟩
      rw [← hp] at c2 e1
      rw [← hq] at c1 e1
      have E1 := Lib.hid e1
      clear hp hq e1
      by_cases hpq : p < q
      · have hpi : (p : Int) < (q : Int) := by omega
        have E2 := Lib.hid (E1.out.trans (if_pos hpq))
        go_wp2_with fail
        go_region
        go_wp2_with fail
        have m1 : ∀ u ∈ [Value.int .i64 (k : Int), .int .u8 (p : Int), .int .u8 (q : Int)], u.oneCell' = true := by intro u hu; simp at hu; rcases hu with rfl | rfl | rfl <;> rfl
        have m2 : (ups f g k).length + 1 ≤ maxLen := by unfold maxLen; omega
        have m3 : ((ups f g k).length + 1) * 16 ≤ 140737488355328 := by omega
        have m5 := HB.out.size
        have m4 : w.heap.size ≤ (wr.alloc (.cells #[.int .i64 (k : Int), .int .u8 (p : Int), .int .u8 (q : Int)] 86)).heap.size := by simp; omega
        have y1 : gf < wr.heap.size := Nat.lt_of_lt_of_le hgf m5
        have y2 : gg < wr.heap.size := Nat.lt_of_lt_of_le hgg m5
        have y3 : ∀ e : some gf = (Value.slice Ao (ups f g k).length co).ownBlock, False := fun e => by have := (HO.out.lt gf e.symm).1; omega
        have y4 : ∀ e : some gg = (Value.slice Ao (ups f g k).length co).ownBlock, False := fun e => by have := (HO.out.lt gg e.symm).1; omega
        go_region_held3 (fun W => W.cell? ⟨gf, k, none⟩ = some (.int .u8 p) ∧ W.cell? ⟨gg, k, none⟩ = some (.int .u8 q)) (first | exact ⟨c2, c1⟩ | exact ⟨(World.cell?_alloc_lt _ _ _ (by exact y1)).trans c2, (World.cell?_alloc_lt _ _ _ (by exact y2)).trans c1⟩ | exact ⟨(World.cell?_of_block (hg3.block gf (by simp; omega) y3)).trans ((World.cell?_alloc_lt _ _ _ (by exact y1)).trans c2), (World.cell?_of_block (hg3.block gg (by simp; omega) y4)).trans ((World.cell?_alloc_lt _ _ _ (by exact y2)).trans c1)⟩) (first
          | (refine step_append_seg rfl (.tmp 23) (.tmp 34) 74 rfl w.heap.size 86 i0 _ 3 16 Try.underlying74 ei ez0 ez1 ez2 rfl (by decide) (.slice Ao (ups f g k).length co) _ (chCells (ups f g k)) (by simp [Act.eval]) (World.ownsRow.alloc (w := _) (by exact HO.out) _) (wr.heap.size + 1) (some ⟨wr.heap.size, 0, none⟩) 1 1 [.int .i64 k, .int .u8 p, .int .u8 q] (by simp [Act.eval]) rfl (by exact seg_new _ 86 #[.int .i64 k, .int .u8 p, .int .u8 q]) m1 m2 m3 m4 ?_; intro v3 w3 hown3 hg3 _)
          | fail)
        clear m1 m2 m3 y1 y2 y3 y4
        obtain ⟨A3, c3', rfl⟩ := own_shape hown3
        have hg3' : (wr.alloc (.cells #[.int .i64 (k : Int), .int .u8 (p : Int), .int .u8 (q : Int)] 86)).grownBy w3 (Value.slice Ao (ups f g k).length co).ownBlock := ⟨hg3.os, hg3.tape, hg3.output, hg3.size, hg3.block⟩
        have hb3 : Below w.heap.size w w3 := (HB.out.alloc m5 _).grown hg3' m4 (fun g hg => (HO.out.lt g hg).1)
        have ht : chCells (ups f g k) ++ [.int .i64 (k : Int), .int .u8 (p : Int), .int .u8 (q : Int)] = chCells (ups f g (k + 1)) := by rw [E2.out]; simp [chCells]
        rw [ht] at hown3
        have hl3 : (ups f g k).length + 1 = (ups f g (k + 1)).length := by rw [E2.out]; simp
        rw [hl3] at hown3
        have H3 := Lib.hid hown3
        have HL3 := Lib.hid hl3
        have HB3 := Lib.hid hb3
        clear hown3 hb3 hl3 ht hg3 hg3' m4 m5
        go_wp2_with fail
        exact ⟨⟨k + 1, by omega, by go_num, ⟨A3, c3', by rw [HL3.out]⟩, by rw [HL3.out]; exact H3.out, HB3.out⟩, by simp [intOf]; omega⟩
      · have hpi : ¬ (p : Int) < (q : Int) := by omega
        have E2 := Lib.hid (E1.out.trans (if_neg hpq))
        go_wp2_with fail
        go_region
        go_wp2_with fail
        exact ⟨⟨k + 1, by omega, by go_num, ⟨Ao, co, by rw [E2.out]⟩, by rw [E2.out]; exact HO.out, HB.out.drew⟩, by simp [intOf]; omega⟩
    · obtain rfl : k = n := by omega
      go_wp2_with fail
      go_loopw [5, 7] (fun o i wr => ∃ m : Nat, m ≤ k ∧ i = .int .i64 ((k : Int) - 1 - m) ∧ (∃ A c, o = .slice A (dns f g k (ups f g k) m).length c) ∧ wr.ownsRow w.heap.size 86 3 o (dns f g k (ups f g k) m).length (chCells (dns f g k (ups f g k) m)) ∧ Below w.heap.size w wr) (fun _ i _ => (intOf i + 1).toNat)
      case atStart => exact ⟨0, by omega, by go_num, ⟨Ao, co, rfl⟩, HO.out, HB.out⟩
      case round =>
        obtain ⟨m, hm, rfl, ⟨Ap, cp, rfl⟩, hown, hb⟩ := hrel
        clear HB HO
        have HB := Lib.hid hb
        have HO := Lib.hid hown
        clear hb hown
        by_cases hmk : m < k
        · obtain ⟨d, hd⟩ : ∃ d, d = k - 1 - m := ⟨_, rfl⟩
          have hdi : (k : Int) - 1 - m = (d : Int) := by omega
          have hd0 : (0 : Int) ≤ (d : Int) := by omega
          have hdk : (d : Int) < (k : Int) := by omega
          rw [hdi]
          have c1 := H2.out _ HB.out d (by omega)
          have c2 := H1.out _ HB.out d (by omega)
          have hul := ups_len f g k
          have hdl := dns_len f g k (ups f g k) m
          have e1 : dns f g k (ups f g k) (m + 1) = if g d < f d then dns f g k (ups f g k) m ++ [(d, f d, g d)] else dns f g k (ups f g k) m := by rw [hd]; rfl
          obtain ⟨x, hx⟩ : ∃ x, x = dns f g k (ups f g k) m := ⟨_, rfl⟩
          have ho2 := HO.out
          obtain ⟨p, hp⟩ : ∃ p, p = f d := ⟨_, rfl⟩
          obtain ⟨q, hq⟩ : ∃ q, q = g d := ⟨_, rfl⟩
          rw [← hp] at c2 e1
          rw [← hq] at c1 e1
          rw [← hx] at e1 hdl ho2 ⊢
          have E1 := Lib.hid e1
          have HO2 := Lib.hid ho2
          clear hp hq e1 ho2 HO hx hd
          by_cases hpq : q < p
          · have hpi : (q : Int) < (p : Int) := by omega
            have E2 := Lib.hid (E1.out.trans (if_pos hpq))
            go_wp2_with fail
            go_region
            go_wp2_with fail
            have m1 : ∀ u ∈ [Value.int .i64 (d : Int), .int .u8 (p : Int), .int .u8 (q : Int)], u.oneCell' = true := by intro u hu; simp at hu; rcases hu with rfl | rfl | rfl <;> rfl
            have m2 : (x).length + 1 ≤ maxLen := by unfold maxLen; omega
            have m3 : ((x).length + 1) * 16 ≤ 140737488355328 := by omega
            have m5 := HB.out.size
            have m4 : w.heap.size ≤ (wr.alloc (.cells #[.int .i64 (d : Int), .int .u8 (p : Int), .int .u8 (q : Int)] 86)).heap.size := by simp; omega
            have y1 : gf < wr.heap.size := Nat.lt_of_lt_of_le hgf m5
            have y2 : gg < wr.heap.size := Nat.lt_of_lt_of_le hgg m5
            have y3 : ∀ e : some gf = (Value.slice Ap (x).length cp).ownBlock, False := fun e => by have := (HO2.out.lt gf e.symm).1; omega
            have y4 : ∀ e : some gg = (Value.slice Ap (x).length cp).ownBlock, False := fun e => by have := (HO2.out.lt gg e.symm).1; omega
            go_region_held3 (fun W => W.cell? ⟨gf, d, none⟩ = some (.int .u8 p) ∧ W.cell? ⟨gg, d, none⟩ = some (.int .u8 q)) (first | exact ⟨c2, c1⟩ | exact ⟨(World.cell?_alloc_lt _ _ _ (by exact y1)).trans c2, (World.cell?_alloc_lt _ _ _ (by exact y2)).trans c1⟩ | exact ⟨(World.cell?_of_block (hg3.block gf (by simp; omega) y3)).trans ((World.cell?_alloc_lt _ _ _ (by exact y1)).trans c2), (World.cell?_of_block (hg3.block gg (by simp; omega) y4)).trans ((World.cell?_alloc_lt _ _ _ (by exact y2)).trans c1)⟩) (first
              | (refine step_append_seg rfl (.tmp 52) (.tmp 63) 74 rfl w.heap.size 86 i0 _ 3 16 Try.underlying74 ei ez0 ez1 ez2 rfl (by decide) (.slice Ap (x).length cp) _ (chCells (x)) (by simp [Act.eval]) (World.ownsRow.alloc (w := _) (by exact HO2.out) _) (wr.heap.size + 1) (some ⟨wr.heap.size, 0, none⟩) 1 1 [.int .i64 d, .int .u8 p, .int .u8 q] (by simp [Act.eval]) rfl (by exact seg_new _ 86 #[.int .i64 d, .int .u8 p, .int .u8 q]) m1 m2 m3 m4 ?_; intro v3 w3 hown3 hg3 _)
              | fail)
            clear m1 m2 m3 y1 y2 y3 y4
            obtain ⟨A3, c3', rfl⟩ := own_shape hown3
            have hg3' : (wr.alloc (.cells #[.int .i64 (d : Int), .int .u8 (p : Int), .int .u8 (q : Int)] 86)).grownBy w3 (Value.slice Ap x.length cp).ownBlock := ⟨hg3.os, hg3.tape, hg3.output, hg3.size, hg3.block⟩
            have hb3 : Below w.heap.size w w3 := (HB.out.alloc m5 _).grown hg3' m4 (fun g hg => (HO2.out.lt g hg).1)
            have ht : chCells x ++ [.int .i64 (d : Int), .int .u8 (p : Int), .int .u8 (q : Int)] = chCells (dns f g k (ups f g k) (m + 1)) := by rw [E2.out]; simp [chCells]
            rw [ht] at hown3
            have hl3 : x.length + 1 = (dns f g k (ups f g k) (m + 1)).length := by rw [E2.out]; simp
            rw [hl3] at hown3
            have H3 := Lib.hid hown3
            have HL3 := Lib.hid hl3
            have HB3 := Lib.hid hb3
            clear hown3 hb3 hl3 ht hg3 hg3' m4 m5
            go_wp2_with fail
            exact ⟨⟨m + 1, by omega, by go_num, ⟨A3, c3', by rw [HL3.out]⟩, by rw [HL3.out]; exact H3.out, HB3.out⟩, by simp [intOf]⟩
          · have hpi : ¬ (q : Int) < (p : Int) := by omega
            have E2 := Lib.hid (E1.out.trans (if_neg hpq))
            go_wp2_with fail
            go_region
            go_wp2_with fail
            exact ⟨⟨m + 1, by omega, by go_num, ⟨Ap, cp, by rw [E2.out]⟩, by rw [E2.out]; exact HO2.out, HB.out.drew⟩, by simp [intOf]⟩
        · obtain rfl : m = k := by omega
          have e1 : decide ((0 : Int) ≤ (m : Int) - 1 - m) = false := by simp; omega
          go_wp2_with fail
          go_ret
          exact ⟨Ap, cp, by rfl, HO.out, HB.out⟩
end Go.Proofs.Ytghcemfffhjmjaa
