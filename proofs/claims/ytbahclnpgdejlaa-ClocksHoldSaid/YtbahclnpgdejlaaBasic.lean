/- Contracts of base and Clone. -/
import Derived.Test.YtbahclnpgdejlaaClk
set_option linter.unusedVariables false
namespace Go.Proofs.Ytbahclnpgdejlaa
open Go.RowKit
def i64s (l : List Int) : List Value := l.map (.int .i64)
theorem Seg.i64 {w : World} {B : Nat} {a : Option Addr} {zs : List Int} (h : Seg w B a (i64s zs)) {k : Nat} (hk : k < zs.length) :
   ∃ b off, a = some ⟨b, off, none⟩ ∧ b < B ∧ w.cell? ⟨b, off + k, none⟩ = some (.int .i64 zs[k]) := by
  obtain ⟨b, off, e, hb, hc⟩ := h (by unfold i64s; intro e; simp at e; subst e; simp at hk)
  exact ⟨b, off, e, hb, hc k _ (by unfold i64s; simp [hk])⟩
/-- What comes to a clock. -/
def baseOf (rs : List Int) (c : Clk) : Int := if c.frm < 0 then c.rate else rs.getD c.frm.toNat 0
theorem base_own (A R : Option Addr) (n m capA capR : Nat) (l : List Clk) (hn : n = l.length) (k : Nat) (hk : k < l.length) (w : World) (B : Nat) (hs : Seg w B A (clkCells l)) (hf : l[k].frm < 0) :
    Calls Try.prog 26 #[.slice A n capA, .slice R m capR, .int .i64 k] w fun e w' => e = .returned (.int .i64 l[k].rate) ∧ w = w' := by
  obtain ⟨b, off, rfl, hbb, h0, h1, _⟩ := hs.clk hk
  have hk' : (k : Int) < (n : Int) := by omega
  clear hn hs
  go_enter Try.func26, Try.ntmps26
  go_wp2
  go_ret
  exact ⟨rfl, rfl⟩
theorem base_from (A R : Option Addr) (n m capA capR : Nat) (l : List Clk) (rs : List Int) (hn : n = l.length) (k f : Nat) (hk : k < l.length) (hf : l[k].frm = f) (hm : f < m) (hfr : f < rs.length) (w : World) (B B' : Nat) (hs : Seg w B A (clkCells l)) (hr : Seg w B' R (i64s rs)) :
    Calls Try.prog 26 #[.slice A n capA, .slice R m capR, .int .i64 k] w fun e w' => e = .returned (.int .i64 (rs[f])) ∧ w = w' := by
  obtain ⟨b, off, rfl, hbb, h0, h1, _⟩ := hs.clk hk
  obtain ⟨b', off', rfl, hbb', hc⟩ := hr.i64 hfr
  have hk' : (k : Int) < (n : Int) := by omega
  have hf' : (f : Int) < (m : Int) := by omega
  rw [hf] at h0
  obtain ⟨v, hv⟩ : ∃ v, v = rs[f] := ⟨_, rfl⟩
  rw [← hv] at hc ⊢
  clear hn hs hr hv hf
  go_enter Try.func26, Try.ntmps26
  go_wp2
  go_ret
  exact ⟨rfl, rfl⟩
theorem Try.info30 : (Try.prog.info? 30).map (fun i => (i.zero, i.size, i.bytes)) = some (some (.agg #[.int .i64 0, .int .i64 0, .int .i64 0, .int .i64 0, .int .i64 0, .int .i64 0, .bool false]), 7, 56) := by kernel_rfl
set_option maxRecDepth 100000 in
theorem clone_any (A : Option Addr) (cap : Nat) (l : List Clk) (n : Nat) (hn : n = l.length) (w : World) (B : Nat) (hB : B ≤ w.heap.size) (hs : Seg w B A (clkCells l)) (hl : n * 56 ≤ 140737488351232) :
    Calls Try.prog 24 #[.slice A n cap] w fun e w' => ∃ A' c', e = .returned (.slice A' n c') ∧ w'.ownsRow w.heap.size 30 7 (.slice A' n c') n (clkCells l) ∧ Below w.heap.size w w' := by
  obtain ⟨i0, hi, hz0, hz1, hz2⟩ := info_parts Try.info30
  have Hn := Lib.hid hn
  clear hn
  rcases A with _ | ad
  · have h0 : clkCells l = [] := hs.none_nil
    have hl0 : l = [] := by
      rcases l with _ | ⟨c, cs⟩
      · rfl
      · simp [clkCells, Clk.cells] at h0
    have hn0 : n = 0 := by rw [Hn.out, hl0]; rfl
    have hc0 : True := trivial
    subst hn0
    have hnil := fun w => Lib.run_eql_slice_nil (P := Try.prog) w 31 30 none 0 cap 0 0 Try.underlying31
    clear Hn hs
    go_enter Try.func24, Try.ntmps24
    go_wp2
    go_ret
    exact ⟨none, 0, rfl, by rw [h0]; exact World.ownsRow_nil _ _ _ _, Below.refl _ _⟩
  · have hnil := fun w => Lib.run_eql_slice_nil (P := Try.prog) w 31 30 (some ad) n cap 0 0 Try.underlying31
    have hown0 : (w.alloc (.cells #[] 30)).ownsRow w.heap.size 30 7 (.slice (some ⟨w.heap.size, 0, none⟩) 0 0) 0 [] := World.ownsRow_lit w #[] 0 (Nat.le_refl _) (by unfold maxLen; omega) rfl
    have hs0 := hs.alloc hB (.cells #[] 30)
    have hb0 := (Below.refl w.heap.size w).alloc (Nat.le_refl _) (.cells #[] 30)
    have hlen := flat_length Clk.cells 7 clk_len l
    have Hl := Lib.hid hlen
    have HL := Lib.hid hl
    clear hlen hl
    go_enter Try.func24, Try.ntmps24
    go_wp2_with (at_builtin; refine wpList_append_seg _ rfl (.tmp 5) (.tmp 6) 31 rfl w.heap.size 30 i0 _ 7 56 Try.underlying31 hi hz0 hz1 hz2 rfl (by decide) _ 0 [] rfl hown0 B (some ad) n cap (clkCells l) rfl ?c1 hs0 ?c2 ?c3 ?c4 ?c5 ?_)
    case c1 => rw [Hn.out]; exact Hl.out
    case c2 => exact clk_one l
    case c3 => unfold maxLen; have := HL.out; omega
    case c4 => have := HL.out; omega
    case c5 => simp
    intro v1 w1 hown1 hg1 hnil1
    have hb1 : Below w.heap.size w w1 := hb0.grown hg1 (by simp) (by simp [Value.ownBlock])
    obtain ⟨A1, c1, rfl⟩ := own_shape hown1
    go_wp2
    go_ret

    exact ⟨A1, c1, rfl, hown1, hb1⟩
end Go.Proofs.Ytbahclnpgdejlaa
