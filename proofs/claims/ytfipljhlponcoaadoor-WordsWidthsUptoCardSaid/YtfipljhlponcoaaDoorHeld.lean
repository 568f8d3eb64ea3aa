/- ref01.begins: plain law. An operation of a drawn region taken, or passed over, one at a time. No program in sight. -/
import Derived.Test.YtfipljhlponcoaaDoorCoded
import Derived.Deep.RegionHeld3
set_option linter.unusedVariables false
namespace Go.Proofs.YtfipljhlponcoaaDoor
open Go.RowKit
/-- What is read of the first byte when n are taken. -/
def headN (n b : Nat) : Nat := if n = 2 then b % 32 else if n = 3 then b % 16 else if n = 4 then b % 8 else b
/-- The number that the first n bytes hold. -/
def candN (l : List Nat) (n : Nat) : Nat := ((l.take n).drop 1).foldl (fun r b => 64 * r + b % 64) (headN n (l.headD 0))
theorem cand_enc (r : Nat) (h : okR r) (rest : List Nat) : candN (encN r ++ rest) (encN r).length = r := by
  unfold okR at h
  unfold encN
  split
  · rename_i h1; simp [candN, headN]
  split
  · simp [candN, headN]; omega
  split
  · simp [candN, headN]; omega
  · simp [candN, headN]; omega
/-- Do the first n bytes say a rune? -/
def hitN (l : List Nat) (n : Nat) : Prop := okR (candN l n) ∧ encN (candN l n) = l.take n
theorem hit_pc {l : List Nat} {n : Nat} (hn : n ≤ l.length) (h : hitN l n) : pcN l = some (candN l n, n) := by
  have h1 := pc_enc _ h.1 (l.drop n)
  rw [h.2, List.take_append_drop, List.length_take, Nat.min_eq_left hn] at h1
  exact h1
theorem pc_hit {l : List Nat} (hl : ∀ x ∈ l, x < 256) {r n : Nat} (h : pcN l = some (r, n)) : hitN l n ∧ candN l n = r ∧ n ≤ l.length ∧ 1 ≤ n ∧ n ≤ 4 := by
  obtain ⟨h1, h2, h3⟩ := pc_some hl h
  have h4 := enc_len r
  have h5 := congrArg List.length h3
  rw [List.length_take, ← h2] at h5
  have hc : candN l n = r := by
    have := cand_enc r h1 (l.drop n)
    rw [← h3, List.take_append_drop, List.length_take, Nat.min_eq_left (by omega)] at this
    exact this
  refine ⟨⟨by rw [hc]; exact h1, by rw [hc]; exact h3.symm⟩, hc, by omega, by omega, by omega⟩
end Go.Proofs.YtfipljhlponcoaaDoor

set_option linter.unusedVariables false
namespace Go.Proofs.YtfipljhlponcoaaDoor
open Go.RowKit
/-- An operation whose guard says no may be passed over at once. -/
theorem held_skip {P : Program} {ops : Array Oper} {Q : Exit → Act → World → Prop} {md : Region.Mode} {S : World → Prop} {i d : Nat} {oi : Oper} {fuel : Nat} {listed : Array Bool} {a : Act} {w : World} (hi : ops[i]? = some oi) (hd : oi.dst = some d)
    (hs : Region.noSelect ops = true) (hf : Region.free md ops listed i = true) (hr : (Region.ready md ops listed).contains i = true)
    (hQ : ∀ c a w, Q (.panic c) (a.put (some d) undef) w → Q (.panic c) a w) (hw : Region.wanted oi (yielded ops a.tmps) = false) (hS : S w)
    (h : wpAnyH P md ops Q S fuel (listed.setIfInBounds i true) (a.put (some d) undef) w) : wpAnyH P md ops Q S (fuel + 1) listed a w :=
  wpAnyH_take hi hs hf hr (by rw [hd]; exact hQ) (.inr ⟨hw, rfl⟩) hS (by rw [hd]; exact h)
theorem held_take {P : Program} {ops : Array Oper} {Q : Exit → Act → World → Prop} {md : Region.Mode} {S : World → Prop} {i d : Nat} {oi : Oper} {v : Value} {fuel : Nat} {listed : Array Bool} {a : Act} {w : World} (hi : ops[i]? = some oi) (hd : oi.dst = some d)
    (hs : Region.noSelect ops = true) (hf : Region.free md ops listed i = true) (hr : (Region.ready md ops listed).contains i = true)
    (hQ : ∀ c a w, Q (.panic c) (a.put (some d) v) w → Q (.panic c) a w) (hw : Region.wanted oi (yielded ops a.tmps) = true) (hy : ∀ w, S w → (execOp a.eval oi).run P w = .ok (.value v) w) (hS : S w)
    (h : wpAnyH P md ops Q S fuel (listed.setIfInBounds i true) (a.put (some d) v) w) : wpAnyH P md ops Q S (fuel + 1) listed a w :=
  wpAnyH_take hi hs hf hr (by rw [hd]; exact hQ) (.inl ⟨hw, hy⟩) hS (by rw [hd]; exact h)
end Go.Proofs.YtfipljhlponcoaaDoor
