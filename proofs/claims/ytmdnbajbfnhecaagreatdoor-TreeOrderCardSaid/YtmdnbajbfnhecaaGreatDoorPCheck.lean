/- The program's Check: the contract. -/
import Derived.Test.YtmdnbajbfnhecaaGreatDoorCk
set_option linter.unusedVariables false
namespace Go.Proofs.YtmdnbajbfnhecaaGreatDoor
open Go.RowKit
theorem ret_yes {R1 : Int} {e : Ending} (h : CheckRet (R1, 0) e) : ∃ v, e = .returned (.tuple #[.int .i64 R1, v, .bool true]) := by
  obtain ⟨a, v, ok, rfl, hR⟩ := h
  rcases ok with _ | _
  · injection hR with _ h2; cases h2
  · injection hR with h1 _; subst h1; exact ⟨v, rfl⟩
theorem ret_no {R1 R2 : Int} {e : Ending} (h : CheckRet (R1, R2) e) (h0 : R2 ≠ 0) : R2 = 40 ∧ ∃ v, e = .returned (.tuple #[.int .i64 R1, v, .bool false]) := by
  obtain ⟨a, v, ok, rfl, hR⟩ := h
  rcases ok with _ | _
  · injection hR with h1 h2; subst h1; exact ⟨by simpa using h2.symm, v, rfl⟩
  · injection hR with _ h2; exact absurd (by simpa using h2.symm) h0
set_option maxRecDepth 100000 in
theorem pCheck_any (A : Option Addr) (cap n : Nat) (l : List Nm) (hn : n = l.length) (hsz : Sized l) (w : World) (B : Nat) (hB : B ≤ w.heap.size) (hs : Nodes w B A l) :
    Calls Tryz.prog 23 #[.slice A n cap] w fun e w' => e = .returned (.tuple #[.int .i64 (checkF (dat l)).1, .int .i64 (checkF (dat l)).2]) ∧ Below w.heap.size w w' := by
  have h := pcheck_any A cap n l hn hsz w B hB hs
  have hz : (checkF (dat l)).2 = 0 → (checkF (dat l)).1 = 0 := by
    unfold checkF
    split
    · intro h; cases h
    · split <;> simp
  obtain ⟨⟨R1, R2⟩, hR⟩ : ∃ R, R = checkF (dat l) := ⟨_, rfl⟩
  rw [← hR] at h hz ⊢
  have H := Lib.hid h
  have HZ := Lib.hid hz
  clear h hz hR hn hsz hs
  by_cases h0 : R2 = 0
  · subst h0
    obtain rfl : R1 = 0 := HZ.out rfl
    go_enter Tryz.func23, Tryz.ntmps23
    go_wp2_with (first
      | (go_at_call 46; refine H.out.mono ?_; rintro e w1 ⟨hr, hb1⟩; obtain ⟨v, rfl⟩ := ret_yes hr; have HB1 := Lib.hid hb1; clear hb1 hr))
    go_ret2
    exact ⟨rfl, HB1.out⟩
  · go_enter Tryz.func23, Tryz.ntmps23
    go_wp2_with (first
      | (go_at_call 46; refine H.out.mono ?_; rintro e w1 ⟨hr, hb1⟩; obtain ⟨h40, v, rfl⟩ := ret_no hr h0; have HB1 := Lib.hid hb1; have H40 := Lib.hid h40; clear hb1 hr h40))
    go_ret2
    exact ⟨by rw [H40.out]; rfl, HB1.out⟩
end Go.Proofs.YtmdnbajbfnhecaaGreatDoor
