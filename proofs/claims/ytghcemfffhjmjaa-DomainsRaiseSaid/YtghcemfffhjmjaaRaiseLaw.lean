/- DomainsRaise: the walk over what came in. -/
import Derived.Test.YtghcemfffhjmjaaRaise
set_option linter.unusedVariables false
namespace Go.Proofs.Ytghcemfffhjmjaa
open Go.RowKit
theorem raise_row (Al : Option Addr) (capl : Nat) (l : List Dmi) (n : Nat) (hn : n = l.length) (As : Option Addr) (caps : Nat) (S : List Stp) (m : Nat) (hm : m = S.length) (i0 i1 i2 i3 : Int) (h0 : (Lit.int .i64 i0).wf = true) (h1 : (Lit.int .i64 i1).wf = true) (h2 : (Lit.int .i64 i2).wf = true) (h3 : (Lit.int .u8 i3).wf = true)
    (more : Int) (hmore : (Lit.int .u8 more).wf = true) (w : World)
    (hd : Domi w w.heap.size Al l) (hs : Seg w w.heap.size As (stCells S)) (hwf : ∀ y ∈ S, y.wf) (hl : n * 32 ≤ 140737488351232) (hlu : ∀ y ∈ l, y.u.length ≤ 17592186043904) (hlt : ∀ y ∈ l, y.t ≤ 255) :
    Calls Try.prog 3 #[.slice Al n capl, .slice As m caps, .agg #[.int .i64 i0, .int .i64 i1, .int .i64 i2, .int .u8 i3], .int .u8 more] w fun e w' => e = .returned (.bool true) ∧ Below w.heap.size w w' := by
  obtain ⟨a1, a2⟩ := u8_wf h3
  obtain ⟨b1, b2⟩ := u8_wf hmore
  have h := raise_any Al capl l n hn As caps S m hm ⟨i0, i1, i2, i3.toNat⟩ ⟨h0, h1, h2, by show i3.toNat ≤ 255; omega⟩ more.toNat (by omega) w hd hs hwf (by omega) hlu hlt
  simp only [Int.toNat_of_nonneg a1, Int.toNat_of_nonneg b1] at h
  exact h
end Go.Proofs.Ytghcemfffhjmjaa
