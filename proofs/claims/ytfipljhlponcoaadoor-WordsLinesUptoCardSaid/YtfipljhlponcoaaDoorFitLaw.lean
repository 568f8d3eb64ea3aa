/- Fit: plain law. -/
import Derived.Test.YtfipljhlponcoaaDoorWidthW
set_option linter.unusedVariables false
namespace Go.Proofs.YtfipljhlponcoaaDoor
open Go.RowKit
/-- What Fit gives: the text's bytes and the refusal. -/
def fitF (l : List Nat) (n : Int) : List Nat × Int :=
  if n < 1 ∨ 4096 < n then ([], 1)
  else if ((shows 92 l).length : Int) ≤ n then ((shows 92 l).flatten ++ List.replicate (n.toNat - (shows 92 l).length) 32, 0)
  else (((shows 92 l).take (n.toNat - 1)).flatten ++ [126], 0)
theorem run_dec {es : List (List Nat)} (h : ∀ e ∈ es, isRune e) {t : ByteArray} (ht : nl t = es.flatten) {k : Nat} (hk : k < es.length) : ((es.take k).flatten.length < t.size) ∧ (Utf8.decode t (es.take k).flatten.length).2 + (es.take k).flatten.length = (es.take (k + 1)).flatten.length := by
  obtain ⟨r, hr, he⟩ := h es[k] (List.getElem_mem hk)
  have hd : es.drop k = es[k] :: es.drop (k + 1) := List.drop_eq_getElem_cons hk
  have h1 : es.flatten = (es.take k).flatten ++ (es[k] ++ (es.drop (k + 1)).flatten) := by
    rw [← List.flatten_cons, ← hd, ← List.flatten_append, List.take_append_drop]
  have hl := enc_len r
  have h2 : (nl t).drop (es.take k).flatten.length = es[k] ++ (es.drop (k + 1)).flatten := by rw [ht, h1, List.drop_left']; rfl
  have h3 : (es.take k).flatten.length < t.size := by
    have := congrArg List.length h2
    rw [List.length_drop, nl_len, List.length_append, he] at this
    omega
  refine ⟨h3, ?_⟩
  rw [dec_pc t _ h3, h2, he, pc_enc r hr, List.take_succ_eq_append_getElem hk, List.flatten_append, List.length_append]
  simp [he]
  omega
end Go.Proofs.YtfipljhlponcoaaDoor
