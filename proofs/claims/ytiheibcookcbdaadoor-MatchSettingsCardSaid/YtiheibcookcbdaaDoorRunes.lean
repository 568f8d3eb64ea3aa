/- A name's runes and its bytes: plain law. -/
import Derived.Test.YtiheibcookcbdaaDoorMem
import Derived.Shelf.GgClosure.StringsIndexFunc
import Derived.Laws.RangeString
set_option linter.unusedVariables false
namespace Go.Proofs.YtiheibcookcbdaaDoor
open Go.RowKit
/-- May a byte, a rune stand in a name? -/
def chB (c : Int) : Bool := (97 ≤ c && c ≤ 122) || (48 ≤ c && c ≤ 57) || c == 44 || c == 46 || c == 95 || c == 43 || c == 45 || c == 64 || c == 35 || c == 63
def notCh (r : Nat) : Bool := !chB (r : Int)
def nameB (l : List UInt8) : Bool := decide (1 ≤ l.length) && decide (l.length ≤ 31) && l.all fun c => chB c.toNat
theorem ch_small {c : Int} (h : chB c = true) : 0 ≤ c ∧ c < 128 := by
  simp [chB] at h; omega
theorem decode_great (s : ByteArray) (pos : Nat) (h : pos < s.size) (ha : 128 ≤ (s[pos]'h).toNat) : 128 ≤ (Utf8.decode s pos).1 := by
  have hg : (s.get! (pos + 0)).toNat = (s[pos]'h).toNat := by
    rw [Nat.add_zero]
    show (s.data[pos]!).toNat = _
    rw [getElem!_pos s.data pos h]
    rfl
  unfold Utf8.decode
  simp only [hg, Utf8.runeError]
  repeat' split
  all_goals first
    | omega
    | (simp only; omega)
    | (rename_i hx; simp only [Bool.and_eq_true, decide_eq_true_eq] at hx; omega)
    | (rename_i hx; simp only [Bool.and_eq_true, decide_eq_true_eq] at hx; simp only; omega)
theorem idx_from (s : ByteArray) : ∀ (f pos : Nat), s.size - pos ≤ f → (Lib.idxFuncFrom notCh true s f pos < 0 ↔ ∀ i (h : i < s.size), pos ≤ i → chB (s[i].toNat : Int) = true)
  | 0, pos, hf => by
    unfold Lib.idxFuncFrom
    exact ⟨fun _ i h hi => by omega, fun _ => by omega⟩
  | f + 1, pos, hf => by
    unfold Lib.idxFuncFrom
    by_cases hp : pos < s.size
    · rw [if_pos hp]
      rcases hc : chB (s[pos].toNat : Int)
      · have hd : notCh (Utf8.decode s pos).1 = true := by
          by_cases h128 : s[pos].toNat < 128
          · rw [decode_ascii s pos hp h128]; unfold notCh; rw [hc]; rfl
          · have := decode_great s pos hp (by omega)
            unfold notCh
            rcases hcc : chB ((Utf8.decode s pos).1 : Int)
            · rfl
            · have := (ch_small hcc).2; omega
        rw [if_pos hd]
        exact ⟨fun h => by omega, fun h => by rw [h pos hp (Nat.le_refl _)] at hc; cases hc⟩
      · have h128 := (ch_small hc).2
        have hd : Utf8.decode s pos = (s[pos].toNat, 1) := decode_ascii s pos hp (by omega)
        have hn : ¬ notCh (Utf8.decode s pos).1 = true := by rw [hd]; unfold notCh; rw [hc]; decide
        rw [if_neg hn, hd, idx_from s f (pos + 1) (by omega)]
        constructor
        · intro h i hi hpi
          rcases (show i = pos ∨ pos + 1 ≤ i by omega) with rfl | h2
          · exact hc
          · exact h i hi h2
        · exact fun h i hi hpi => h i hi (by omega)
    · rw [if_neg hp]
      exact ⟨fun _ i h hi => by omega, fun _ => by omega⟩
/-- No rune of a text is one that may not stand in a name, just where none of its bytes is. -/
theorem idx_name (s : ByteArray) : Lib.idxFunc notCh true s < 0 ↔ s.data.toList.all (fun c => chB c.toNat) = true := by
  unfold Lib.idxFunc
  rw [idx_from s s.size 0 (by omega), List.all_eq_true]
  constructor
  · intro h c hc
    obtain ⟨i, hi, rfl⟩ := List.mem_iff_getElem.1 hc
    exact h i (by simpa using hi) (Nat.zero_le _)
  · exact fun h i hi _ => h _ (by show s.data[i] ∈ _; simp)
end Go.Proofs.YtiheibcookcbdaaDoor
