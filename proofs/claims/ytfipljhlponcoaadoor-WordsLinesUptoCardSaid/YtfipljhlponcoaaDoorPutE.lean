/- put: the contract. -/
import Derived.Test.YtfipljhlponcoaaDoorPutB
import Derived.Test.YtfipljhlponcoaaDoorPutC
import Derived.Test.YtfipljhlponcoaaDoorPutD
import Derived.Test.YtfipljhlponcoaaDoorPutF
set_option linter.unusedVariables false
namespace Go.Proofs.YtfipljhlponcoaaDoor
open Go.RowKit
theorem put_any (s : ByteArray) (pos : Nat) (hp : pos < s.size) (q : Nat) (hq1 : 32 ≤ q) (hq : q < 127) (A : Option Addr) (n c : Nat) (l : List Nat) (w : World) (base : Nat) (hb : base ≤ w.heap.size) (ho : Own w base A n c l) (hn : n ≤ 140737488355000) (hz : s.size ≤ 140737488355000) :
    Calls Tryd.prog 74 #[.slice A n c, .string s, .int .i64 pos, .int .i32 (Utf8.decode s pos).1, .int .u8 q] w fun e w' => ∃ A' n' c', e = .returned (.slice A' n' c') ∧ Own w' base A' n' c' (l ++ (elemsOf q (cutN ((nl s).drop pos))).flatten) ∧ Below base w w' ∧ Lib.OthersKept 5 none w w' := by
  rcases cut_cases s pos hp with ⟨r, h1, h2, h3, h4, h5, h6, h7, h8⟩ | ⟨h1, h2, h3, h4, h5⟩ | ⟨h1, h2, h3, h4⟩
  · rw [h3, h4]
    have hle := (enc_len r).2
    by_cases he : (r : Int) < 32 ∨ (127 ≤ (r : Int) ∧ (r : Int) ≤ 159)
    · unfold elemsOf
      rw [if_pos he]
      rcases he with he | he
      · exact put_esc s pos _ r r h7 hle ⟨by omega, rfl, h5⟩ he q A n c l w base hb ho hn hz
      · exact put_esc2 s pos _ r h7 hle ⟨by omega, h5⟩ he.1 he.2 q A n c l w base hb ho hn hz
    · by_cases hbs : (r : Int) = 92 ∨ (r : Int) = q
      · unfold elemsOf
        rw [if_neg he, if_pos hbs]
        have hr7 : r < 127 := by omega
        have hen : encN r = [r] := by unfold encN; rw [if_pos (by omega)]
        rw [h8, hen]
        exact put_bs s pos r (by omega) hr7 q hq (by omega) A n c l w base hb ho hn
      · unfold elemsOf
        rw [if_neg he, if_neg hbs]
        have := put_pl s pos _ r h7 hle (fun h => by simp at h; omega) h5 (by omega) (by omega) q hq (by omega) (by omega) A n c l w base hb ho hn hz
        simpa using this
  · rw [h1, h3]
    have := put_pl s pos 3 65533 h5 (by omega) (fun _ => h2) rfl (by omega) (by omega) q hq (by omega) (by omega) A n c l w base hb ho hn hz
    unfold elemsOf
    rw [if_neg (by simp), if_neg (by simp; omega)]
    simpa using this
  · rw [h1, h3]
    unfold elemsOf
    rw [if_pos (by simp)]
    exact put_brk s pos hp h2 q A n c l w base hb ho hn hz
end Go.Proofs.YtfipljhlponcoaaDoor
