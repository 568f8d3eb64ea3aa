/- the walk of WordsNumbers -/
import Derived.Test.YtfipljhlponcoaaDoorHexA
import Derived.Test.YtfipljhlponcoaaDoorNumA
set_option linter.unusedVariables false
namespace Go.Proofs.YtfipljhlponcoaaDoor
open Go.RowKit
/-- What the library's variables hold. -/
structure Lay (w : World) : Prop where
  e1 : ErrCell w 1
  e2 : ErrCell w 2
  p10 : Pow10 w
  h5 : 5 < w.heap.size
  c5 : w.cell? ⟨5, 15, none⟩ = some (.int .u8 4)
theorem Lay.below {w w' : World} (h : Lay w) (hb : Below w.heap.size w w') : Lay w' :=
  ⟨errCell_below h.e1 (by have := h.h5; omega) hb, errCell_below h.e2 (by have := h.h5; omega) hb, tabIs_below (B := 0) h.p10 hb, Nat.lt_of_lt_of_le h.h5 hb.size, by rw [hb.cell h.h5]; exact h.c5⟩
set_option maxRecDepth 100000 in
theorem numbers_walk (s : ByteArray) (hz : s.size ≤ 281474976710656) (n : Nat) (hn : n < 18446744073709551616) (w : World) (hl : Lay w) :
    Calls Tryd.prog 3 #[.string s, .int .u64 n] w fun e w' => e = .returned (.bool true) ∧ Below w.heap.size w w' := by
  have HL := Lib.hid hl
  have HN := Lib.hid (fun (W : World) (h : Lay W) => num_any s hz W h.e1 h.e2 h.p10)
  have HR := Lib.hid (fun (W : World) (h : Lay W) => rnum_any s hz W h.e1 h.e2 h.p10)
  have HX := Lib.hid (fun (W : World) (h : Lay W) => phex_any s hz W h.e1 h.e2 h.h5 h.c5)
  have HY := Lib.hid (fun (W : World) (h : Lay W) => rhex_any s hz W h.e1 h.e2 h.h5 h.c5)
  have HD := Lib.hid (fun (W : World) (h : Lay W) => dig_any 14 (.inl rfl) n hn W h.h5 h.c5)
  have HE := Lib.hid (fun (W : World) (h : Lay W) => dig_any 15 (.inr rfl) n hn W h.h5 h.c5)
  obtain ⟨A, hA⟩ : ∃ A, numRes s = A := ⟨_, rfl⟩
  obtain ⟨B, hB⟩ : ∃ B, hexRes s = B := ⟨_, rfl⟩
  rw [hA] at HN HR
  rw [hB] at HX HY
  clear hl hA hB
  obtain ⟨a1, a2⟩ := A
  obtain ⟨b1, b2⟩ := B
  go_enter Tryd.func3, Tryd.ntmps3
  go_wp2_with (first
    | (go_at_call 10; refine (HN.out _ HL.out).mono ?_; rintro e wa ⟨rfl, hb⟩; have HBa := Lib.hid hb; clear hb)
    | (go_at_call 11; refine (HR.out _ (HL.out.below HBa.out)).mono ?_; rintro e wb ⟨rfl, hb⟩; have HBb := Lib.hid (below_next HBa.out hb); clear hb)
    | (go_at_call 12; refine (HX.out _ (HL.out.below HBb.out)).mono ?_; rintro e wc ⟨rfl, hb⟩; have HBc := Lib.hid (below_next HBb.out hb); clear hb)
    | (go_at_call 13; refine (HY.out _ (HL.out.below HBc.out)).mono ?_; rintro e wd ⟨rfl, hb⟩; have HBd := Lib.hid (below_next HBc.out hb); clear hb)
    | (go_at_call 14; refine (HD.out _ (HL.out.below HBd.out)).mono ?_; rintro e we ⟨rfl, hb⟩; have HBe := Lib.hid (below_next HBd.out hb); clear hb)
    | (go_at_call 15; refine (HE.out _ (HL.out.below HBe.out)).mono ?_; rintro e wf ⟨rfl, hb⟩; have HBf := Lib.hid (below_next HBe.out hb); clear hb)
    | (fail))
  go_ret
  exact ⟨rfl, HBf.out⟩
end Go.Proofs.YtfipljhlponcoaaDoor
