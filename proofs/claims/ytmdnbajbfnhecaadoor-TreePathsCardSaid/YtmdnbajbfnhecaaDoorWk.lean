/- The chapter's tree, and what is asked of it first. -/
import Derived.Test.YtmdnbajbfnhecaaDoorAC
import Derived.Test.YtmdnbajbfnhecaaDoorPCut
import Derived.Test.YtmdnbajbfnhecaaDoorPSame
set_option linter.unusedVariables false
namespace Go.Proofs.YtmdnbajbfnhecaaDoor
open Go.RowKit
/-- The chapter's tree, as data. -/
def smallD : List Nd := [⟨-1, ⟨#[]⟩, []⟩, ⟨0, ⟨#[115, 111, 99]⟩, [⟨⟨#[112, 104, 97, 110, 100, 108, 101]⟩, ⟨#[0, 0, 0, 7]⟩⟩]⟩, ⟨1, ⟨#[117, 97, 114, 116, 64, 48]⟩, [⟨⟨#[99, 111, 109, 112, 97, 116, 105, 98, 108, 101]⟩, ⟨#[97, 0, 98, 0]⟩⟩, ⟨⟨#[115, 116, 97, 116, 117, 115]⟩, ⟨#[111, 107, 97, 121, 0]⟩⟩]⟩, ⟨2, ⟨#[120]⟩, []⟩, ⟨0, ⟨#[97, 108, 105, 97, 115, 101, 115]⟩, [⟨⟨#[115]⟩, ⟨#[47, 115, 111, 99, 47, 117, 97, 114, 116, 64, 48, 0]⟩⟩]⟩, ⟨0, ⟨#[111, 102, 102]⟩, [⟨⟨#[115, 116, 97, 116, 117, 115]⟩, ⟨#[100, 105, 115, 97, 98, 108, 101, 100, 0]⟩⟩]⟩, ⟨5, ⟨#[121]⟩, []⟩]
def smallM (g1 g2 g3 g4 : Nat) : List Nm := [⟨⟨-1, ⟨#[]⟩, []⟩, none, 0⟩, ⟨⟨0, ⟨#[115, 111, 99]⟩, [⟨⟨#[112, 104, 97, 110, 100, 108, 101]⟩, ⟨#[0, 0, 0, 7]⟩⟩]⟩, some ⟨g1, 0, none⟩, 1⟩, ⟨⟨1, ⟨#[117, 97, 114, 116, 64, 48]⟩, [⟨⟨#[99, 111, 109, 112, 97, 116, 105, 98, 108, 101]⟩, ⟨#[97, 0, 98, 0]⟩⟩, ⟨⟨#[115, 116, 97, 116, 117, 115]⟩, ⟨#[111, 107, 97, 121, 0]⟩⟩]⟩, some ⟨g2, 0, none⟩, 2⟩, ⟨⟨2, ⟨#[120]⟩, []⟩, none, 0⟩, ⟨⟨0, ⟨#[97, 108, 105, 97, 115, 101, 115]⟩, [⟨⟨#[115]⟩, ⟨#[47, 115, 111, 99, 47, 117, 97, 114, 116, 64, 48, 0]⟩⟩]⟩, some ⟨g3, 0, none⟩, 1⟩, ⟨⟨0, ⟨#[111, 102, 102]⟩, [⟨⟨#[115, 116, 97, 116, 117, 115]⟩, ⟨#[100, 105, 115, 97, 98, 108, 101, 100, 0]⟩⟩]⟩, some ⟨g4, 0, none⟩, 1⟩, ⟨⟨5, ⟨#[121]⟩, []⟩, none, 0⟩]
theorem small_dat (g1 g2 g3 g4 : Nat) : dat (smallM g1 g2 g3 g4) = smallD := rfl
theorem seg_later {w wF : World} {cs : Array Value} {e : TypeId} (h : Below (w.alloc (.cells cs e)).heap.size (w.alloc (.cells cs e)) wF) : Seg wF wF.heap.size (some ⟨w.heap.size, 0, none⟩) cs.toList :=
  (((seg_new w e cs).more (by simp)).below h).more h.size
set_option maxRecDepth 100000 in
theorem prop_any (a b : ByteArray) (w : World) : Calls Tryd.prog 79 #[.string a, .string b] w fun e w' => e = .returned (.agg #[.string a, .string b]) ∧ Below w.heap.size w w' := by
  have hb : Below w.heap.size w (w.alloc (.cells #[.string a, .string b] 62)) := (Below.refl _ w).alloc (Nat.le_refl _) _
  have x0 : (w.alloc (.cells #[.string a, .string b] 62)).cell? ⟨w.heap.size, 0, none⟩ = some (.string a) := by
    rw [cell_of_row _ _ _ _ _ (0, 0) (heap_alloc_new w _)]; rfl
  have x1 : (w.alloc (.cells #[.string a, .string b] 62)).cell? ⟨w.heap.size, 1, none⟩ = some (.string b) := by
    rw [cell_of_row _ _ _ _ _ (0, 0) (heap_alloc_new w _)]; rfl
  have HB := Lib.hid hb
  clear hb
  go_enter Tryd.func79, Tryd.ntmps79
  go_wp2_with fail
  refine bodyPost_ret (v := .agg #[.string a, .string b]) (results_cell_row (p := 4) (ty := 62) rfl _ _ w.heap.size 62 #[.string a, .string b] (0, 0) _ rfl (heap_alloc_new w _) Tryd.underlying62 rfl (by kernel_rfl)) rfl ⟨rfl, HB.out⟩
set_option maxRecDepth 100000 in
set_option maxHeartbeats 4000000 in
theorem small_any (w : World) : Calls Tryd.prog 59 #[] w fun e w' => ∃ (b g1 g2 g3 g4 : Nat), e = .returned (.slice (some ⟨b, 0, none⟩) 7 7) ∧ Nodes w' w'.heap.size (some ⟨b, 0, none⟩) (smallM g1 g2 g3 g4) ∧ Below w.heap.size w w' := by
  go_enter Tryd.func59, Tryd.ntmps59
  go_wp2_with (first
    | (go_at_call 79; have hx := HB4; refine (prop_any _ _ _).mono ?_; rintro e w5 ⟨rfl, hb⟩; have HB5 := Lib.hid hb; clear hb hx)
    | (go_at_call 79; have hx := HB3; refine (prop_any _ _ _).mono ?_; rintro e w4 ⟨rfl, hb⟩; have HB4 := Lib.hid hb; clear hb hx)
    | (go_at_call 79; have hx := HB2; refine (prop_any _ _ _).mono ?_; rintro e w3 ⟨rfl, hb⟩; have HB3 := Lib.hid hb; clear hb hx)
    | (go_at_call 79; have hx := HB1; refine (prop_any _ _ _).mono ?_; rintro e w2 ⟨rfl, hb⟩; have HB2 := Lib.hid hb; clear hb hx)
    | (go_at_call 79; refine (prop_any _ _ _).mono ?_; rintro e w1 ⟨rfl, hb⟩; have HB1 := Lib.hid hb; clear hb))
  go_ret
  have b1 := HB1.out
  have b2 := HB2.out
  have b3 := HB3.out
  have b4 := HB4.out
  have b5 := HB5.out
  clear HB1 HB2 HB3 HB4 HB5
  have al : ∀ (v : World) (o : Obj), Below v.heap.size v (v.alloc o) := fun v o => (Below.refl _ v).alloc (Nat.le_refl _) o
  have hN : (nmCells (smallM w1.heap.size w3.heap.size w4.heap.size w5.heap.size)).toArray.toList = nmCells (smallM w1.heap.size w3.heap.size w4.heap.size w5.heap.size) := by simp
  have d5 : Below (w5.alloc (.cells #[.string ⟨#[115, 116, 97, 116, 117, 115]⟩, .string ⟨#[100, 105, 115, 97, 98, 108, 101, 100, 0]⟩] 62)).heap.size (w5.alloc (.cells #[.string ⟨#[115, 116, 97, 116, 117, 115]⟩, .string ⟨#[100, 105, 115, 97, 98, 108, 101, 100, 0]⟩] 62)) ((w5.alloc (.cells #[.string ⟨#[115, 116, 97, 116, 117, 115]⟩, .string ⟨#[100, 105, 115, 97, 98, 108, 101, 100, 0]⟩] 62)).alloc (.cells (nmCells (smallM w1.heap.size w3.heap.size w4.heap.size w5.heap.size)).toArray 43)) := al _ _
  have d4 := below_next b5 (below_next (al w5 _) d5)
  have d3 := below_next b4 (below_next (al w4 _) d4)
  have d1 := below_next b2 (below_next b3 (below_next (al w3 _) d3))
  have d0 := below_next b1 (below_next (al w1 _) d1)
  have hsz : (w5.alloc (.cells #[.string ⟨#[115, 116, 97, 116, 117, 115]⟩, .string ⟨#[100, 105, 115, 97, 98, 108, 101, 100, 0]⟩] 62)).heap.size = w5.heap.size + 1 := by simp
  have hn := seg_new (w5.alloc (.cells #[.string ⟨#[115, 116, 97, 116, 117, 115]⟩, .string ⟨#[100, 105, 115, 97, 98, 108, 101, 100, 0]⟩] 62)) 43 (nmCells (smallM w1.heap.size w3.heap.size w4.heap.size w5.heap.size)).toArray
  rw [hsz, hN] at hn
  refine ⟨w5.heap.size + 1, w1.heap.size, w3.heap.size, w4.heap.size, w5.heap.size, rfl, ⟨?_, ?_⟩, d0⟩
  · exact hn.more (by simp)
  · intro x hx
    have e1 := seg_later d1
    have e3 := seg_later d3
    have e4 := seg_later d4
    have e5 := seg_later d5
    simp only [smallM, List.mem_cons, List.mem_nil_iff, or_false] at hx
    rcases hx with rfl | rfl | rfl | rfl | rfl | rfl | rfl
    · exact Seg.nil
    · exact e1
    · exact e3
    · exact Seg.nil
    · exact e4
    · exact e5
    · exact Seg.nil
end Go.Proofs.YtmdnbajbfnhecaaDoor
