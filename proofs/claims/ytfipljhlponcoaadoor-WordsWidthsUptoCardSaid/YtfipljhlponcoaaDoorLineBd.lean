/- strings.Builder's writing of a byte, of a text, and what it holds: contracts. -/
import Derived.Test.YtfipljhlponcoaaDoorShelf2
import Derived.Test.YtfipljhlponcoaaDoorPut
set_option linter.unusedVariables false
namespace Go.Proofs.YtfipljhlponcoaaDoor
open Go.RowKit
def ren167 : Go.Shelf.Ren := ⟨fun | 167 => 46 | 240 => 73 | 276 => 98 | n => n, fun | 31 => 33 | 9 => 9 | 3 => 3 | 4 => 4 | 0 => 0 | 20 => 20 | 72 => 74 | 70 => 71 | 37 => 72 | 75 => 61 | 164 => 127 | 5 => 5 | 80 => 79 | n => n, fun | n => n⟩
theorem lays167 : Go.Proofs.Lays.n167 Tryd.prog ren167 := {
  mixed := by kernel_rfl
  f167 := Tryd.func46.trans (congrArg some (by kernel_rfl))
  f240 := Tryd.func73.trans (congrArg some (by kernel_rfl))
  f276 := Tryd.func98.trans (congrArg some (by kernel_rfl))
  t0 := Tryd.underlying0
  a0 := Tryd.isAgg0
  z0 := Tryd.sizeOf0
  v0 := Tryd.zeroValue0
  t4 := Tryd.underlying4
  a4 := Tryd.isAgg4
  z4 := Tryd.sizeOf4
  v4 := Tryd.zeroValue4
  t5 := Tryd.underlying5
  a5 := Tryd.isAgg5
  z5 := Tryd.sizeOf5
  v5 := Tryd.zeroValue5
  t9 := Tryd.underlying9
  a9 := Tryd.isAgg9
  z9 := Tryd.sizeOf9
  v9 := Tryd.zeroValue9
  t20 := Tryd.underlying20
  a20 := Tryd.isAgg20
  z20 := Tryd.sizeOf20
  v20 := Tryd.zeroValue20
  t37 := Tryd.underlying72
  a37 := Tryd.isAgg72
  z37 := Tryd.sizeOf72
  v37 := Tryd.zeroValue72
  t70 := Tryd.underlying71
  a70 := Tryd.isAgg71
  z70 := Tryd.sizeOf71
  v70 := Tryd.zeroValue71
  t72 := Tryd.underlying74
  a72 := Tryd.isAgg74
  z72 := Tryd.sizeOf74
  v72 := Tryd.zeroValue74
  t75 := Tryd.underlying61
  a75 := Tryd.isAgg61
  z75 := Tryd.sizeOf61
  v75 := Tryd.zeroValue61
  t164 := Tryd.underlying127
  a164 := Tryd.isAgg127
  z164 := Tryd.sizeOf127
  v164 := Tryd.zeroValue127 }
theorem extra167 : Builder.Extra Tryd.prog ren167 := {
  sizeBuilder := by kernel_rfl
  liesBuilder := by kernel_rfl
  t5 := Tryd.underlying5
  a5 := Tryd.isAgg5
  z5 := Tryd.sizeOf5
  v5 := Tryd.zeroValue5
  infoByte := by kernel_rfl
  cellsByte := by kernel_rfl
  sizeByte := by kernel_rfl
  neB5 := by decide }
/-- A builder of the call's own that holds these bytes. -/
def Bld (B b : Nat) (l : List Nat) (w : World) : Prop := Lib.IsBuilder 74 5 B b (bV l) w
theorem wbyte_any (B b : Nat) (l : List Nat) (c : Nat) (w : World) (h : Bld B b l w) (hlen : l.length + 1 ≤ 100000000) (hBw : B ≤ w.heap.size) :
    Calls Tryd.prog 46 #[.pointer (some ⟨b, 0, none⟩), .int .u8 (c : Int)] w fun e w' => e = .returned .nilIface ∧ Bld B b (l ++ [c]) w' ∧ Below B w w' :=
  (Any.Builder_WriteByte lays167 extra167 B b (bV l) c w h (by rw [bV_len]; omega) hBw).mono fun e w' hh => ⟨hh.1, .inr (by rw [bV_app]; exact hh.2.1), hh.2.2⟩
theorem wstr_any (B b : Nat) (l : List Nat) (s : ByteArray) (w : World) (h : Bld B b l w) (hlen : l.length + s.size ≤ 100000000) (hBw : B ≤ w.heap.size) :
    Calls Tryd.prog 48 #[.pointer (some ⟨b, 0, none⟩), .string s] w fun e w' => e = .returned (.tuple #[.int .i64 s.size, .nilIface]) ∧ Bld B b (l ++ nl s) w' ∧ Below B w w' :=
  (Any.Builder_WriteString { Tryd.lays156 with } Tryd.Builder_Extra_156 B b (bV l) s w h (by rw [bV_len]; omega) hBw).mono fun e w' hh => ⟨hh.1, .inr (by rw [bV_app, ← str_bV]; exact hh.2.1), hh.2.2⟩
theorem bstr_any (B b : Nat) (l : List Nat) (w : World) (hl : ∀ x ∈ l, x < 256) (h : Bld B b l w) (hBw : B ≤ w.heap.size) :
    Calls Tryd.prog 49 #[.pointer (some ⟨b, 0, none⟩)] w fun e w' => ∃ t, e = .returned (.string t) ∧ nl t = l ∧ Below B w w' := by
  have e : bV l = Lib.byteCells (l.map fun n => UInt8.ofNat n) := by
    simp only [bV, Lib.byteCells, List.map_map]
    apply List.map_congr_left
    intro x hx
    simp only [Function.comp]
    rw [UInt8.toNat_ofNat_of_lt' (by simpa using hl x hx)]
  refine (Tryd.Builder_String_any B b (l.map fun n => UInt8.ofNat n) w (by unfold Bld at h; rw [e] at h; exact h) hBw).mono fun e w' hh => ⟨_, hh.1, ?_, hh.2⟩
  simp only [nl, List.map_map]
  conv => rhs; rw [← List.map_id l]
  apply List.map_congr_left
  intro x hx
  simp only [Function.comp, id]
  exact UInt8.toNat_ofNat_of_lt' (by simpa using hl x hx)
theorem bld_new (w : World) : Bld w.heap.size w.heap.size [] (w.alloc (.cells #[.pointer none, .slice none 0 0] 74)) :=
  .inl ⟨Nat.le_refl _, .slice none 0 0, heap_alloc_new w _, World.ownsRow_nil _ _ _ _, by simp [Value.ownBlock]⟩
theorem Bld.below {B b : Nat} {l : List Nat} {w w' : World} (h : Bld B b l w) (hb : Below w.heap.size w w') : Bld B b l w' := by
  have hk : ∀ p, Lib.BuilderAt 74 5 B b p (bV l) w → Lib.BuilderAt 74 5 B b p (bV l) w' := fun p hh => by
    obtain ⟨h1, v, h2, h3, h4⟩ := id hh
    exact ⟨h1, v, (hb.block b hh.lt).trans h2, own_keep2 h3 fun g _ hlt => hb.block g hlt, h4⟩
  rcases h with h | h
  · exact .inl (hk _ h)
  · exact .inr (hk _ h)
theorem Bld.lt {B b : Nat} {l : List Nat} {w : World} (h : Bld B b l w) : b < w.heap.size := by
  rcases h with h | h
  · exact h.lt
  · exact h.lt
end Go.Proofs.YtfipljhlponcoaaDoor
