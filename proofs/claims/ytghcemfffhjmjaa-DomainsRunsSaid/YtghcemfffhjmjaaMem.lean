/- Arrays of levels and domains in memory. -/
import Derived.Test.YtghcemfffhjmjaaBase
import Derived.Test.YtghcemfffhjmjaaLaw
import Derived.Test.YtghcemfffhjmjaaProg
import Derived.Deep.MidRow
set_option linter.unusedVariables false
namespace Go.Proofs.Ytghcemfffhjmjaa
open Go.RowKit
/-- 256 levels as cells. -/
def arr (f : Nat → Nat) : List Value := (List.range 256).map fun i => .int .u8 (f i)
theorem arr_len (f : Nat → Nat) : (arr f).length = 256 := by simp [arr]
theorem arr_get (f : Nat → Nat) {i : Nat} (h : i < 256) : (arr f)[i]? = some (.int .u8 (f i)) := by
  unfold arr
  rw [List.getElem?_map, List.getElem?_range h]
  rfl
theorem arr_set (f : Nat → Nat) {i v : Nat} (h : i < 256) : (arr f).set i (.int .u8 v) = arr (upd f i v) := by
  apply List.ext_getElem?
  intro j
  rcases Nat.lt_or_ge j 256 with hj | hj
  · rw [List.getElem?_set, arr_get _ hj, arr_get _ hj, arr_len]
    by_cases e : i = j
    · subst e
      rw [if_pos rfl, if_pos h, upd_same]
    · rw [if_neg e, upd_other _ _ (fun x => e x.symm)]
  · rw [List.getElem?_eq_none (by rw [List.length_set, arr_len]; exact hj), List.getElem?_eq_none (by rw [arr_len]; exact hj)]
theorem arr_one (f : Nat → Nat) : (arr f).toArray.all (·.oneCell') = true := all_oneCell_toArray fun v hv => by
  unfold arr at hv
  obtain ⟨i, _, rfl⟩ := List.mem_map.1 hv
  rfl
theorem Try.arr_size : (Try.prog.info? 60).map (·.size) = some 256 := by kernel_rfl
theorem zero60 (w : World) : (zeroValue 60).run Try.prog w = .ok (.agg (arr fun _ => 0).toArray) w := by kernel_rfl
/-- A domain as it lies. -/
structure Dmm where
  d : Dm
  A : Option Addr
  c : Nat
def nats (l : List Nat) : List Value := l.map fun (x : Nat) => .int .i64 (x : Int)
def Dmm.cells (x : Dmm) : List Value := [.slice x.A x.d.u.length x.c, .int .u8 (x.d.t : Int)]
def dmCells (l : List Dmm) : List Value := l.flatMap Dmm.cells
def dsOf (l : List Dmm) : List Dm := l.map (·.d)
theorem dm_len (x : Dmm) : (Dmm.cells x).length = 2 := rfl
theorem ds_len (l : List Dmm) : (dsOf l).length = l.length := by simp [dsOf]
theorem ds_get (l : List Dmm) {k : Nat} (h : k < l.length) : (dsOf l)[k]'(by rw [ds_len]; exact h) = l[k].d := by simp [dsOf]
structure Doms (w : World) (B : Nat) (a : Option Addr) (l : List Dmm) : Prop where
  seg : Seg w B a (dmCells l)
  under : ∀ x ∈ l, Seg w B x.A (nats x.d.u)
section
variable {w w' : World} {B B' : Nat} {a : Option Addr} {l : List Dmm}
theorem Doms.below (h : Doms w B a l) (hb : Below B w w') : Doms w' B a l := ⟨h.seg.below hb, fun x hx => (h.under x hx).below hb⟩
theorem Doms.more (h : Doms w B a l) (hB : B ≤ B') : Doms w B' a l := ⟨h.seg.more hB, fun x hx => (h.under x hx).more hB⟩
theorem Doms.at_ (h : Doms w B a l) {k : Nat} (hk : k < l.length) : ∃ b off, a = some ⟨b, off, none⟩ ∧ b < B ∧ w.cell? ⟨b, off + k * 2, none⟩ = some (.slice l[k].A l[k].d.u.length l[k].c) ∧ w.cell? ⟨b, off + k * 2 + 1, none⟩ = some (.int .u8 (l[k].d.t : Int)) ∧ Seg w B l[k].A (nats l[k].d.u) := by
  obtain ⟨b, off, e, hb, hc⟩ := h.seg.thing (f := Dmm.cells) (m := 2) dm_len (by omega) hk
  exact ⟨b, off, e, hb, hc 0 _ rfl, hc 1 _ rfl, h.under _ (List.getElem_mem hk)⟩
theorem Seg.nat {A : Option Addr} {us : List Nat} (h : Seg w B A (nats us)) {j : Nat} (hj : j < us.length) : ∃ b off, A = some ⟨b, off, none⟩ ∧ b < B ∧ w.cell? ⟨b, off + j, none⟩ = some (.int .i64 (us[j] : Int)) := by
  obtain ⟨b, off, e, hb, hc⟩ := h (by intro e; have := congrArg List.length e; unfold nats at this; rw [List.length_map] at this; simp at this; subst this; simp at hj)
  exact ⟨b, off, e, hb, hc j _ (by unfold nats; simp [hj])⟩
end
theorem und_at {l : List Dmm} {k : Nat} (h : k < l.length) : und (dsOf l) k = l[k].d.u := by
  unfold und
  rw [List.getElem?_eq_getElem (by rw [ds_len]; exact h)]
  simp [dsOf]
/-- A row of cells of one's own: its range, and that it may be written. -/
theorem row_range {w : World} {g : Nat} {e : TypeId} {xs : List Value} (h : RowAt w g e xs) : w.rangeAt g 0 xs := fun j v hv => by
  rw [Nat.zero_add, h.cell (List.getElem?_eq_some_iff.1 hv).1, hv]
theorem row_there {w : World} {g : Nat} {e : TypeId} {xs : List Value} (h : RowAt w g e xs) : w.there g 0 xs.length := fun j hj => by
  refine ⟨?_, h.frozen _⟩
  rw [Nat.zero_add, h.cell hj, List.getElem?_eq_getElem hj]
  rfl
theorem row_setCells {g : Nat} {e : TypeId} : ∀ (vs : List Value) (o : Nat) (xs : List Value) (w : World), RowAt w g e xs → o + vs.length ≤ xs.length → RowAt (w.setCells g o vs) g e (xs.take o ++ vs ++ xs.drop (o + vs.length))
  | [], o, xs, w, h, hl => by simpa [World.setCells] using h
  | v :: r, o, xs, w, h, hl => by
    simp only [List.length_cons] at hl
    have := row_setCells r (o + 1) (xs.set o v) _ (h.store o v) (by simp; omega)
    have e1 : (xs.set o v).take (o + 1) = xs.take o ++ [v] := by
      rw [List.take_succ_eq_append_getElem (by simp; omega), List.take_set_of_le (Nat.le_refl _)]
      simp
    have e2 : (xs.set o v).drop (o + 1 + r.length) = xs.drop (o + (r.length + 1)) := by
      rw [List.drop_set_of_lt (by omega)]
      congr 1; omega
    rw [e1, e2] at this
    simpa [World.setCells] using this
theorem setCells_heap {g : Nat} : ∀ (vs : List Value) (o : Nat) (w : World) (k : Nat), k ≠ g → (w.setCells g o vs).heap[k]? = w.heap[k]?
  | [], o, w, k, h => rfl
  | v :: r, o, w, k, h => (setCells_heap r (o + 1) _ k h).trans (Below.heap_setCell _ _ _ _ h)
theorem setCells_size {g : Nat} : ∀ (vs : List Value) (o : Nat) (w : World), (w.setCells g o vs).heap.size = w.heap.size
  | [], o, w => rfl
  | v :: r, o, w => (setCells_size r (o + 1) _).trans (by simp [World.setCell])
theorem below_setCells {B g : Nat} {a : World} : ∀ (vs : List Value) (o : Nat) (w : World), Below B a w → B ≤ g → Below B a (w.setCells g o vs)
  | [], o, w, h, _ => h
  | v :: r, o, w, h, hg => below_setCells r (o + 1) _ (h.setCell (p := ⟨g, o, none⟩) hg v) hg
theorem results_cell_mid {fn : Func} {p : Tmp} {ty : TypeId} (h : fn.results = #[.cell p ty]) (tmps : Array Value) (P : Program) (w : World) (g : Nat) (cs : List Value) (d : TypeDesc)
    (hp : tmps.getD p undef = .pointer (some ⟨g, 0, none⟩)) (hc : w.rangeAt g 0 cs)
    (hu : P.underlying ty = some d) (hd : d.isRow = true) (hi : (P.info? ty).map (·.size) = some cs.length) :
    (results fn tmps).run P w = .ok (.agg cs.toArray) w := by
  have hp' : tmps[p]?.getD undef = .pointer (some ⟨g, 0, none⟩) := by simpa using hp
  simp [results, h, hp', asAddr, run_loadVar_mid w g 0 ty cs d hc hu hd hi]
end Go.Proofs.Ytghcemfffhjmjaa
