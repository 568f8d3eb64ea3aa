/- Cards as data and in memory; what may be. -/
import Derived.Test.YtiheibcookcbdaaDoorRunes
set_option linter.unusedVariables false
namespace Go.Proofs.YtiheibcookcbdaaDoor
open Go.RowKit
/-- A card's data. -/
structure Cc where
  nm : ByteArray
  fam : ByteArray
  lv : Nat
  ts : List ByteArray
  sc : Int
  qk : ByteArray
  en : Int
/-- A card as it lies: where its texts stand, what room is there. -/
structure Cd where
  d : Cc
  A : Option Addr
  c : Nat
def Cd.cells (x : Cd) : List Value := [.string x.d.nm, .string x.d.fam, .int .u8 (x.d.lv : Int), .slice x.A x.d.ts.length x.c, .int .i8 x.d.sc, .string x.d.qk, .int .i16 x.d.en]
def cdCells (l : List Cd) : List Value := l.flatMap Cd.cells
theorem cd_len (x : Cd) : (Cd.cells x).length = 7 := rfl
def strs (l : List ByteArray) : List Value := l.map .string
theorem strs_len (l : List ByteArray) : (strs l).length = l.length := by simp [strs]
theorem strs_one (l : List ByteArray) : ∀ v ∈ strs l, v.oneCell' = true := fun v hv => by
  obtain ⟨x, _, rfl⟩ := List.mem_map.1 hv
  rfl
theorem Seg.strs {w : World} {B : Nat} {a : Option Addr} {zs : List ByteArray} (h : Seg w B a (strs zs)) {k : Nat} (hk : k < zs.length) :
    ∃ b off, a = some ⟨b, off, none⟩ ∧ b < B ∧ w.cell? ⟨b, off + k, none⟩ = some (.string zs[k]) := by
  obtain ⟨b, off, e, hb, hc⟩ := h (by intro e; have := congrArg List.length e; rw [strs_len] at this; simp at this; subst this; simp at hk)
  exact ⟨b, off, e, hb, hc k _ (by unfold YtiheibcookcbdaaDoor.strs; simp [hk])⟩
/-- How great a card's parts may be. -/
structure Cc.fits (x : Cc) : Prop where
  nm : x.nm.size ≤ maxLen
  fam : x.fam.size ≤ maxLen
  qk : x.qk.size ≤ maxLen
  lv : x.lv ≤ 255
  ts : ∀ t ∈ x.ts, t.size ≤ maxLen
/-- Cards in memory. -/
structure Cards (w : World) (B : Nat) (a : Option Addr) (l : List Cd) : Prop where
  seg : Seg w B a (cdCells l)
  ts : ∀ x ∈ l, Seg w B x.A (strs x.d.ts)
  cap : ∀ x ∈ l, x.d.ts.length ≤ x.c
section
variable {w w' : World} {B B' : Nat} {a : Option Addr} {l : List Cd}
theorem Cards.below (h : Cards w B a l) (hb : Below B w w') : Cards w' B a l := ⟨h.seg.below hb, fun x hx => (h.ts x hx).below hb, h.cap⟩
theorem Cards.more (h : Cards w B a l) (hB : B ≤ B') : Cards w B' a l := ⟨h.seg.more hB, fun x hx => (h.ts x hx).more hB, h.cap⟩
theorem Cards.at_ (h : Cards w B a l) {k : Nat} (hk : k < l.length) : ∃ b off, a = some ⟨b, off, none⟩ ∧ b < B ∧
    w.cell? ⟨b, off + k * 7, none⟩ = some (.string l[k].d.nm) ∧ w.cell? ⟨b, off + k * 7 + 1, none⟩ = some (.string l[k].d.fam) ∧ w.cell? ⟨b, off + k * 7 + 2, none⟩ = some (.int .u8 (l[k].d.lv : Int)) ∧
    w.cell? ⟨b, off + k * 7 + 3, none⟩ = some (.slice l[k].A l[k].d.ts.length l[k].c) ∧ w.cell? ⟨b, off + k * 7 + 4, none⟩ = some (.int .i8 l[k].d.sc) ∧ w.cell? ⟨b, off + k * 7 + 5, none⟩ = some (.string l[k].d.qk) ∧
    w.cell? ⟨b, off + k * 7 + 6, none⟩ = some (.int .i16 l[k].d.en) ∧ Seg w B l[k].A (strs l[k].d.ts) := by
  obtain ⟨b, off, e, hb, hc⟩ := h.seg.thing (f := Cd.cells) (m := 7) cd_len (by omega) hk
  exact ⟨b, off, e, hb, hc 0 _ rfl, hc 1 _ rfl, hc 2 _ rfl, hc 3 _ rfl, hc 4 _ rfl, hc 5 _ rfl, hc 6 _ rfl, h.ts _ (List.getElem_mem hk)⟩
end
/-! What may be. -/
def textB (t : ByteArray) : Bool := decide (1 ≤ t.size) && decide (t.size ≤ 63) && t.data.toList.all fun c => c != 0
def textOk (l : List ByteArray) (i : Nat) : Bool := match l[i]? with
  | some t => textB t && !(l.take i).any fun x => x == t
  | none => true
def textsB (l : List ByteArray) : Bool := decide (1 ≤ l.length) && decide (l.length ≤ 8) && (List.range l.length).all (textOk l)
def mayB (x : Cc) : Bool := nameB x.nm.data.toList && nameB x.fam.data.toList && (decide (x.qk.size = 0) || nameB x.qk.data.toList) && decide (x.lv ≤ 4) && decide (-100 ≤ x.sc) && decide (x.sc ≤ 100) && decide (-1 ≤ x.en) && decide (x.en ≤ 47) && textsB x.ts
def cardOk (l : List Cc) (i : Nat) : Bool := match l[i]? with
  | some x => decide (i < 64) && mayB x && !(l.take i).any fun y => y.nm == x.nm
  | none => true
def allOk (l : List Cc) : Bool := (List.range l.length).all (cardOk l)
end Go.Proofs.YtiheibcookcbdaaDoor
