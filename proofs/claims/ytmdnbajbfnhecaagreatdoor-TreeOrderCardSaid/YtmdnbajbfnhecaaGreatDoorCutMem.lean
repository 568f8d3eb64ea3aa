/- A cut in memory. -/
import Derived.Test.YtmdnbajbfnhecaaGreatDoorPTwin
import Derived.Test.YtmdnbajbfnhecaaGreatDoorMut2
import Derived.Test.YtmdnbajbfnhecaaGreatDoorCutLaw
import Derived.Test.YtmdnbajbfnhecaaGreatDoorAC
set_option linter.unusedVariables false
namespace Go.Proofs.YtmdnbajbfnhecaaGreatDoor
open Go.RowKit
theorem flat_take {α : Type} (f : α → List Value) (m : Nat) (hf : ∀ x, (f x).length = m) : ∀ (l : List α) (k : Nat), (l.take k).flatMap f = (l.flatMap f).take (k * m)
  | [], k => by simp
  | x :: l, 0 => by simp
  | x :: l, k + 1 => by
    rw [List.take_succ_cons, List.flatMap_cons, List.flatMap_cons, flat_take f m hf l k, List.take_append, hf, List.take_of_length_le (l := f x) (by rw [hf, Nat.add_mul]; omega)]
    congr 2
    rw [Nat.add_mul]; omega
theorem flat_drop {α : Type} (f : α → List Value) (m : Nat) (hf : ∀ x, (f x).length = m) : ∀ (l : List α) (k : Nat), (l.drop k).flatMap f = (l.flatMap f).drop (k * m)
  | [], k => by simp
  | x :: l, 0 => by simp
  | x :: l, k + 1 => by
    rw [List.drop_succ_cons, List.flatMap_cons, flat_drop f m hf l k, List.drop_append, hf, List.drop_of_length_le (l := f x) (by rw [hf, Nat.add_mul]; omega)]
    rw [show (k + 1) * m - m = k * m by rw [Nat.add_mul]; omega]
    simp
section
variable {w : World} {B : Nat} {a : Option Addr} {l : List Nm}
theorem Seg.take {xs : List Value} (h : Seg w B a xs) (k : Nat) : Seg w B a (xs.take k) := fun hne => by
  obtain ⟨b, off, e, hb, hc⟩ := h (by intro e; rw [e] at hne; simp at hne)
  refine ⟨b, off, e, hb, fun j u hu => hc j u ?_⟩
  rw [List.getElem?_take] at hu
  split at hu
  · exact hu
  · cases hu
theorem Seg.drop {xs : List Value} {b off : Nat} (h : Seg w B (some ⟨b, off, none⟩) xs) (k : Nat) : Seg w B (some ⟨b, off + k, none⟩) (xs.drop k) := fun hne => by
  obtain ⟨b', off', e, hb, hc⟩ := h (by intro e; rw [e] at hne; simp at hne)
  injection e with e
  injection e with e1 e2
  subst e1 e2
  refine ⟨b, off + k, rfl, hb, fun j u hu => ?_⟩
  rw [List.getElem?_drop] at hu
  rw [Nat.add_assoc]
  exact hc _ u hu
theorem Nodes.take (h : Nodes w B a l) (k : Nat) : Nodes w B a (l.take k) := ⟨by unfold nmCells; rw [flat_take _ 3 nm_len]; exact h.seg.take _, fun x hx => h.props x (List.mem_of_mem_take hx)⟩
theorem Nodes.drop {b off : Nat} (h : Nodes w B (some ⟨b, off, none⟩) l) (k : Nat) : Nodes w B (some ⟨b, off + k * 3, none⟩) (l.drop k) := ⟨by unfold nmCells; rw [flat_drop _ 3 nm_len]; exact h.seg.drop _, fun x hx => h.props x (List.mem_of_mem_drop hx)⟩
theorem Nodes.nil_ (w : World) (B : Nat) (a : Option Addr) : Nodes w B a [] := ⟨Seg.nil, by simp⟩
end
theorem Sized.sub {l l' : List Nm} (h : Sized l) (hs : ∀ x ∈ l', x ∈ l) (hl : l'.length ≤ l.length) : Sized l' :=
  ⟨by have := h.n; omega, fun x hx => by
    unfold dat at hx
    obtain ⟨y, hy, rfl⟩ := List.mem_map.1 hx
    exact h.small y.d (by unfold dat; exact List.mem_map_of_mem (hs y hy)), fun x hx => h.props x (hs x hx), fun x hx => h.wf x (hs x hx)⟩
/-- One list of the call's own behind another. -/
theorem OwnN.join {w1 w2 w3 : World} {base base2 n1 c1 n2 c2 c3 : Nat} {A1 A2 A3 : Option Addr} {l1 l2 : List Nm} (h1 : OwnN w1 base A1 n1 c1 l1) (hb12 : Below w1.heap.size w1 w2) (h2 : OwnN w2 base2 A2 n2 c2 l2) (hbase : w1.heap.size ≤ base2) (hb : base ≤ w1.heap.size)
    (h3 : w3.ownsRow base 50 3 (.slice A3 (n1 + n2) c3) (n1 + n2) (nmCells (l1 ++ l2))) (hg : w2.grownBy w3 (Value.slice A1 n1 c1).ownBlock) : OwnN w3 base A3 (n1 + n2) c3 (l1 ++ l2) := by
  have k1 : OwnN w2 base A1 n1 c1 l1 := h1.below hb12
  refine ⟨by rw [List.length_append, h1.len, h2.len], h3, ?_, ?_⟩
  · intro x hx
    rcases List.mem_append.1 hx with hx | hx
    · exact own_keep (k1.props x hx) fun g hg' hlt => hg.block g hlt fun e => own_types (k1.props x hx) k1.row (by decide) g hg' e.symm
    · refine own_base (own_keep (h2.props x hx) fun g hg' hlt => hg.block g hlt fun e => ?_) (by omega)
      have a1 := ((h2.props x hx).lt g hg').1
      have a2 := (h1.row.lt g e.symm).2
      omega
  · rw [List.pairwise_append]
    refine ⟨h1.apart, h2.apart, fun y hy z hz g hg1 hg2 => ?_⟩
    have a1 := ((h1.props y hy).lt g hg1).2
    have a2 := ((h2.props z hz).lt g hg2).1
    omega
/-- The blocks of a list in memory. -/
def Blk (A : Option Addr) (l : List Nm) (g : Nat) : Prop := (Value.slice A 0 0).ownBlock = some g ∨ ∃ x ∈ l, x.val.ownBlock = some g
theorem OwnN.blk {w : World} {base n c : Nat} {A : Option Addr} {l : List Nm} (h : OwnN w base A n c l) {g : Nat} (hg : Blk A l g) : base ≤ g ∧ g < w.heap.size := by
  rcases hg with hg | ⟨x, hx, hg⟩
  · exact h.row.lt g (match A, hg with | some _, hg => hg)
  · exact (h.props x hx).lt g hg
theorem OwnN.keepB {w w' : World} {base n c : Nat} {A : Option Addr} {l : List Nm} (h : OwnN w base A n c l) (hk : ∀ g, Blk A l g → w'.heap[g]? = w.heap[g]?) : OwnN w' base A n c l :=
  ⟨h.len, own_keep h.row fun g hg _ => hk g (.inl (match A, hg with | some _, hg => hg)), fun x hx => own_keep (h.props x hx) fun g hg _ => hk g (.inr ⟨x, hx, hg⟩), h.apart⟩
noncomputable def cutR (l : List Nd) (i : Int) : List Nd := if cutE l i = 0 then restF l i.toNat (endN l i.toNat) else []
noncomputable def cutP (l : List Nd) (i : Int) : List Nd := if cutE l i = 0 then pieceF l i.toNat (endN l i.toNat) else []
/-- What a cut hands back. -/
def CutRet (l : List Nd) (i : Int) (w' : World) (base : Nat) (e : Ending) : Prop := ∃ (A1 : Option Addr) (n1 c1 : Nat) (l1 : List Nm) (A2 : Option Addr) (n2 c2 : Nat) (l2 : List Nm),
  e = .returned (.tuple #[.slice A1 n1 c1, .slice A2 n2 c2, .int .i64 (cutE l i)]) ∧ OwnN w' base A1 n1 c1 l1 ∧ OwnN w' base A2 n2 c2 l2 ∧ (∀ g, Blk A1 l1 g → ¬ Blk A2 l2 g) ∧ dat l1 = cutR l i ∧ dat l2 = cutP l i
theorem cutret_no {l : List Nd} {i : Int} {w' : World} {base : Nat} (h : cutE l i ≠ 0) {r : Int} (hr : r = cutE l i) : CutRet l i w' base (.returned (.tuple #[.slice none 0 0, .slice none 0 0, .int .i64 r])) := by
  subst hr
  refine ⟨none, 0, 0, [], none, 0, 0, [], rfl, own_none _ _, own_none _ _, ?_, ?_, ?_⟩
  · rintro g (h | ⟨x, hx, _⟩)
    · cases h
    · cases hx
  · unfold cutR; rw [if_neg h]; rfl
  · unfold cutP; rw [if_neg h]; rfl
theorem step_append_seg {P : Program} {w : World} {ops : Array Oper} {o : Oper} {a : Act} {K : Act → World → Prop} {Q : Exit → Act → World → Prop} {E : Prop} (hgd : o.guard = none) (s x : Operand) (t : TypeId)
    (ho : o.op = .call { callee := .builtin .append, args := #[s, x], argTypes := #[t, t] })
    (base : Nat) (e : TypeId) (i : TypeInfo) (z : Value) (size bytes : Nat) (ht : P.underlying t = some (.slice e)) (hi : P.info? e = some i) (hz : i.zero = some z)
    (hsize : i.size = size) (hby : i.bytes = bytes) (hzs : z.cells.size = size) (hsz : 0 < size)
    (v : Value) (n : Nat) (xs : List Value) (hs : a.eval s = v) (hown : w.ownsRow base e size v n xs)
    (B : Nat) (A : Option Addr) (m c : Nat) (news : List Value) (hx : a.eval x = .slice A m c) (hl : news.length = m * size) (hr : Seg w B A news) (h1 : ∀ u ∈ news, u.oneCell' = true)
    (h63 : n + m ≤ maxLen) (hbytes : (n + m) * bytes ≤ 140737488355328) (hbase : base ≤ w.heap.size)
    (h : ∀ v' w', w'.ownsRow base e size v' (n + m) (xs ++ news) → w.grownBy w' v.ownBlock → (v' = .slice none 0 0 → v = .slice none 0 0) → K (a.put o.dst v') w') :
    if Region.wanted o (yielded ops a.tmps) = true then Oper.wp P o a w K Q else E := by
  have hw : Region.wanted o (yielded ops a.tmps) = true := by simp [Region.wanted, hgd]
  rw [if_pos hw]
  obtain ⟨v', w', hrun, h2, h3, h4⟩ := run_append_seg (P := P) w base t o.type e i z size bytes ht hi hz hsize hby hzs hsz v n xs hown B A m c news hl hr h1 h63 hbytes hbase
  unfold Oper.wp execOp
  simp only [ho, resolve, invoke, builtin, Sem.run_bind, Sem.run_pure, Result.andThen_ok, List.map_toArray, List.map_cons, List.map_nil, hs, hx, hrun]
  exact h v' w' h2 h3 h4
theorem one_nm (l : List Nm) : ∀ u ∈ nmCells l, u.oneCell' = true := by
  intro u hu
  obtain ⟨x, _, hx⟩ := List.mem_flatMap.1 hu
  simp [Nm.cells] at hx
  rcases hx with rfl | rfl | rfl <;> rfl
end Go.Proofs.YtmdnbajbfnhecaaGreatDoor
