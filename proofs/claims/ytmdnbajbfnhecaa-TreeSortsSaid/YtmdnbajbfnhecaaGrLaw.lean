/- A graft as data; a store of a name. -/
import Derived.Test.YtmdnbajbfnhecaaLow
set_option linter.unusedVariables false
namespace Go.Proofs.Ytmdnbajbfnhecaa
open Go.RowKit
/-! A graft, as data. -/
def headless : List Nd → List Nd
  | [] => []
  | x :: r => ⟨x.p, ByteArray.empty, x.ps⟩ :: r
def pieceB (l : List Nd) : Bool := match l with
  | [] => false
  | x :: r => nameB x.n.data.toList && ((checkF (headless l)).2 == 0)
def putF (p : List Nd) (at_ : Int) (z : Nat) : List Nd := p.mapIdx fun j x => x.par (if j = 0 then at_ else x.p + z)
def liftOne (z m : Nat) (x : Nd) : Nd := if (z : Int) ≤ x.p then x.par (x.p + m) else x
def graftF (l : List Nd) (at_ : Int) (p : List Nd) (z : Nat) : List Nd := l.take z ++ putF p at_ z ++ (l.drop z).map (liftOne z p.length)
theorem headless_len (l : List Nd) : (headless l).length = l.length := by cases l <;> simp [headless]
theorem headless_set {l : List Nd} (h : 0 < l.length) : headless l = l.set 0 ⟨l[0].p, ByteArray.empty, l[0].ps⟩ := by
  cases l with
  | nil => cases h
  | cons x r => rfl
theorem pieceB_no {l : List Nd} (h : l.length = 0) : pieceB l = false := by
  cases l with
  | nil => rfl
  | cons x r => simp at h
theorem pieceB_some {l : List Nd} (h : 0 < l.length) : pieceB l = (nameB l[0].n.data.toList && ((checkF (headless l)).2 == 0)) := by
  cases l with
  | nil => cases h
  | cons x r => rfl
theorem headless_p {l : List Nd} {j : Nat} (h : j < l.length) : ((headless l)[j]'(by rw [headless_len]; exact h)).p = l[j].p := by
  cases l with
  | nil => cases h
  | cons x r => cases j <;> rfl
theorem piece_fine {l : List Nd} (h : (checkF (headless l)).2 = 0) : 0 < l.length ∧ l.length ≤ 512 ∧ ∀ j (h : j < l.length), -1 ≤ l[j].p ∧ l[j].p ≤ 512 := by
  obtain ⟨hf, h1, h2⟩ := check_fine h
  rw [headless_len] at h1 h2
  refine ⟨h1, h2, fun j hj => ?_⟩
  have hp := fine_par hf (j := j) (by rw [headless_len]; exact hj) (by rw [headless_len]; exact hj)
  unfold parAt at hp
  rw [Int.toNat_natCast, List.getElem?_eq_getElem (by rw [headless_len]; exact hj)] at hp
  simp only [headless_p hj] at hp
  omega
theorem fine_bd {l : List Nd} (hf : Fine l l.length) (h5 : l.length ≤ 512) {j : Nat} (hj : j < l.length) : -1 ≤ l[j].p ∧ l[j].p ≤ 512 := by
  have hp := fine_par hf hj hj
  unfold parAt at hp
  rw [Int.toNat_natCast, List.getElem?_eq_getElem hj] at hp
  simp only at hp
  omega
theorem put_len (p : List Nd) (at_ : Int) (z : Nat) : (putF p at_ z).length = p.length := by simp [putF]
theorem put_get {p : List Nd} {at_ : Int} {z j : Nat} (h : j < p.length) : (putF p at_ z)[j]'(by rw [put_len]; exact h) = p[j].par (if j = 0 then at_ else p[j].p + z) := by simp [putF]
theorem put_take {p : List Nd} {at_ : Int} {z j : Nat} (h : j < p.length) : putF (p.take (j + 1)) at_ z = putF (p.take j) at_ z ++ [p[j].par (if j = 0 then at_ else p[j].p + z)] := by
  unfold putF
  rw [take_snoc h, List.mapIdx_append]
  congr 1
  simp only [List.mapIdx_cons, List.mapIdx_nil, List.length_take]
  rw [Nat.min_eq_left (by omega)]
  simp
noncomputable def graftE (l : List Nd) (at_ : Int) (p : List Nd) : Int := if wrongF l at_ ≠ 0 then wrongF l at_ else if pieceB p = false then 40 else (checkF (graftF l at_ p (endN l at_.toNat))).2
noncomputable def graftR (l : List Nd) (at_ : Int) (p : List Nd) : List Nd := if graftE l at_ p = 0 then graftF l at_ p (endN l at_.toNat) else []
/-- What a graft hands back. -/
def GraftRet (l : List Nd) (at_ : Int) (p : List Nd) (w' : World) (base : Nat) (e : Ending) : Prop := ∃ (A1 : Option Addr) (n1 c1 : Nat) (l1 : List Nm),
  e = .returned (.tuple #[.slice A1 n1 c1, .int .i64 (graftE l at_ p)]) ∧ OwnN w' base A1 n1 c1 l1 ∧ dat l1 = graftR l at_ p
def RGraftRet (l : List Nd) (at_ : Int) (p : List Nd) (w' : World) (base : Nat) (e : Ending) : Prop := ∃ (A1 : Option Addr) (n1 c1 : Nat) (l1 : List Nm),
  e = .returned (.tuple #[.slice A1 n1 c1, .int .i64 (graftE l at_ p)]) ∧ NodesL w' base A1 n1 l1 ∧ dat l1 = graftR l at_ p
theorem graftret_no {l p : List Nd} {at_ r : Int} {w' : World} {base : Nat} (h : r ≠ 0) (hr : r = graftE l at_ p) : GraftRet l at_ p w' base (.returned (.tuple #[.slice none 0 0, .int .i64 r])) := by
  subst hr
  exact ⟨none, 0, 0, [], rfl, own_none _ _, by unfold graftR; rw [if_neg h]; rfl⟩
theorem rgraftret_no {l p : List Nd} {at_ r : Int} {w' : World} {base : Nat} (h : r ≠ 0) (hr : r = graftE l at_ p) : RGraftRet l at_ p w' base (.returned (.tuple #[.slice none 0 0, .int .i64 r])) := by
  subst hr
  exact ⟨none, 0, 0, [], rfl, (own_none _ _).lowN, by unfold graftR; rw [if_neg h]; rfl⟩
section
variable {w : World} {base n c : Nat} {A : Option Addr} {l : List Nm}
/-- A store into a node's parent or name. -/
theorem OwnN.setC (h : OwnN w base A n c l) {k : Nat} (hk : k < l.length) {j : Nat} (hj : j < 2) (u : Value) (y : Nm) (hv : y.val = l[k].val) (hps : y.d.ps = l[k].d.ps) (hc : l[k].cells.set j u = y.cells) :
    ∃ g, A = some ⟨g, 0, none⟩ ∧ base ≤ g ∧ w.frozen? ⟨g, k * 3 + j, none⟩ = false ∧ OwnN (w.setCell ⟨g, k * 3 + j, none⟩ u) base A n c (l.set k y) := by
  have hn : 0 < n := by have := h.len; omega
  obtain ⟨g, cap, hv', hb, hlt⟩ := h.row.form hn
  injection hv' with hA hc'
  subst hA
  refine ⟨g, rfl, hb, h.row.frozenAt _, ?_⟩
  have hst := h.row.stored (k * 3 + j) u
  have hset : (nmCells l).set (k * 3 + j) u = nmCells (l.set k y) := flat_set Nm.cells 3 nm_len l k j y u hk (by omega) hc
  refine ⟨by simp [h.len], ?_, ?_, pair_set hk hv h.apart⟩
  · rw [← hset]; exact hst.1
  · intro x hx
    have hold : ∃ x0 ∈ l, x.val = x0.val ∧ x.d.ps = x0.d.ps := by
      obtain ⟨i, hi, rfl⟩ := List.mem_iff_getElem.1 hx
      by_cases hik : k = i
      · subst hik; exact ⟨l[k], List.getElem_mem hk, by simp [hv], by simp [hps]⟩
      · exact ⟨l[i]'(by simpa using hi), List.getElem_mem _, by simp [hik], by simp [hik]⟩
    obtain ⟨x0, h0, e1, e2⟩ := hold
    rw [e1, e2]
    exact own_keep (h.props x0 h0) fun g' hg' _ => Below.heap_setCell _ _ _ _ (by
      intro e
      subst e
      exact own_types (h.props x0 h0) h.row (by decide) _ hg' rfl)
/-- The cells of a node, and what a store of its name leaves. -/
theorem OwnN.name_ (h : OwnN w base A n c l) {k : Nat} (hk : k < l.length) : ∃ g, A = some ⟨g, 0, none⟩ ∧ base ≤ g ∧ w.cell? ⟨g, k * 3 + 1, none⟩ = some (.string l[k].d.n) ∧ w.frozen? ⟨g, k * 3 + 1, none⟩ = false ∧
    ∀ s, OwnN (w.setCell ⟨g, k * 3 + 1, none⟩ (.string s)) base A n c (l.set k ⟨⟨l[k].d.p, s, l[k].d.ps⟩, l[k].A, l[k].c⟩) := by
  obtain ⟨g, hA, hb, hf, _⟩ := h.setC hk (j := 1) (by omega) (.string l[k].d.n) l[k] rfl rfl rfl
  refine ⟨g, hA, hb, ?_, hf, fun s => ?_⟩
  · have hr := h.row
    rw [hA] at hr
    rw [hr.cellAt (k * 3 + 1) (by have := h.len; omega)]
    exact flat_get Nm.cells 3 nm_len l k 1 hk (by omega)
  · obtain ⟨g', hA', _, _, h3⟩ := h.setC hk (j := 1) (by omega) (.string s) ⟨⟨l[k].d.p, s, l[k].d.ps⟩, l[k].A, l[k].c⟩ rfl rfl rfl
    rw [hA] at hA'
    injection hA' with e
    injection e with e
    subst e
    exact h3
end
theorem dat_at {l : List Nm} {k : Nat} (hk : k < l.length) : (dat l)[k]? = some l[k].d := by unfold dat; rw [List.getElem?_map, List.getElem?_eq_getElem hk]; rfl
end Go.Proofs.Ytmdnbajbfnhecaa
