/- A graft in memory. -/
import Derived.Test.YtmdnbajbfnhecaaGraftN
set_option linter.unusedVariables false
namespace Go.Proofs.Ytmdnbajbfnhecaa
open Go.RowKit
theorem mix_same {α : Type} {X D : List α} (h : X.length = D.length) {k : Nat} (hk : k < X.length) (e : X[k] = D[k]'(by omega)) : X.take (k + 1) ++ D.drop (k + 1) = X.take k ++ D.drop k := by
  rw [← mix_step h hk, e]
  apply List.ext_getElem?
  intro j
  rw [List.getElem?_set]
  split
  · rename_i e2
    subst e2
    rw [if_pos (by simp; omega), mix_at h hk]
  · rfl
theorem put_zero {p : List Nd} {at_ : Int} {z : Nat} (h : 0 < p.length) : (putF p at_ z)[0]'(by rw [put_len]; exact h) = p[0].par at_ := by rw [put_get h]; rfl
/-- Sizes, of the data alone. -/
structure SizedD (l : List Nd) : Prop where
  n : l.length * 48 ≤ 140737488355328
  small : Small l
  props : ∀ x ∈ l, x.ps.length * 32 ≤ 140737488355328
  wf : ∀ x ∈ l, (Lit.int .i64 x.p).wf = true
theorem SizedD.mem {l : List Nm} (h : SizedD (dat l)) : Sized l :=
  ⟨by have := h.n; rwa [dat_len] at this, h.small, fun x hx => h.props x.d (by unfold dat; exact List.mem_map_of_mem hx), fun x hx => h.wf x.d (by unfold dat; exact List.mem_map_of_mem hx)⟩
theorem graft_sized {l p : List Nm} (hl : Sized l) (hp : Sized p) {k z : Nat} (hn : l.length ≤ 512) (hn' : p.length ≤ 512) (hk : k ≤ 512) (hz : z ≤ 512) (hlb : ∀ x ∈ l, -1 ≤ x.d.p ∧ x.d.p ≤ 512) (hpb : ∀ x ∈ p, -1 ≤ x.d.p ∧ x.d.p ≤ 512) : SizedD (graftF (dat l) k (dat p) z) := by
  have key : ∀ x ∈ graftF (dat l) k (dat p) z, ∃ y : Nm, (y ∈ l ∨ y ∈ p) ∧ x.n = y.d.n ∧ x.ps = y.d.ps ∧ -1 ≤ x.p ∧ x.p ≤ 2000 := fun x hx => by
    unfold graftF at hx
    rcases List.mem_append.1 hx with hx | hx
    · rcases List.mem_append.1 hx with hx | hx
      · have hx := List.mem_of_mem_take hx
        unfold dat at hx
        obtain ⟨y, hy, rfl⟩ := List.mem_map.1 hx
        have := hlb y hy
        exact ⟨y, .inl hy, rfl, rfl, by omega, by omega⟩
      · unfold putF at hx
        obtain ⟨j, hj, rfl⟩ := List.mem_mapIdx.1 hx
        have hj2 : j < p.length := by rwa [dat_len] at hj
        have := hpb _ (List.getElem_mem hj2)
        rw [dat_get p hj2]
        refine ⟨p[j], .inr (List.getElem_mem hj2), rfl, rfl, ?_, ?_⟩ <;> · simp only [Nd.par]; split <;> omega
    · obtain ⟨y, hy, rfl⟩ := List.mem_map.1 hx
      have hy2 := List.mem_of_mem_drop hy
      unfold dat at hy2
      obtain ⟨y2, hy3, rfl⟩ := List.mem_map.1 hy2
      have := hlb y2 hy3
      have hpl : (dat p).length = p.length := dat_len p
      refine ⟨y2, .inl hy3, ?_, ?_, ?_, ?_⟩
      · unfold liftOne; split <;> rfl
      · unfold liftOne; split <;> rfl
      · unfold liftOne; split
        · simp only [Nd.par]; omega
        · omega
      · unfold liftOne; split
        · simp only [Nd.par]; omega
        · omega
  refine ⟨?_, fun x hx => ?_, fun x hx => ?_, fun x hx => ?_⟩
  · unfold graftF
    simp only [List.length_append, List.length_take, put_len, List.length_map, List.length_drop, dat_len]
    omega
  · obtain ⟨y, hy, e1, e2, _⟩ := key x hx
    rw [e1, e2]
    rcases hy with hy | hy
    · exact hl.small y.d (by unfold dat; exact List.mem_map_of_mem hy)
    · exact hp.small y.d (by unfold dat; exact List.mem_map_of_mem hy)
  · obtain ⟨y, hy, e1, e2, _⟩ := key x hx
    rw [e2]
    rcases hy with hy | hy
    · exact hl.props y hy
    · exact hp.props y hy
  · obtain ⟨y, hy, e1, e2, h1, h2⟩ := key x hx
    exact WalkArith.wf_i64 (by omega)
/-- Three lists of the call's own in one new row. -/
theorem cat3 {w1 w2 w3 w4 : World} {b1 b2 b3 b4 n1 n2 n3 c1 c2 c3 N c4 : Nat} {A1 A2 A3 A4 : Option Addr} {l1 l2 l3 : List Nm} (h2 : OwnN w2 b2 A2 n2 c2 l2) (h3 : OwnN w3 b3 A3 n3 c3 l3) (h1 : OwnN w1 b1 A1 n1 c1 l1)
    (hb23 : w2.heap.size ≤ b3) (hb31 : w3.heap.size ≤ b1) (k2 : Below w2.heap.size w2 w4) (k3 : Below w3.heap.size w3 w4) (k1 : Below w1.heap.size w1 w4) {base : Nat} (hbase : base ≤ b2) (hb4 : base ≤ b4) (hbb : b2 ≤ w2.heap.size) (hb3 : b3 ≤ w3.heap.size)
    (hr : w4.ownsRow b4 30 3 (.slice A4 N c4) N (nmCells (l1 ++ l2 ++ l3))) (hN : N = n1 + n2 + n3) : OwnN w4 base A4 N c4 (l1 ++ l2 ++ l3) := by
  refine ⟨by rw [hN, List.length_append, List.length_append, h1.len, h2.len, h3.len], own_base hr hb4, ?_, ?_⟩
  · intro x hx
    rcases List.mem_append.1 hx with hx | hx
    · rcases List.mem_append.1 hx with hx | hx
      · exact own_base ((h1.below k1).props x hx) (by omega)
      · exact own_base ((h2.below k2).props x hx) (by omega)
    · exact own_base ((h3.below k3).props x hx) (by omega)
  · rw [List.pairwise_append, List.pairwise_append]
    refine ⟨⟨h1.apart, h2.apart, fun y hy z hz g hg1 hg2 => ?_⟩, h3.apart, fun y hy z hz g hg1 hg2 => ?_⟩
    · have a1 := ((h1.props y hy).lt g hg1).1
      have a2 := ((h2.props z hz).lt g hg2).2
      omega
    · have a3 := ((h3.props z hz).lt g hg2)
      rcases List.mem_append.1 hy with hy | hy
      · have a1 := ((h1.props y hy).lt g hg1).1
        omega
      · have a1 := ((h2.props y hy).lt g hg1).2
        omega
end Go.Proofs.Ytmdnbajbfnhecaa
