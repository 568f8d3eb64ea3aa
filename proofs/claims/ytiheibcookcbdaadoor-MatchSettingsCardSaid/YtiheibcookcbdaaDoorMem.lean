/- Rows, slices that lead to a row, appends: plain facts about memory. No program in sight. -/
import Derived.Test.YtiheibcookcbdaaDoorBase
import Derived.Maps.AppendAt
import Derived.Deep.RegionLaw
import Derived.Deep.RegionHeld3
set_option linter.unusedVariables false
namespace Go.Proofs.YtiheibcookcbdaaDoor
open Go.RowKit
/-- A slice that leads to the head of a row from block B on. -/
def Vec (w : World) (B : Nat) (A : Option Addr) (e : TypeId) (xs : List Value) : Prop := xs ≠ [] → ∃ g, A = some ⟨g, 0, none⟩ ∧ B ≤ g ∧ RowAt w g e xs
theorem Vec.keep {w w' : World} {B : Nat} {A : Option Addr} {e : TypeId} {xs : List Value} (h : Vec w B A e xs) (hk : ∀ g, A = some ⟨g, 0, none⟩ → B ≤ g → g < w.heap.size → w'.heap[g]? = w.heap[g]?) : Vec w' B A e xs := fun hx => by
  obtain ⟨g, ha, hb, hr⟩ := h hx
  exact ⟨g, ha, hb, hr.keep (hk g ha hb hr.lt)⟩
theorem Vec.of_own {w : World} {B n c size : Nat} {A : Option Addr} {e : TypeId} {xs : List Value} (h : w.ownsRow B e size (.slice A n c) n xs) : Vec w B A e xs := fun hx => by
  have hn : 0 < n := by
    rcases Nat.eq_zero_or_pos n with h0 | h0
    · subst h0
      exact absurd (List.eq_nil_of_length_eq_zero (by simpa using h.1)) hx
    · exact h0
  obtain ⟨g, ha, hb, _, hr⟩ := RowAt.of_own h hn
  exact ⟨g, ha, hb, hr⟩
theorem Vec.mono {w : World} {B B' : Nat} {A : Option Addr} {e : TypeId} {xs : List Value} (h : Vec w B A e xs) (hB : B' ≤ B) : Vec w B' A e xs := fun hx => by
  obtain ⟨g, ha, hb, hr⟩ := h hx
  exact ⟨g, ha, by omega, hr⟩
theorem Vec.below {w w' : World} {B : Nat} {A : Option Addr} {e : TypeId} {xs : List Value} (h : Vec w B A e xs) (hb : Below w.heap.size w w') : Vec w' B A e xs := h.keep fun g _ _ hg => hb.block g hg
theorem Vec.seg {w : World} {B B' : Nat} {A : Option Addr} {e : TypeId} {xs : List Value} (h : Vec w B A e xs) (hB : w.heap.size ≤ B') : Seg w B' A xs := fun hx => by
  obtain ⟨g, rfl, hb, hr⟩ := h hx
  exact hr.seg (B := B') (by have := hr.lt; omega) hx
theorem own_apart {w : World} {base size n g : Nat} {e e' : TypeId} {v : Value} {xs ys : List Value} (h : w.ownsRow base e size v n xs) (hr : RowAt w g e' ys) (hne : e' ≠ e) : v.ownBlock ≠ some g := by
  intro hv
  rcases h.2 with ⟨rfl, _⟩ | ⟨g', cap, cur, rfl, _, hh, _⟩
  · cases hv
  · have : g' = g := by simpa [Value.ownBlock] using hv
    subst this
    obtain ⟨cur', h', _⟩ := hr
    rw [hh] at h'
    injection h' with h'
    injection h' with _ ht
    exact hne ht.symm
theorem Vec.keep2 {w w' : World} {B : Nat} {A : Option Addr} {e : TypeId} {xs : List Value} (h : Vec w B A e xs) (hk : ∀ g, B ≤ g → RowAt w g e xs → w'.heap[g]? = w.heap[g]?) : Vec w' B A e xs := fun hx => by
  obtain ⟨g, ha, hb, hr⟩ := h hx
  exact ⟨g, ha, hb, hr.keep (hk g hb hr)⟩
theorem own_keep {w w' : World} {base size n : Nat} {e : TypeId} {v : Value} {xs : List Value} (h : w.ownsRow base e size v n xs) (hk : ∀ g, v.ownBlock = some g → w'.heap[g]? = w.heap[g]?) : w'.ownsRow base e size v n xs := by
  refine ⟨h.1, ?_⟩
  rcases h.2 with h2 | ⟨g, cap, cur, a1, a2, a3, a4⟩
  · exact .inl h2
  · exact .inr ⟨g, cap, cur, a1, a2, (hk g (by rw [a1]; rfl)).trans a3, a4⟩
theorem heap_new (X : World) (o : Obj) (nb : Nat) (h : nb = X.heap.size) : (X.alloc o).heap[nb]? = some o := by subst h; exact heap_alloc_new X o
theorem own_base {w : World} {base base' : Nat} {e : TypeId} {size n : Nat} {v : Value} {xs : List Value} (h : w.ownsRow base e size v n xs) (hb : base' ≤ base) : w.ownsRow base' e size v n xs := by
  refine ⟨h.1, ?_⟩
  rcases h.2 with h2 | ⟨g, cap, cur, a1, a2, a3⟩
  · exact .inl h2
  · exact .inr ⟨g, cap, cur, a1, by omega, a3⟩
theorem info_parts {P : Program} {t : TypeId} {z : Option Value} {s b : Nat} (h : (P.info? t).map (fun i => (i.zero, i.size, i.bytes)) = some (z, s, b)) : ∃ i, P.info? t = some i ∧ i.zero = z ∧ i.size = s ∧ i.bytes = b := by
  rcases hi : P.info? t with _ | i
  · rw [hi] at h; cases h
  · rw [hi] at h
    simp at h
    exact ⟨i, rfl, h.1, h.2.1, h.2.2⟩
theorem seg_new (w : World) (e : TypeId) (cs : Array Value) : Seg (w.alloc (.cells cs e (0, 0))) (w.heap.size + 1) (some ⟨w.heap.size, 0, none⟩) cs.toList := fun _ => by
  refine ⟨_, 0, rfl, by omega, fun j u hu => ?_⟩
  rw [cell_of_row _ _ _ _ _ (0, 0) (heap_alloc_new w _), Nat.zero_add]
  simpa using hu
theorem own_setCells {g : Nat} {base : Nat} {e : TypeId} {size n : Nat} {v : Value} {xs : List Value} (hg : g < base) : ∀ (vs : List Value) (o : Nat) (w : World), w.ownsRow base e size v n xs → (w.setCells g o vs).ownsRow base e size v n xs
  | [], o, w, h => h
  | x :: r, o, w, h => own_setCells hg r (o + 1) _ (ownsRow_setCell_below h (a := ⟨g, o, none⟩) hg x)
theorem frame_setCells {g : Nat} {S : Nat → Prop} {a : World} (hg : g < a.heap.size → S g) : ∀ (vs : List Value) (o : Nat) (w : World), Frame S a w → Frame S a (w.setCells g o vs)
  | [], o, w, h => h
  | v :: r, o, w, h => frame_setCells hg r (o + 1) _ (h.setCell (p := ⟨g, o, none⟩) hg v)
theorem row_mid_there {w : World} {g : Nat} {e : TypeId} {xs : List Value} (h : RowAt w g e xs) (o m : Nat) (hm : o + m ≤ xs.length) : w.there g o m := fun j hj => by
  refine ⟨?_, h.frozen _⟩
  rw [h.cell (by omega), List.getElem?_eq_getElem (by omega)]
  rfl
theorem step_append_seg {P : Program} {w : World} {ops : Array Oper} {o : Oper} {a : Act} {K : Act → World → Prop} {Q : Exit → Act → World → Prop} {E : Prop} (hgd : o.guard = none) (s x : Operand) (t : TypeId)
    (ho : o.op = .call { callee := .builtin .append, args := #[s, x], argTypes := #[t, t] })
    (base : Nat) (e : TypeId) (i : TypeInfo) (z : Value) (size bytes : Nat) (ht : P.underlying t = some (.slice e)) (hi : P.info? e = some i) (hz : i.zero = some z)
    (hsize : i.size = size) (hby : i.bytes = bytes) (hzs : z.cells.size = size) (hsz : 0 < size)
    (v : Value) (n : Nat) (xs : List Value) (hs : a.eval s = v) (hown : w.ownsRow base e size v n xs)
    (B : Nat) (A : Option Addr) (m c : Nat) (news : List Value) (hx : a.eval x = .slice A m c) (hl : news.length = m * size) (hr : Seg w B A news) (h1 : ∀ u ∈ news, u.oneCell' = true)
    (h63 : n + m ≤ maxLen) (hbytes : (n + m) * bytes ≤ 140737488355328) (hbase : base ≤ w.heap.size)
    (h : ∀ v' w', w'.ownsRow base e size v' (n + m) (xs ++ news) → w.grownBy w' v.ownBlock → (v' = .slice none 0 0 → v = .slice none 0 0) → K (a.put o.dst v') w') :
    if Region.wanted o (yielded ops a.tmps) = true then Oper.wp P o a w K Q else E := by
  have hw : Region.wanted o (yielded ops a.tmps) = true := by simp [Region.wanted, hgd]
  rw [if_pos hw]
  obtain ⟨v', w', hrun, h2, h3, h4⟩ := run_append_seg (P := P) w base t o.type e i z size bytes ht hi hz hsize hby hzs hsz v n xs hown B A m c news hl hr h1 h63 hbytes hbase
  unfold Oper.wp execOp
  simp only [ho, resolve, invoke, builtin, Sem.run_bind, Sem.run_pure, Result.andThen_ok, List.map_toArray, List.map_cons, List.map_nil, hs, hx, hrun]
  exact h v' w' h2 h3 h4
theorem own_set {w : World} {base g n c : Nat} {e : TypeId} {xs : List Value} (h : w.ownsRow base e 1 (.slice (some ⟨g, 0, none⟩) n c) n xs) (i : Nat) (u : Value) : (w.setCell ⟨g, i, none⟩ u).ownsRow base e 1 (.slice (some ⟨g, 0, none⟩) n c) n (xs.set i u) := by
  obtain ⟨hl, h2⟩ := h
  refine ⟨by rw [List.length_set]; exact hl, ?_⟩
  rcases h2 with ⟨h3, _⟩ | ⟨g', cap, cur, hv, hb, hg, hn, hc, hs, ht⟩
  · cases h3
  · obtain ⟨rfl, rfl⟩ : g' = g ∧ cap = c := by
      injection hv with h4 h5 h6
      injection h4 with h4
      injection h4 with h4
      exact ⟨h4.symm, h6.symm⟩
    refine .inr ⟨g', cap, cur.setIfInBounds i u, hv, hb, heap_setCell_same w g' i cur e u hg, hn, hc, by rw [Array.size_setIfInBounds]; exact hs, ?_⟩
    rw [Array.toList_setIfInBounds, List.take_set, ht]
theorem own_len {w : World} {base n c : Nat} {A : Option Addr} {e : TypeId} {xs : List Value} (h : w.ownsRow base e 1 (.slice A n c) n xs) : xs.length = n := by rw [h.1, Nat.mul_one]
section
variable {P : Program} {w : World}
theorem wpList_append_at {ops : Array Oper} {rest : List Oper} {o : Oper} {a : Act} {Q : Exit → Act → World → Prop} (hgd : o.guard = none) (s x : Operand) (t : TypeId)
    (ho : o.op = .call { callee := .builtin .append, args := #[s, x], argTypes := #[t, t] })
    (base : Nat) (e : TypeId) (i : TypeInfo) (z : Value) (size bytes : Nat) (ht : P.underlying t = some (.slice e)) (hi : P.info? e = some i) (hz : i.zero = some z)
    (hsize : i.size = size) (hby : i.bytes = bytes) (hzs : z.cells.size = size) (hsz : 0 < size)
    (v : Value) (n : Nat) (xs : List Value) (hs : a.eval s = v) (hown : w.ownsRow base e size v n xs)
    (ad : Addr) (m c : Nat) (news : List Value) (hx : a.eval x = .slice (some ad) m c) (hl : news.length = m * size) (hnews : ∀ j u, news[j]? = some u → w.cell? (ad.add j) = some u) (h1 : ∀ u ∈ news, u.oneCell' = true)
    (h63 : n + m ≤ maxLen) (hbytes : (n + m) * bytes ≤ 140737488355328) (hbase : base ≤ w.heap.size)
    (h : ∀ v' w', w'.ownsRow base e size v' (n + m) (xs ++ news) → w.grownBy w' v.ownBlock → (v'.ownBlock = v.ownBlock ∨ v'.ownBlock = some w.heap.size) → wpList P ops Q rest (a.put o.dst v') w') : wpList P ops Q (o :: rest) a w := by
  refine wpList_plain hgd fun _ hK => ?_
  obtain ⟨v', w', hrun, h2, h3, _, h4⟩ := run_append_own_at (P := P) w base t o.type e i z size bytes ht hi hz hsize hby hzs hsz v n xs hown ad m c news hl hnews h1 h63 hbytes hbase
  unfold Oper.wp execOp
  simp only [ho, resolve, invoke, builtin, Sem.run_bind, Sem.run_pure, Result.andThen_ok, List.map_toArray, List.map_cons, List.map_nil, hs, hx, hrun]
  exact hK _ _ (h v' w' h2 h3 h4)
end
theorem RowAt.setOther {w : World} {g : Nat} {e : TypeId} {xs : List Value} (h : RowAt w g e xs) (p : Addr) (hp : p.block ≠ g) (u : Value) : RowAt (w.setCell p u) g e xs :=
  h.frame (S := fun j => j = p.block) (Frame.setCell (S := fun j => j = p.block) (p := p) (Frame.refl _ w) (fun _ => rfl) u) (fun e => hp e.symm)
theorem own_gt {w : World} {base n size : Nat} {e : TypeId} {A : Option Addr} {c : Nat} {xs : List Value} (h : w.ownsRow base e size (.slice A n c) n xs) (hn : 0 < n) : ∀ b off, A = some ⟨b, off, none⟩ → base ≤ b := fun b off e => by
  obtain ⟨g, e', hb, _⟩ := own_head h hn
  rw [e'] at e
  injection e with e
  injection e with e
  omega
theorem list_of {α : Type} (Q : Nat → α → Prop) : ∀ n : Nat, (∀ i, i < n → ∃ c, Q i c) → ∃ l : List α, l.length = n ∧ ∀ i (h : i < l.length), Q i l[i]
  | 0, _ => ⟨[], rfl, fun i h => absurd h (Nat.not_lt_zero i)⟩
  | n + 1, h => by
    obtain ⟨l, hl, hq⟩ := list_of Q n (fun i hi => h i (by omega))
    obtain ⟨c, hc⟩ := h n (by omega)
    refine ⟨l ++ [c], by simp [hl], fun i hi => ?_⟩
    rcases (show i < l.length ∨ i = l.length by simp at hi; omega) with hi2 | rfl
    · rw [List.getElem_append_left hi2]; exact hq i hi2
    · simp only [List.getElem_append_right (Nat.le_refl _), Nat.sub_self, List.getElem_cons_zero]
      rw [hl]; exact hc
end Go.Proofs.YtiheibcookcbdaaDoor
