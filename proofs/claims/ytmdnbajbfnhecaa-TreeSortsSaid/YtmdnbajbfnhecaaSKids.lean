/- The kids' rows, the boxes and the list that is put together, while a tree is put in order. -/
import Derived.Test.YtmdnbajbfnhecaaSCmp
set_option linter.unusedVariables false
namespace Go.Proofs.Ytmdnbajbfnhecaa
open Go.RowKit
/-- A row of places, as it lies. -/
structure Rk where
  A : Option Addr
  c : Nat
  row : List Nat
def Rk.val (x : Rk) : Value := .slice x.A x.row.length x.c
theorem own_ne {w : World} {base : Nat} {e e' : TypeId} {size n g' : Nat} {v : Value} {xs ys : List Value} (h : w.ownsRow base e size v n xs) (h' : RowAt w g' e' ys) (hne : e ≠ e') {g : Nat} (hg : v.ownBlock = some g) : g ≠ g' := by
  rintro rfl
  rcases h.2 with ⟨rfl, _⟩ | ⟨g1, c1, cur1, rfl, _, a1, _⟩
  · cases hg
  obtain ⟨cur, h2, _⟩ := h'
  injection hg with hg
  subst hg
  rw [a1] at h2
  injection h2 with h2
  injection h2 with _ h2
  exact hne h2
/-- The rows of places, each in a block of its own, and the table of them. -/
structure KidsR (w : World) (base K : Nat) (R : List Rk) : Prop where
  tab : RowAt w K 41 (R.map Rk.val)
  hK : base ≤ K
  rows : ∀ x ∈ R, w.ownsRow base 3 1 x.val x.row.length (natsV x.row)
  apart : ∀ (i j : Nat) (hi : i < R.length) (hj : j < R.length), i ≠ j → ∀ g, Own1 R[i].A g → ¬ Own1 R[j].A g
def KBlk (K : Nat) (R : List Rk) (g : Nat) : Prop := g = K ∨ ∃ x ∈ R, Own1 x.A g
section
variable {w w' : World} {base K : Nat} {R : List Rk}
theorem KidsR.keepB (h : KidsR w base K R) (hk : ∀ g, KBlk K R g → w'.heap[g]? = w.heap[g]?) : KidsR w' base K R :=
  ⟨h.tab.keep (hk K (.inl rfl)), h.hK, fun x hx => own_keep (h.rows x hx) fun g hg _ => hk g (.inr ⟨x, hx, own1_val.1 hg⟩), h.apart⟩
theorem KidsR.blk (h : KidsR w base K R) {g : Nat} (hg : KBlk K R g) : base ≤ g ∧ g < w.heap.size := by
  rcases hg with rfl | ⟨x, hx, hg⟩
  · exact ⟨h.hK, h.tab.lt⟩
  · exact (h.rows x hx).lt g (own1_val.2 hg)
theorem KidsR.frame {S : Nat → Prop} (h : KidsR w base K R) (hf : Frame S w w') (hs : ∀ g, KBlk K R g → ¬ S g) : KidsR w' base K R :=
  h.keepB fun g hg => hf.block g (h.blk hg).2 (hs g hg)
/-- Another row at a place, its slice in the table. -/
theorem KidsR.put (h : KidsR w base K R) {p : Nat} (hp : p < R.length) {S : Nat → Prop} (hf : Frame S w w') {X : Rk} (hS : ∀ g, S g → Own1 R[p].A g ∨ w.heap.size ≤ g ∨ g = K) (hX : ∀ g, Own1 X.A g → Own1 R[p].A g ∨ w.heap.size ≤ g)
    (ho : w'.ownsRow base 3 1 X.val X.row.length (natsV X.row)) (ht : RowAt w' K 41 ((R.map Rk.val).set p X.val)) : KidsR w' base K (R.set p X) := by
  have key : ∀ (j : Nat) (hj : j < R.length), j ≠ p → ∀ g, Own1 R[j].A g → ¬ S g := fun j hj hne g hg hs => by
    have hlt := (h.rows R[j] (List.getElem_mem hj)).lt g (own1_val.2 hg)
    rcases hS g hs with h1 | h1 | h1
    · exact h.apart j p hj hp hne g hg h1
    · omega
    · exact own_ne (h.rows R[j] (List.getElem_mem hj)) h.tab (by decide) (own1_val.2 hg) h1
  refine ⟨by rw [List.map_set]; exact ht, h.hK, ?_, ?_⟩
  · intro x hx
    obtain ⟨j, hj, rfl⟩ := List.mem_iff_getElem.1 hx
    rw [List.length_set] at hj
    by_cases e : p = j
    · subst e
      rw [List.getElem_set_self]
      exact ho
    · rw [List.getElem_set_ne e]
      exact own_frame (h.rows R[j] (List.getElem_mem hj)) hf fun g hg => key j hj (fun e' => e e'.symm) g (own1_val.1 hg)
  · intro i j hi hj hij g hgi hgj
    rw [List.length_set] at hi hj
    by_cases e : p = i
    · subst e
      rw [List.getElem_set_self] at hgi
      rw [List.getElem_set_ne hij] at hgj
      rcases hX g hgi with h1 | h1
      · exact h.apart p j hp hj hij g h1 hgj
      · have := ((h.rows R[j] (List.getElem_mem hj)).lt g (own1_val.2 hgj)).2
        omega
    · rw [List.getElem_set_ne e] at hgi
      by_cases e' : p = j
      · subst e'
        rw [List.getElem_set_self] at hgj
        rcases hX g hgj with h1 | h1
        · exact h.apart i p hi hp hij g hgi h1
        · have := ((h.rows R[i] (List.getElem_mem hi)).lt g (own1_val.2 hgi)).2
          omega
      · rw [List.getElem_set_ne e'] at hgj
        exact h.apart i j hi hj hij g hgi hgj
/-- A row put in order where it lies. -/
theorem KidsR.sorted (h : KidsR w base K R) {p : Nat} (hp : p < R.length) {ys : List Nat} (hl : ys.length = R[p].row.length) (hf : Frame (Own1 R[p].A) w w') (ho : w'.ownsRow base 3 1 R[p].val R[p].row.length (natsV ys)) : KidsR w' base K (R.set p ⟨R[p].A, R[p].c, ys⟩) := by
  have hv : Rk.val ⟨R[p].A, R[p].c, ys⟩ = R[p].val := by unfold Rk.val; simp only [hl]
  refine h.put hp hf (fun g hg => .inl hg) (fun g hg => .inl hg) (by rw [hv]; show w'.ownsRow base 3 1 R[p].val ys.length (natsV ys); rw [hl]; exact ho) ?_
  rw [hv]
  have : (R.map Rk.val).set p R[p].val = R.map Rk.val := by
    apply List.ext_getElem?
    intro j
    rw [List.getElem?_set]
    split
    · rename_i e
      subst e
      rw [if_pos (by simpa using hp)]
      simp [hp]
    · rfl
  rw [this]
  exact h.tab.frame hf fun hs => own_ne (h.rows R[p] (List.getElem_mem hp)) h.tab (by decide) (own1_val.2 hs) rfl
end
/-- What put finds and leaves. -/
structure PutW (w : World) (base bl bo bk bp K : Nat) (A : Option Addr) (n cap : Nat) (l : List Nm) (R : List Rk) (Ao : Option Addr) (co : Nat) (acc : List Nm) : Prop where
  xl : RowAt w bl 22 [.slice A n cap]
  xo : RowAt w bo 22 [.slice Ao acc.length co]
  xk : RowAt w bk 52 [.slice (some ⟨K, 0, none⟩) n n]
  xp : RowAt w bp 53 [.func (.func 32) #[] #[.pointer (some ⟨bl, 0, none⟩), .pointer (some ⟨bo, 0, none⟩), .pointer (some ⟨bk, 0, none⟩), .pointer (some ⟨bp, 0, none⟩)]]
  ne : bl ≠ bo
  hl : base ≤ bl
  ho : base ≤ bo
  hk : base ≤ bk
  hp : base ≤ bp
  nodes : Nodes w base A l
  kids : KidsR w base K R
  klen : R.length = n
  out : OwnN w base Ao acc.length co acc
section
variable {w w' : World} {base bl bo bk bp K n cap co : Nat} {A Ao : Option Addr} {l acc : List Nm} {R : List Rk}
theorem PutW.sizeB (h : PutW w base bl bo bk bp K A n cap l R Ao co acc) : base ≤ w.heap.size := Nat.le_trans h.hl (Nat.le_of_lt h.xl.lt)
theorem PutW.frame {S : Nat → Prop} (h : PutW w base bl bo bk bp K A n cap l R Ao co acc) (hf : Frame S w w') (hS : ∀ g, S g → base ≤ g) (h1 : ¬ S bl) (h2 : ¬ S bo) (h3 : ¬ S bk) (h4 : ¬ S bp) (h5 : ∀ g, KBlk K R g → ¬ S g) (h6 : ∀ g, Blk Ao acc g → ¬ S g) : PutW w' base bl bo bk bp K A n cap l R Ao co acc :=
  ⟨h.xl.frame hf h1, h.xo.frame hf h2, h.xk.frame hf h3, h.xp.frame hf h4, h.ne, h.hl, h.ho, h.hk, h.hp,
    h.nodes.below (hf.toBelow h.sizeB fun k hk hs => by have := hS k hs; omega), h.kids.frame hf h5, h.klen, h.out.keepB fun g hg => hf.block g (h.out.blk hg).2 (h6 g hg)⟩
theorem PutW.below (h : PutW w base bl bo bk bp K A n cap l R Ao co acc) (hb : Below w.heap.size w w') : PutW w' base bl bo bk bp K A n cap l R Ao co acc :=
  h.frame (S := fun _ => False) (Frame.of_below hb) (fun g hg => hg.elim) id id id id (fun _ _ => id) (fun _ _ => id)
/-- The kids of a place put in order. -/
theorem PutW.sorted (h : PutW w base bl bo bk bp K A n cap l R Ao co acc) {p : Nat} (hp : p < R.length) {ys : List Nat} (hl : ys.length = R[p].row.length) (hf : Frame (Own1 R[p].A) w w') (ho : w'.ownsRow base 3 1 R[p].val R[p].row.length (natsV ys)) :
    PutW w' base bl bo bk bp K A n cap l (R.set p ⟨R[p].A, R[p].c, ys⟩) Ao co acc := by
  have hr := h.kids.rows R[p] (List.getElem_mem hp)
  have hb : ∀ g, Own1 R[p].A g → base ≤ g := fun g hg => (hr.lt g (own1_val.2 hg)).1
  refine ⟨h.xl.frame hf fun hs => own_ne hr h.xl (by decide) (own1_val.2 hs) rfl, h.xo.frame hf fun hs => own_ne hr h.xo (by decide) (own1_val.2 hs) rfl, h.xk.frame hf fun hs => own_ne hr h.xk (by decide) (own1_val.2 hs) rfl,
    h.xp.frame hf fun hs => own_ne hr h.xp (by decide) (own1_val.2 hs) rfl, h.ne, h.hl, h.ho, h.hk, h.hp, h.nodes.below (hf.toBelow h.sizeB fun k hk hs => by have := hb k hs; omega), h.kids.sorted hp hl hf ho, by rw [List.length_set]; exact h.klen, ?_⟩
  refine h.out.keepB fun g hg => hf.block g (h.out.blk hg).2 fun hs => ?_
  rcases hg with hg | ⟨x, hx, hg⟩
  · exact own_types h.out.row hr (by decide) g (own1_val.2 hg) (own1_val.2 hs)
  · exact own_types (h.out.props x hx) hr (by decide) g hg (own1_val.2 hs)
/-- One node more behind the list, its slice in the box. -/
theorem PutW.pushed {w4 w5 : World} {B : Nat} {x : Nm} {A5 : Option Addr} {c5 : Nat} (h : PutW w base bl bo bk bp K A n cap l R Ao co acc) (h4 : Below w.heap.size w w4) (hB : w.heap.size ≤ B) (hx : w4.ownsRow B 32 2 x.val x.d.ps.length (prCells x.d.ps))
    (h5 : w5.ownsRow base 30 3 (.slice A5 (acc.length + 1) c5) (acc.length + 1) (nmCells (acc ++ [x]))) (hp : Pushed base (.slice Ao acc.length co) w4 w5) :
    PutW (w5.setCell ⟨bo, 0, none⟩ (.slice A5 (acc.length + 1) c5)) base bl bo bk bp K A n cap l R A5 c5 (acc ++ [x]) := by
  have k4 := h.below h4
  have hrow := k4.out.row
  have hlt : ∀ {g : Nat} {e : TypeId} {ys : List Value}, RowAt w4 g e ys → e ≠ 30 → w5.heap[g]? = w4.heap[g]? := fun hr hne => hp.row _ hr.lt fun hg => own_ne hrow hr (fun e => hne e.symm) hg rfl
  have hout : OwnN w5 base A5 (acc.length + 1) c5 (acc ++ [x]) := h.out.snoc h4 hB hx h5 hp h.sizeB
  have x5l := k4.xl.keep (hlt k4.xl (by decide))
  have x5o := k4.xo.keep (hlt k4.xo (by decide))
  have x5k := k4.xk.keep (hlt k4.xk (by decide))
  have x5p := k4.xp.keep (hlt k4.xp (by decide))
  have k5 : KidsR w5 base K R := k4.kids.keepB fun g hg => hp.row g (k4.kids.blk hg).2 fun he => by
    rcases hg with rfl | ⟨y, hy, hg⟩
    · exact own_ne hrow k4.kids.tab (by decide) he rfl
    · exact own_types (k4.kids.rows y hy) hrow (by decide) g (own1_val.2 hg) he
  have n5 : Nodes w5 base A l := k4.nodes.below hp.low
  have hset : ∀ g, g ≠ bo → (w5.setCell ⟨bo, 0, none⟩ (.slice A5 (acc.length + 1) c5)).heap[g]? = w5.heap[g]? := fun g hg => Below.heap_setCell _ _ _ _ hg
  have hsto := x5o.store 0 (.slice A5 (acc.length + 1) c5)
  refine ⟨x5l.keep (hset _ h.ne), by simpa using hsto, x5k.keep (hset _ fun e => ?_), x5p.keep (hset _ fun e => ?_), h.ne, h.hl, h.ho, h.hk, h.hp, ?_, ?_, h.klen, ?_⟩
  · exact x5k.ne_type x5o (by decide) e
  · exact x5p.ne_type x5o (by decide) e
  · exact n5.below ((Below.refl base w5).setCell h.ho _)
  · refine k5.keepB fun g hg => hset g fun e => ?_
    rcases hg with rfl | ⟨y, hy, hg⟩
    · exact k5.tab.ne_type x5o (by decide) e
    · exact own_ne (k5.rows y hy) x5o (by decide) (own1_val.2 hg) e
  · rw [List.length_append]
    refine hout.keepB fun g hg => hset g fun e => ?_
    rcases hg with hg | ⟨y, hy, hg⟩
    · exact own_ne hout.row x5o (by decide) (own1_val.2 hg) e
    · exact own_ne (hout.props y hy) x5o (by decide) hg e
end
end Go.Proofs.Ytmdnbajbfnhecaa
