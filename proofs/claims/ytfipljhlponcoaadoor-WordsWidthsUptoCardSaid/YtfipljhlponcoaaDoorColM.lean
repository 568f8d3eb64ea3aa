/- Rows of rows in memory of the call's own; cells: the contract. -/
import Derived.Test.YtfipljhlponcoaaDoorColR
import Derived.Laws.OwnMore
set_option linter.unusedVariables false
namespace Go.Proofs.YtfipljhlponcoaaDoor
open Go.RowKit
theorem own_empty (w : World) (B e size g : Nat) (hg : g = w.heap.size) (hB : B ≤ w.heap.size) : (w.alloc (.cells #[] e)).ownsRow B e size (.slice (some ⟨g, 0, none⟩) 0 0) 0 [] := by
  subst hg
  exact ⟨by simp, .inr ⟨w.heap.size, 0, #[], rfl, hB, heap_alloc_new w _, Nat.le_refl _, by unfold maxLen; omega, by simp, by simp⟩⟩
theorem own_types {w : World} {b b' : Nat} {e e' : TypeId} {s s' n n' : Nat} {v v' : Value} {xs xs' : List Value} (h : w.ownsRow b e s v n xs) (h' : w.ownsRow b' e' s' v' n' xs') (hne : e ≠ e') :
    ∀ g, v.ownBlock = some g → v'.ownBlock ≠ some g := by
  intro g hg hg'
  rcases h.2 with ⟨rfl, _⟩ | ⟨g1, c1, cur1, rfl, _, a1, _⟩
  · cases hg
  rcases h'.2 with ⟨rfl, _⟩ | ⟨g2, c2, cur2, rfl, _, a2, _⟩
  · cases hg'
  injection hg with hg
  injection hg' with hg'
  subst hg
  subst hg'
  rw [a1] at a2
  injection a2 with a2
  injection a2 with _ a2
  exact hne a2
/-- Rows of texts in memory of the call's own, from block 'base' on. -/
structure OwnS (w : World) (base : Nat) (A : Option Addr) (n c : Nat) (l : List Tx) : Prop where
  len : n = l.length
  row : w.ownsRow base 33 1 (.slice A n c) n (txCells l)
  rows : ∀ x ∈ l, w.ownsRow base 9 1 x.val x.ts.length (sV x.ts)
  apart : l.Pairwise fun x y => ∀ g, x.val.ownBlock = some g → y.val.ownBlock ≠ some g
section
variable {w w' : World} {base n c : Nat} {A : Option Addr} {l : List Tx}
theorem OwnS.keep (h : OwnS w base A n c l) (hk : ∀ g, base ≤ g → g < w.heap.size → w'.heap[g]? = w.heap[g]?) : OwnS w' base A n c l :=
  ⟨h.len, own_keep2 h.row fun g hg hlt => hk g (h.row.lt g hg).1 hlt, fun x hx => own_keep2 (h.rows x hx) fun g hg hlt => hk g ((h.rows x hx).lt g hg).1 hlt, h.apart⟩
theorem OwnS.below (h : OwnS w base A n c l) (hb : Below w.heap.size w w') : OwnS w' base A n c l := h.keep fun g _ hlt => hb.block g hlt
theorem OwnS.rowz (h : OwnS w base A n c l) : Rowz w w.heap.size A l := ⟨own_seg h.row, fun x hx => own_seg (h.rows x hx)⟩
theorem owns_none (w : World) (base : Nat) : OwnS w base none 0 0 [] := ⟨rfl, World.ownsRow_nil _ _ _ _, by simp, List.Pairwise.nil⟩
/-- One row more, its texts in a block of their own. -/
theorem OwnS.snoc {w4 w5 : World} {B : Nat} {x : Tx} {A5 : Option Addr} {c5 : Nat} (h : OwnS w base A n c l) (h4 : Below w.heap.size w w4) (hB : w.heap.size ≤ B)
    (hx : w4.ownsRow B 9 1 x.val x.ts.length (sV x.ts)) (h5 : w5.ownsRow base 33 1 (.slice A5 (n + 1) c5) (n + 1) (txCells l ++ [x.val])) (hp : w4.grownBy w5 (Value.slice A n c).ownBlock) (hbase : base ≤ w.heap.size) : OwnS w5 base A5 (n + 1) c5 (l ++ [x]) := by
  have hrow4 : w4.ownsRow base 33 1 (.slice A n c) n (txCells l) := own_keep2 h.row fun g _ hlt => h4.block g hlt
  have hpr4 : ∀ y ∈ l, w4.ownsRow base 9 1 y.val y.ts.length (sV y.ts) := fun y hy => own_keep2 (h.rows y hy) fun g _ hlt => h4.block g hlt
  have hc : txCells (l ++ [x]) = txCells l ++ [x.val] := by simp [txCells]
  refine ⟨by simp [h.len], by rw [hc]; exact h5, ?_, ?_⟩
  · intro y hy
    rcases List.mem_append.1 hy with hy | hy
    · exact own_keep2 (hpr4 y hy) fun g hg hlt => hp.block g hlt fun e => own_types (hpr4 y hy) hrow4 (by decide) g hg e.symm
    · obtain rfl : y = x := by simpa using hy
      exact own_mono (own_keep2 hx fun g hg hlt => hp.block g hlt fun e => own_types hx hrow4 (by decide) g hg e.symm) (by omega)
  · rw [List.pairwise_append]
    refine ⟨h.apart, List.pairwise_singleton _ _, fun y hy z hz g hg hg2 => ?_⟩
    obtain rfl : z = x := by simpa using hz
    have a1 := ((h.rows y hy).lt g hg).2
    have a2 := (hx.lt g hg2).1
    omega
def Tx.setT (x : Tx) (j : Nat) (s : ByteArray) : Tx := ⟨x.A, x.c, x.ts.set j s⟩
theorem setT_val (x : Tx) (j : Nat) (s : ByteArray) : (x.setT j s).val = x.val := by simp [Tx.setT, Tx.val]
theorem pair_set {l : List Tx} {k : Nat} {y : Tx} (hk : k < l.length) (hv : y.val = l[k].val) (h : l.Pairwise fun x y => ∀ g, x.val.ownBlock = some g → y.val.ownBlock ≠ some g) :
    (l.set k y).Pairwise fun x y => ∀ g, x.val.ownBlock = some g → y.val.ownBlock ≠ some g := by
  have e : (l.set k y).map Tx.val = l.map Tx.val := by
    rw [List.map_set, hv]
    apply List.ext_getElem (by simp)
    intro i h1 h2
    by_cases hik : k = i
    · subst hik; simp
    · simp [hik]
  have h2 : (l.map Tx.val).Pairwise fun x y => ∀ g, x.ownBlock = some g → y.ownBlock ≠ some g := List.pairwise_map.2 h
  rw [← e] at h2
  exact List.pairwise_map.1 h2
theorem pair_at {l : List Tx} (h : l.Pairwise fun x y => ∀ g, x.val.ownBlock = some g → y.val.ownBlock ≠ some g) {i k : Nat} (hi : i < l.length) (hk : k < l.length) (hne : i ≠ k) {g : Nat} (hg : l[k].val.ownBlock = some g) : l[i].val.ownBlock ≠ some g := by
  rw [List.pairwise_iff_getElem] at h
  rcases Nat.lt_or_gt_of_ne hne with h1 | h1
  · exact fun e => h i k hi hk h1 g e hg
  · exact h k i hk hi h1 g hg
/-- A text of a row of the call's own, and what becomes of the rows when it is written. -/
theorem OwnS.setT (h : OwnS w base A n c l) {k : Nat} (hk : k < l.length) {j : Nat} (hj : j < l[k].ts.length) (s : ByteArray) : ∃ go g, A = some ⟨go, 0, none⟩ ∧ l[k].A = some ⟨g, 0, none⟩ ∧ base ≤ g ∧ g < w.heap.size ∧ w.cell? ⟨go, k, none⟩ = some (.slice (some ⟨g, 0, none⟩) l[k].ts.length l[k].c) ∧ w.cell? ⟨g, j, none⟩ = some (.string l[k].ts[j]) ∧ w.frozen? ⟨g, j, none⟩ = false ∧
    OwnS (w.setCell ⟨g, j, none⟩ (.string s)) base A n c (l.set k (l[k].setT j s)) := by
  have hrow := h.rows l[k] (List.getElem_mem hk)
  have hn : 0 < l[k].ts.length := by omega
  have hn1 : 0 < n := by have := h.len; omega
  obtain ⟨go, cap, hvo, hbo, hlto⟩ := h.row.form hn1
  injection hvo with hAo _ hco
  obtain ⟨g, cap, hv, hb, hlt⟩ := hrow.form hn
  unfold Tx.val at hv
  injection hv with hA _ hc
  have hv2 : l[k].val = .slice (some ⟨g, 0, none⟩) l[k].ts.length cap := by unfold Tx.val; rw [hA, hc]
  rw [hv2] at hrow
  have hcell : w.cell? ⟨g, j, none⟩ = some (.string l[k].ts[j]) := by
    rw [hrow.cellAt j (by omega)]
    simp [sV, hj]
  have hrowo := h.row
  rw [hAo] at hrowo
  have hcello : w.cell? ⟨go, k, none⟩ = some (.slice (some ⟨g, 0, none⟩) l[k].ts.length l[k].c) := by
    rw [hrowo.cellAt k (by have := h.len; omega)]
    simp [txCells, hk, Tx.val, hA]
  refine ⟨go, g, hAo, hA, hb, hlt, hcello, hcell, hrow.frozenAt _, ?_⟩
  have hst := hrow.stored j (.string s)
  have hset : (sV l[k].ts).set j (.string s) = sV (l[k].ts.set j s) := by simp [sV]
  have hcells : txCells (l.set k (l[k].setT j s)) = txCells l := by
    unfold txCells
    rw [List.map_set, setT_val]
    apply List.ext_getElem (by simp)
    intro i h1 h2
    by_cases hik : k = i
    · subst hik; simp
    · simp [hik]
  refine ⟨by simp [h.len], ?_, ?_, pair_set hk (setT_val _ _ _) h.apart⟩
  · rw [hcells]
    exact own_keep2 h.row fun g' hg' _ => Below.heap_setCell _ _ _ _ (by
      intro e
      subst e
      exact own_types (h.rows l[k] (List.getElem_mem hk)) h.row (by decide) _ (by rw [hv2]; rfl) hg')
  · intro x hx
    obtain ⟨i, hi, rfl⟩ := List.mem_iff_getElem.1 hx
    by_cases hik : k = i
    · subst hik
      simp only [List.getElem_set_self]
      have e1 : (l[k].setT j s).val = .slice (some ⟨g, 0, none⟩) l[k].ts.length cap := by rw [setT_val, hv2]
      rw [e1]
      have e2 : (l[k].setT j s).ts = l[k].ts.set j s := rfl
      rw [e2, List.length_set, ← hset]
      exact hst.1
    · have hi2 : i < l.length := by simpa using hi
      simp only [List.getElem_set_ne hik]
      exact own_keep2 (h.rows _ (List.getElem_mem hi2)) fun g' hg' _ => Below.heap_setCell _ _ _ _ (by
        intro e
        subst e
        exact pair_at h.apart hi2 hk (Ne.symm hik) (by rw [hv2]; rfl) hg')
end
theorem info33 : (Tryd.prog.info? 33).map (fun i => (i.zero, i.size, i.bytes)) = some (some (.slice none 0 0), 1, 24) := by kernel_rfl
set_option maxRecDepth 100000 in
set_option maxHeartbeats 16000000 in
theorem cells_any (A : Option Addr) (c n : Nat) (l : List Tx) (hn : n = l.length) (hz : TSized l) (w : World) (B : Nat) (hB : B ≤ w.heap.size) (hr : Rowz w B A l) :
    Calls Tryd.prog 16 #[.slice A n c] w fun e w' => ∃ A1 c1 l1, e = .returned (.slice A1 n c1) ∧ l1.map Tx.ts = l.map Tx.ts ∧ OwnS w' w.heap.size A1 n c1 l1 ∧ Below w.heap.size w w' := by
  obtain ⟨i0, fi, fz0, fz1, fz2⟩ := info_parts info9'
  obtain ⟨i1, gi, gz0, gz1, gz2⟩ := info_parts info33
  have HN := Lib.hid hn
  have HZ := Lib.hid hz
  have HR := Lib.hid hr
  have hn2 : (n : Int) ≤ 1048576 := by have := hz.n; omega
  clear hn hr hz
  go_enter Tryd.func16, Tryd.ntmps16
  go_wp2_with (fail)
  go_loopw [3, 4] (fun ov iv wx => ∃ (k : Nat) (Ao : Option Addr) (co : Nat) (lo : List Tx), iv = .int .i64 k ∧ k ≤ n ∧ ov = .slice Ao k co ∧ OwnS wx w.heap.size Ao k co lo ∧ lo.map Tx.ts = (l.take k).map Tx.ts ∧ Below w.heap.size w wx) (fun _ iv _ => n - (intOf iv).toNat)
  case atStart => exact ⟨0, none, 0, [], rfl, by omega, rfl, owns_none _ _, rfl, Below.refl _ _⟩
  case round =>
    obtain ⟨k, Ao, co, lo, rfl, hk, rfl, hown, hdat, hb⟩ := hrel
    have HO := Lib.hid hown
    have HD := Lib.hid hdat
    have HB := Lib.hid hb
    have hsz := hb.size
    clear hown hdat
    by_cases hlt : k < n
    · have hkl : k < l.length := by rw [← HN.out]; exact hlt
      have hbw := hb.mono hB
      obtain ⟨b, off, hA, hbB, x0⟩ := (HR.out.below hbw).at_ hkl
      have hrow := (HR.out.below hbw).rows l[k] (List.getElem_mem hkl)
      have hz1 := HZ.out.rows l[k] (List.getElem_mem hkl)
      obtain ⟨x, hx⟩ : ∃ x, x = l[k] := ⟨_, rfl⟩
      rw [← hx] at x0 hrow hz1
      have HX := Lib.hid hx
      obtain ⟨xA, xc, ts⟩ := x
      simp only at x0 hrow hz1
      have HRW := Lib.hid hrow
      have hki : (k : Int) < (n : Int) := by omega
      subst hA
      obtain ⟨q, hq⟩ : ∃ q, ts.length = q := ⟨_, rfl⟩
      rw [hq] at x0 hz1
      have HQ := Lib.hid hq
      have x1 : (wr.alloc (.cells #[] 9)).cell? ⟨b, off + k, none⟩ = some (.slice xA q xc) := (World.cell?_alloc_lt _ _ _ (by show b < _; omega)).trans x0
      have m1 : 0 + q ≤ maxLen := by unfold maxLen; omega
      have m2 : (0 + q) * 16 ≤ 140737488355328 := by omega
      have m3 : k + 1 ≤ maxLen := by unfold maxLen; omega
      have m4 : (k + 1) * 24 ≤ 140737488355328 := by omega
      have OE := Lib.hid (own_empty wr wr.heap.size 9 1 wr.heap.size rfl (Nat.le_refl _))
      clear hx hb hbw hrow hq
      go_wp2_with (first
        | (at_builtin; refine wpList_append_seg _ rfl (.tmp 12) (.tmp 16) 33 rfl wr.heap.size 9 i0 _ 1 16 Tryd.underlying33 fi fz0 fz1 fz2 rfl (by decide) (.slice (some ⟨wr.heap.size, 0, none⟩) 0 0) 0 [] rfl OE.out B xA q xc (sV ts) rfl (by rw [sV_len, Nat.mul_one]; exact HQ.out) (HRW.out.alloc (by omega) _) (sV_one ts) m1 m2 (by simp) ?_
           intro v3 w3 hown3 hg3 _
           rw [Nat.zero_add, List.nil_append] at hown3
           have hb3 : Below wr.heap.size wr w3 := ((Below.refl _ wr).alloc (Nat.le_refl _) _).grown hg3 (by simp) (fun g hg => (OE.out.lt g hg).1)
           obtain ⟨A3, c3, rfl⟩ := own_shape hown3
           have HO3 := Lib.hid hown3; have HB3 := Lib.hid hb3; have hs3 := hb3.size; clear hown3 hg3 hb3)
        | (at_builtin; refine wpList_append_seg _ rfl (.tmp 11) (.tmp 18) 30 rfl w.heap.size 33 i1 _ 1 24 Tryd.underlying30 gi gz0 gz1 gz2 rfl (by decide) (.slice Ao k co) k (txCells lo) rfl (World.ownsRow.alloc (OwnS.below HO.out HB3.out).row _) (w3.heap.size + 1) (some ⟨w3.heap.size, 0, none⟩) 1 1 [.slice A3 q c3] rfl rfl (seg_new (e := 33) (cs := #[.slice A3 q c3])) (by simp [Value.oneCell']) m3 m4 (by rw [World.size_alloc]; omega) ?_
           intro v5 w5 hown5 hg5 _
           have hb5 : Below w.heap.size w w5 := ((HB.out.trans (HB3.out.mono HB.out.size)).alloc (by omega) _).grown hg5 (by rw [World.size_alloc]; omega) (fun g hg => ((OwnS.below HO.out HB3.out).row.lt g hg).1)
           obtain ⟨A5, c5, rfl⟩ := own_shape hown5
           have hsn := OwnS.snoc (x := ⟨A3, c3, ts⟩) (B := wr.heap.size) HO.out (HB3.out.alloc hs3 _) (Nat.le_refl _) (World.ownsRow.alloc (by show w3.ownsRow _ 9 1 (.slice A3 ts.length c3) _ _; rw [HQ.out]; exact HO3.out) _) (by show w5.ownsRow _ 33 1 _ _ (_ ++ [.slice A3 ts.length c3]); rw [HQ.out]; exact hown5) hg5 hsz
           have HO5 := Lib.hid hsn; have HB5 := Lib.hid hb5; clear hown5 hg5 hb5 hsn)
        | (fail))
      refine ⟨⟨k + 1, A5, c5, _, by go_num, hlt, rfl, HO5.out, ?_, HB5.out⟩, by simp [intOf]; omega⟩
      rw [List.map_append, HD.out, List.take_succ_eq_append_getElem hkl, List.map_append, ← HX.out]
      rfl
    · have hki : ¬ (k : Int) < (n : Int) := by omega
      obtain rfl : k = n := by omega
      clear hb
      go_wp2
      go_ret
      refine ⟨Ao, co, rfl, lo, ?_, HO.out, HB.out⟩
      rw [HD.out, List.take_of_length_le (by rw [HN.out]; exact Nat.le_refl _)]
end Go.Proofs.YtfipljhlponcoaaDoor
