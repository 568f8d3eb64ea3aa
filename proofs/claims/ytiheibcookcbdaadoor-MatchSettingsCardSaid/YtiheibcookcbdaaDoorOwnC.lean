/- Cards in memory of the call's own; Twin, Twins: contracts. -/
import Derived.Test.YtiheibcookcbdaaDoorCCheck
set_option linter.unusedVariables false
namespace Go.Proofs.YtiheibcookcbdaaDoor
open Go.RowKit
theorem own_keep2 {w w' : World} {base : Nat} {e : TypeId} {size n : Nat} {v : Value} {xs : List Value} (h : w.ownsRow base e size v n xs) (hk : ∀ g, v.ownBlock = some g → g < w.heap.size → w'.heap[g]? = w.heap[g]?) : w'.ownsRow base e size v n xs :=
  own_keep h fun g hg => hk g hg (h.lt g hg).2
/-- What a push leaves. -/
structure Pushed (base : Nat) (v : Value) (w w' : World) : Prop where
  low : Below base w w'
  row : ∀ g, g < w.heap.size → v.ownBlock ≠ some g → w'.heap[g]? = w.heap[g]?
/-- append of one thing to a row of the call's own: the thing lies in a block of its own. -/
theorem wpList_push {P : Program} {wr : World} {ops : Array Oper} {rest : List Oper} {o : Oper} {a : Act} {Q : Exit → Act → World → Prop} (hgd : o.guard = none) (s x : Operand) (t : TypeId)
    (ho : o.op = .call { callee := .builtin .append, args := #[s, x], argTypes := #[t, t] })
    (base : Nat) (e : TypeId) (i : TypeInfo) (z : Value) (size bytes : Nat) (ht : P.underlying t = some (.slice e)) (hi : P.info? e = some i) (hz : i.zero = some z)
    (hsize : i.size = size) (hby : i.bytes = bytes) (hzs : z.cells.size = size) (hsz : 0 < size)
    (v : Value) (n : Nat) (xs : List Value) (hs : a.eval s = v) (hown : wr.ownsRow base e size v n xs)
    (cs : Array Value) (hx : a.eval x = .slice (some ⟨wr.heap.size, 0, none⟩) 1 1) (hl : cs.toList.length = size) (h1 : ∀ u ∈ cs.toList, u.oneCell' = true)
    (h63 : n + 1 ≤ maxLen) (hbytes : (n + 1) * bytes ≤ 140737488355328) (hbase : base ≤ wr.heap.size)
    (h : ∀ A' c' w', w'.ownsRow base e size (.slice A' (n + 1) c') (n + 1) (xs ++ cs.toList) → Pushed base v wr w' → wpList P ops Q rest (a.put o.dst (.slice A' (n + 1) c')) w') :
    wpList P ops Q (o :: rest) a (wr.alloc (.cells cs e)) := by
  refine wpList_append_seg (P := P) _ hgd s x t ho base e i z size bytes ht hi hz hsize hby hzs hsz v n xs hs (hown.alloc _) (wr.heap.size + 1) (some ⟨wr.heap.size, 0, none⟩) 1 1 cs.toList hx (by rw [hl, Nat.one_mul]) (seg_new wr e cs) h1 h63 hbytes (by simp; omega) ?_
  intro v' w' h2 h3 _
  obtain ⟨A', c', rfl⟩ := own_shape h2
  exact h A' c' w' h2 ⟨((Below.refl base wr).alloc hbase _).grown h3 (by simp; omega) (fun g hg => (hown.lt g hg).1),
    fun g hg hne => (h3.block g (by simp; omega) (fun e => hne e.symm)).trans (Below.heap_alloc _ _ _ hg)⟩
theorem own_empty (w : World) (B e size g : Nat) (hg : g = w.heap.size) (hB : B ≤ w.heap.size) : (w.alloc (.cells #[] e)).ownsRow B e size (.slice (some ⟨g, 0, none⟩) 0 0) 0 [] := by
  subst hg
  exact ⟨by simp, .inr ⟨w.heap.size, 0, #[], rfl, hB, heap_alloc_new w _, Nat.le_refl _, by unfold maxLen; omega, by simp, by simp⟩⟩
theorem own_types {w : World} {b b' : Nat} {e e' : TypeId} {s s' n n' : Nat} {v v' : Value} {xs xs' : List Value} (h : w.ownsRow b e s v n xs) (h' : w.ownsRow b' e' s' v' n' xs') (hne : e ≠ e') :
    ∀ g, v.ownBlock = some g → v'.ownBlock ≠ some g := by
  intro g hg hg'
  rcases h.2 with ⟨rfl, _⟩ | ⟨g1, c1, cur1, rfl, _, a1, _⟩
  · cases hg
  rcases h'.2 with ⟨rfl, _⟩ | ⟨g2, c2, cur2, rfl, _, a2, _⟩
  · cases hg'
  injection hg with hg
  injection hg' with hg'
  subst hg
  subst hg'
  rw [a1] at a2
  injection a2 with a2
  injection a2 with _ a2
  exact hne a2
theorem Tryd.info26 : (Tryd.prog.info? 26).map (fun i => (i.zero, i.size, i.bytes)) = some (some (.agg #[.string ByteArray.empty, .string ByteArray.empty, .int .u8 0, .slice none 0 0, .int .i8 0, .string ByteArray.empty, .int .i16 0]), 7, 96) := by kernel_rfl
theorem Tryd.info9 : (Tryd.prog.info? 9).map (fun i => (i.zero, i.size, i.bytes)) = some (some (.string ByteArray.empty), 1, 16) := by kernel_rfl
def Cd.val (x : Cd) : Value := .slice x.A x.d.ts.length x.c
/-- Cards in memory of the call's own, from block 'base' on. -/
structure OwnC (w : World) (base : Nat) (A : Option Addr) (n c : Nat) (l : List Cd) : Prop where
  len : n = l.length
  row : w.ownsRow base 26 7 (.slice A n c) n (cdCells l)
  ts : ∀ x ∈ l, w.ownsRow base 9 1 x.val x.d.ts.length (strs x.d.ts)
theorem own_cap {w : World} {base e size n : Nat} {A : Option Addr} {c : Nat} {xs : List Value} (h : w.ownsRow base e size (.slice A n c) n xs) : n ≤ c := by
  rcases h.2 with ⟨h2, _⟩ | ⟨g, cap, cur, h2, _, _, hn, _⟩
  · injection h2 with _ h3 h4; omega
  · injection h2 with _ _ h4; omega
section
variable {w w' : World} {base n c : Nat} {A : Option Addr} {l : List Cd}
theorem OwnC.keep (h : OwnC w base A n c l) (hk : ∀ g, base ≤ g → g < w.heap.size → w'.heap[g]? = w.heap[g]?) : OwnC w' base A n c l :=
  ⟨h.len, own_keep2 h.row fun g hg hlt => hk g (h.row.lt g hg).1 hlt, fun x hx => own_keep2 (h.ts x hx) fun g hg hlt => hk g ((h.ts x hx).lt g hg).1 hlt⟩
theorem OwnC.below (h : OwnC w base A n c l) (hb : Below w.heap.size w w') : OwnC w' base A n c l := h.keep fun g _ hlt => hb.block g hlt
theorem OwnC.cards (h : OwnC w base A n c l) : Cards w w.heap.size A l := ⟨own_seg h.row, fun x hx => own_seg (h.ts x hx), fun x hx => own_cap (h.ts x hx)⟩
theorem OwnC.base_ (h : OwnC w base A n c l) {b : Nat} (hb : b ≤ base) : OwnC w b A n c l := ⟨h.len, own_base h.row hb, fun x hx => own_base (h.ts x hx) hb⟩
theorem ownc_none (w : World) (base : Nat) : OwnC w base none 0 0 [] := ⟨rfl, World.ownsRow_nil _ _ _ _, by simp⟩
theorem OwnC.snoc {w4 w5 : World} {B : Nat} {x : Cd} {A5 : Option Addr} {c5 : Nat} (h : OwnC w base A n c l) (h4 : Below w.heap.size w w4) (hB : w.heap.size ≤ B)
    (hx : w4.ownsRow B 9 1 x.val x.d.ts.length (strs x.d.ts)) (h5 : w5.ownsRow base 26 7 (.slice A5 (n + 1) c5) (n + 1) (cdCells (l ++ [x]))) (hp : Pushed base (.slice A n c) w4 w5) (hbase : base ≤ w.heap.size) : OwnC w5 base A5 (n + 1) c5 (l ++ [x]) := by
  have hrow4 : w4.ownsRow base 26 7 (.slice A n c) n (cdCells l) := own_keep2 h.row fun g _ hlt => h4.block g hlt
  have hpr4 : ∀ y ∈ l, w4.ownsRow base 9 1 y.val y.d.ts.length (strs y.d.ts) := fun y hy => own_keep2 (h.ts y hy) fun g _ hlt => h4.block g hlt
  refine ⟨by simp [h.len], h5, ?_⟩
  intro y hy
  rcases List.mem_append.1 hy with hy | hy
  · exact own_keep2 (hpr4 y hy) fun g hg hlt => hp.row g hlt (own_types (hpr4 y hy) hrow4 (by decide) g hg)
  · obtain rfl : y = x := by simpa using hy
    exact own_base (own_keep2 hx fun g hg hlt => hp.row g hlt (own_types hx hrow4 (by decide) g hg)) (by omega)
end
theorem row_new (X : World) (cs : Array Value) (e : TypeId) (g : Nat) (hg : g = X.heap.size) : RowAt (X.alloc (.cells cs e)) g e cs.toList := by
  subst hg
  exact ⟨_, heap_alloc_new _ _, List.take_of_length_le (Nat.le_refl _)⟩
theorem RowAt.alloc {w : World} {g : Nat} {e : TypeId} {xs : List Value} (h : RowAt w g e xs) (o : Obj) : RowAt (w.alloc o) g e xs := h.keep (Below.heap_alloc _ _ _ h.lt)
theorem RowAt.seven {w : World} {g : Nat} {e : TypeId} {u0 u1 u2 u3 u4 u5 u6 : Value} (h : RowAt w g e [u0, u1, u2, u3, u4, u5, u6]) : w.cell? ⟨g, 0, none⟩ = some u0 ∧ w.cell? ⟨g, 1, none⟩ = some u1 ∧ w.cell? ⟨g, 2, none⟩ = some u2 ∧ w.cell? ⟨g, 3, none⟩ = some u3 ∧
    w.cell? ⟨g, 4, none⟩ = some u4 ∧ w.cell? ⟨g, 5, none⟩ = some u5 ∧ w.cell? ⟨g, 6, none⟩ = some u6 :=
  ⟨h.cell (k := 0) (by simp), h.cell (k := 1) (by simp), h.cell (k := 2) (by simp), h.cell (k := 3) (by simp), h.cell (k := 4) (by simp), h.cell (k := 5) (by simp), h.cell (k := 6) (by simp)⟩
set_option maxRecDepth 100000 in
set_option maxHeartbeats 4000000 in
theorem twin_any (nm fam qk : ByteArray) (lv : Nat) (sc en : Int) (A : Option Addr) (n c : Nat) (ts : List ByteArray) (hn : n = ts.length) (hl : n * 16 ≤ 140737488355328) (w : World) (B : Nat) (hB : B ≤ w.heap.size) (hs : Seg w B A (strs ts)) :
    Calls Tryd.prog 4 #[.agg #[.string nm, .string fam, .int .u8 (lv : Int), .slice A n c, .int .i8 sc, .string qk, .int .i16 en]] w fun e w' => ∃ A' c', e = .returned (.agg #[.string nm, .string fam, .int .u8 (lv : Int), .slice A' n c', .int .i8 sc, .string qk, .int .i16 en]) ∧
      w'.ownsRow (w.heap.size + 1) 9 1 (.slice A' n c') n (strs ts) ∧ Below w.heap.size w w' := by
  obtain ⟨i0, fi, fz0, fz1, fz2⟩ := info_parts Tryd.info9
  have HN := Lib.hid hn
  have HS := Lib.hid hs
  have M1 := Lib.hid (strs_len ts)
  clear hn hs
  go_enter Tryd.func4, Tryd.ntmps4
  go_wp2_with (first
    | (at_builtin; refine wpList_append_seg _ rfl (.tmp 3) (.tmp 5) 22 rfl (w.heap.size + 2) 9 i0 _ 1 16 Tryd.underlying22 fi fz0 fz1 fz2 rfl (by decide) _ 0 [] rfl (own_empty _ _ _ _ _ (by simp) (by simp)) B A n c (strs ts) rfl ?_ (((HS.out.alloc hB _).alloc (by simp; omega) _).alloc (by simp; omega) _) (strs_one ts) ?_ ?_ ?_ ?_))
  · rw [M1.out, HN.out, Nat.mul_one]
  · unfold maxLen; omega
  · omega
  · simp
  intro v3 w3 hown3 hg3 _
  obtain ⟨A3, c3, rfl⟩ := own_shape hown3
  have hr0 : RowAt w3 w.heap.size 26 [.string nm, .string fam, .int .u8 (lv : Int), .slice A n c, .int .i8 sc, .string qk, .int .i16 en] := (((row_new w #[.string nm, .string fam, .int .u8 (lv : Int), .slice A n c, .int .i8 sc, .string qk, .int .i16 en] 26 _ rfl).alloc _).alloc _).keep (hg3.block _ (by simp; omega) (by simp [Value.ownBlock]; omega))
  have hr1 : RowAt w3 (w.heap.size + 1) 26 [.string ⟨#[]⟩, .string ⟨#[]⟩, .int .u8 0, .slice none 0 0, .int .i8 0, .string ⟨#[]⟩, .int .i16 0] := ((row_new (w.alloc (.cells #[.string nm, .string fam, .int .u8 (lv : Int), .slice A n c, .int .i8 sc, .string qk, .int .i16 en] 26)) #[.string ⟨#[]⟩, .string ⟨#[]⟩, .int .u8 0, .slice none 0 0, .int .i8 0, .string ⟨#[]⟩, .int .i16 0] 26 _ (by simp)).alloc _).keep (hg3.block _ (by simp) (by simp [Value.ownBlock]))
  have hlow : Below w.heap.size w w3 := ((((Below.refl _ w).alloc (Nat.le_refl _) _).alloc (by simp) _).alloc (by simp; omega) _).grown hg3 (by simp; omega) (fun g hg => by simp [Value.ownBlock] at hg; omega)
  obtain ⟨x0, x1, x2, x3, x4, x5, x6⟩ := hr0.seven
  have f3 := hr0.frozen 3
  have hr2 := hr0.store 3 (.slice A3 n c3)
  have hr12 : RowAt (w3.setCell ⟨w.heap.size, 3, none⟩ (.slice A3 n c3)) (w.heap.size + 1) 26 _ := hr1.setOther ⟨w.heap.size, 3, none⟩ (by simp) _
  have hown4 : (w3.setCell ⟨w.heap.size, 3, none⟩ (.slice A3 n c3)).ownsRow (w.heap.size + 2) 9 1 (.slice A3 n c3) n (strs ts) := own_keep2 (by simpa using hown3) fun g hg hlt => Below.heap_setCell _ _ _ _ (by have := (hown3.lt g hg).1; show g ≠ w.heap.size; omega)
  have hlow4 : Below w.heap.size w (w3.setCell ⟨w.heap.size, 3, none⟩ (.slice A3 n c3)) := hlow.setCell (Nat.le_refl _) _
  have HO := Lib.hid hown4
  have HL := Lib.hid hlow4
  obtain ⟨y0, y1, y2, y3, y4, y5, y6⟩ := hr2.seven
  have HR12 := Lib.hid hr12
  obtain ⟨z0, z1, z2, z3, z4, z5, z6⟩ := hr12.seven
  have g0 := hr12.frozen 0
  have g1 := hr12.frozen 1
  have g2 := hr12.frozen 2
  have g3 := hr12.frozen 3
  have g4 := hr12.frozen 4
  have g5 := hr12.frozen 5
  have g6 := hr12.frozen 6
  clear hown3 hg3 hr0 hr1 hlow hr2 hr12 hown4 hlow4
  go_wp2_with fail
  have hr14 := ((((((HR12.out.store 0 (.string nm)).store 1 (.string fam)).store 2 (.int .u8 (lv : Int))).store 3 (.slice A3 n c3)).store 4 (.int .i8 sc)).store 5 (.string qk)).store 6 (.int .i16 en)
  obtain ⟨d0, d1, d2, d3, d4, d5, d6⟩ := hr14.seven
  refine bodyPost_ret (v := .agg #[.string nm, .string fam, .int .u8 (lv : Int), .slice A3 n c3, .int .i8 sc, .string qk, .int .i16 en]) (by simp [results, Tryd.results4, go_sem, d0, d1, d2, d3, d4, d5, d6]) rfl ⟨A3, c3, rfl, own_base (base := w.heap.size + 2) ?_ (by omega), ?_⟩
  · exact ownsRow_setCell_below (ownsRow_setCell_below (ownsRow_setCell_below (ownsRow_setCell_below (ownsRow_setCell_below (ownsRow_setCell_below (ownsRow_setCell_below HO.out (a := ⟨w.heap.size + 1, 0, none⟩) (Nat.lt_succ_self _) _) (a := ⟨w.heap.size + 1, 1, none⟩) (Nat.lt_succ_self _) _) (a := ⟨w.heap.size + 1, 2, none⟩) (Nat.lt_succ_self _) _) (a := ⟨w.heap.size + 1, 3, none⟩) (Nat.lt_succ_self _) _) (a := ⟨w.heap.size + 1, 4, none⟩) (Nat.lt_succ_self _) _) (a := ⟨w.heap.size + 1, 5, none⟩) (Nat.lt_succ_self _) _) (a := ⟨w.heap.size + 1, 6, none⟩) (Nat.lt_succ_self _) _
  · exact ((((((HL.out.setCell (p := ⟨w.heap.size + 1, 0, none⟩) (Nat.le_succ _) _).setCell (p := ⟨w.heap.size + 1, 1, none⟩) (Nat.le_succ _) _).setCell (p := ⟨w.heap.size + 1, 2, none⟩) (Nat.le_succ _) _).setCell (p := ⟨w.heap.size + 1, 3, none⟩) (Nat.le_succ _) _).setCell (p := ⟨w.heap.size + 1, 4, none⟩) (Nat.le_succ _) _).setCell (p := ⟨w.heap.size + 1, 5, none⟩) (Nat.le_succ _) _).setCell (p := ⟨w.heap.size + 1, 6, none⟩) (Nat.le_succ _) _
end Go.Proofs.YtiheibcookcbdaaDoor
