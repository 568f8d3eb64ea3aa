/- The program's Sorted: the contract. -/
import Derived.Test.YtmdnbajbfnhecaaGreatDoorSPut
import Derived.Test.YtmdnbajbfnhecaaGreatDoorSLen
import Derived.Test.YtmdnbajbfnhecaaGreatDoorHeldF
import Derived.Test.YtmdnbajbfnhecaaGreatDoorPCheck
import Derived.Deep.DeepCutAuto
import Derived.Laws.EntriesVeiled
set_option linter.unusedVariables false
namespace Go.Proofs.YtmdnbajbfnhecaaGreatDoor
open Go.RowKit
theorem info41 : (Tryz.prog.info? 59).map (fun i => (i.zero, i.size, i.bytes)) = some (some (.slice none 0 0), 1, 24) := by kernel_rfl
theorem info3 : (Tryz.prog.info? 3).map (fun i => (i.zero, i.size, i.bytes)) = some (some (.int .i64 0), 1, 8) := by kernel_rfl
theorem make_kids (n : Nat) (hl : n * 48 ≤ 140737488355328) (w : World) : (Instr.makeSlice 58 (.int .i64 (n : Int)) (.int .i64 (n : Int))).run Tryz.prog w =
    .ok (.slice (some ⟨w.heap.size, 0, none⟩) n n) (w.alloc (.cells (madeCells #[Value.slice none 0 0] (n * 1)) 59)) := by
  obtain ⟨i0, hi, hz0, hz1, hz2⟩ := info_parts info41
  have := run_make (P := Tryz.prog) w 58 59 i0 (.slice none 0 0) Tryz.underlying58 hi hz0 .i64 .i64 n n (by omega) (by omega) (by rw [hz2]; omega) (by omega)
  simp only [Int.toNat_natCast, hz1] at this
  exact this
theorem rep_map (n : Nat) : (List.replicate n (⟨none, 0, []⟩ : Rk)).map Rk.val = List.replicate n (.slice none 0 0) := by rw [List.map_replicate]; rfl
theorem kids_made (wr : World) (n base : Nat) (hb : base ≤ wr.heap.size) : KidsR (wr.alloc (.cells (madeCells #[Value.slice none 0 0] n) 59)) base wr.heap.size (List.replicate n ⟨none, 0, []⟩) := by
  refine ⟨⟨_, heap_alloc_new _ _, ?_⟩, hb, fun x hx => ?_, fun i j hi hj hij g hg => ?_⟩
  · rw [rep_map]
    simp only [madeCells, List.length_replicate]
    apply List.ext_getElem
    · simp
    · intro j h1 h2
      simp [Nat.mod_one]
  · rw [List.mem_replicate] at hx
    rw [hx.2]
    exact World.ownsRow_nil _ _ _ _
  · rw [List.getElem_replicate] at hg
    cases hg
/-- append in a drawn region, told with where the row lies. -/
theorem step_push {P : Program} {w : World} {ops : Array Oper} {o : Oper} {a : Act} {K : Act → World → Prop} {Q : Exit → Act → World → Prop} {E : Prop} (hgd : o.guard = none) (s x : Operand) (t : TypeId)
    (ho : o.op = .call { callee := .builtin .append, args := #[s, x], argTypes := #[t, t] })
    (base : Nat) (e : TypeId) (i : TypeInfo) (z : Value) (size bytes : Nat) (ht : P.underlying t = some (.slice e)) (hi : P.info? e = some i) (hz : i.zero = some z)
    (hsize : i.size = size) (hby : i.bytes = bytes) (hzs : z.cells.size = size) (hsz : 0 < size)
    (v : Value) (n : Nat) (xs : List Value) (hs : a.eval s = v) (hown : w.ownsRow base e size v n xs)
    (b : Nat) (m c : Nat) (news : List Value) (hx : a.eval x = .slice (some ⟨b, 0, none⟩) m c) (hl : news.length = m * size) (hr : RowAt w b e news) (h1 : ∀ u ∈ news, u.oneCell' = true)
    (h63 : n + m ≤ maxLen) (hbytes : (n + m) * bytes ≤ 140737488355328) (hbase : base ≤ w.heap.size)
    (h : ∀ A' c' w', w'.ownsRow base e size (.slice A' (n + m) c') (n + m) (xs ++ news) → w.grownBy w' v.ownBlock → (∀ g, Own1 A' g → v.ownBlock = some g ∨ w.heap.size ≤ g) → K (a.put o.dst (.slice A' (n + m) c')) w') :
    if Region.wanted o (yielded ops a.tmps) = true then Oper.wp P o a w K Q else E := by
  have hw : Region.wanted o (yielded ops a.tmps) = true := by simp [Region.wanted, hgd]
  rw [if_pos hw]
  have hnews : ∀ j u, news[j]? = some u → w.cell? ((⟨b, 0, none⟩ : Addr).add j) = some u := fun j u hu => by
    rw [addr_add, Nat.zero_add, hr.cell (List.getElem?_eq_some_iff.1 hu).1]
    exact hu
  obtain ⟨v', w', hrun, h2, h3, h4⟩ := run_append_own (P := P) w base t o.type e i z size bytes ht hi hz hsize hby hzs hsz v n xs hown ⟨b, 0, none⟩ m c news hl hnews h1 h63 hbytes hbase
  have hid := append_id (P := P) (w := w) base t o.type e i z size bytes ht hi hz hsize hby hzs hsz v n xs hown ⟨b, 0, none⟩ m c news hl hnews h1 h63 hbytes v' w' hrun
  obtain ⟨A', c', rfl⟩ := own_shape h2
  unfold Oper.wp execOp
  simp only [ho, resolve, invoke, builtin, Sem.run_bind, Sem.run_pure, Result.andThen_ok, List.map_toArray, List.map_cons, List.map_nil, hs, hx, hrun]
  exact h A' c' w' h2 h3 fun g hg => hid g (own1_val.2 hg)
/-- What is found while the kids are told apart. -/
structure FoundW (w : World) (base bl bk K : Nat) (A : Option Addr) (n cap : Nat) (l : List Nm) (R : List Rk) : Prop where
  xl : RowAt w bl 22 [.slice A n cap]
  xk : RowAt w bk 58 [.slice (some ⟨K, 0, none⟩) n n]
  hl : base ≤ bl
  hk : base ≤ bk
  nodes : Nodes w base A l
  kids : KidsR w base K R
  klen : R.length = n
section
variable {w : World} {base bl bk K n cap : Nat} {A : Option Addr} {l : List Nm} {R : List Rk}
theorem FoundW.frame {S : Nat → Prop} {w' : World} (h : FoundW w base bl bk K A n cap l R) (hf : Frame S w w') (hS : ∀ g, S g → base ≤ g) (h1 : ¬ S bl) (h3 : ¬ S bk) (h5 : ∀ g, KBlk K R g → ¬ S g) : FoundW w' base bl bk K A n cap l R :=
  ⟨h.xl.frame hf h1, h.xk.frame hf h3, h.hl, h.hk, h.nodes.below (hf.toBelow (Nat.le_trans h.hl (Nat.le_of_lt h.xl.lt)) fun k hk hs => by have := hS k hs; omega), h.kids.frame hf h5, h.klen⟩
theorem FoundW.facts (h : FoundW w base bl bk K A n cap l R) : w.cell? ⟨bl, 0, none⟩ = some (.slice A n cap) ∧ w.cell? ⟨bk, 0, none⟩ = some (.slice (some ⟨K, 0, none⟩) n n) ∧ ∀ (i : Nat) (hi : i < R.length), w.cell? ⟨K, i, none⟩ = some R[i].val := by
  refine ⟨?_, ?_, fun i hi => ?_⟩
  · have := h.xl.cell (k := 0) (by simp); simpa using this
  · have := h.xk.cell (k := 0) (by simp); simpa using this
  · have := h.kids.tab.cell (k := i) (by simpa using hi)
    rw [this, List.getElem?_map, List.getElem?_eq_getElem hi]
    rfl
theorem FoundW.sizeB (h : FoundW w base bl bk K A n cap l R) : base ≤ w.heap.size := Nat.le_trans h.hl (Nat.le_of_lt h.xl.lt)
theorem found_push (h : FoundW w base bl bk K A n cap l R) {p : Nat} (hp : p < R.length) {i c5 : Nat} {A5 : Option Addr} {w2 : World} (hg : (w.drew.alloc (.cells #[.int .i64 (i : Int)] 3)).grownBy w2 R[p].val.ownBlock)
    (ho : w2.ownsRow base 3 1 (.slice A5 (R[p].row.length + 1) c5) (R[p].row.length + 1) (natsV R[p].row ++ [.int .i64 (i : Int)])) (hid : ∀ g, Own1 A5 g → R[p].val.ownBlock = some g ∨ w.heap.size + 1 ≤ g) :
    Below base w w2 ∧ w2.cell? ⟨bl, 0, none⟩ = some (.slice A n cap) ∧ w2.cell? ⟨bk, 0, none⟩ = some (.slice (some ⟨K, 0, none⟩) n n) ∧ w2.cell? ⟨K, p, none⟩ = some R[p].val ∧ w2.frozen? ⟨K, p, none⟩ = false ∧
    FoundW (w2.setCell ⟨K, p, none⟩ (.slice A5 (R[p].row.length + 1) c5)) base bl bk K A n cap l (R.set p ⟨A5, c5, R[p].row ++ [i]⟩) ∧ Below base w (w2.setCell ⟨K, p, none⟩ (.slice A5 (R[p].row.length + 1) c5)) := by
  have hr := h.kids.rows R[p] (List.getElem_mem hp)
  have hf : Frame (Own1 R[p].A) w w2 := (((Frame.refl _ w).drew).alloc _).grown hg fun k hk _ => own1_val.1 hk
  have hb : ∀ g, Own1 R[p].A g → base ≤ g := fun g hg => (hr.lt g (own1_val.2 hg)).1
  have n1 : ¬ Own1 R[p].A bl := fun hs => own_ne hr h.xl (by decide) (own1_val.2 hs) rfl
  have n2 : ¬ Own1 R[p].A bk := fun hs => own_ne hr h.xk (by decide) (own1_val.2 hs) rfl
  have n3 : ¬ Own1 R[p].A K := fun hs => own_ne hr h.kids.tab (by decide) (own1_val.2 hs) rfl
  have b2 : Below base w w2 := hf.toBelow h.sizeB fun k hk hs => by have := hb k hs; omega
  have x2 := h.xl.frame hf n1
  have k2 := h.xk.frame hf n2
  have t2 := h.kids.tab.frame hf n3
  have hf3 : Frame (fun g => Own1 R[p].A g ∨ g = K) w (w2.setCell ⟨K, p, none⟩ (.slice A5 (R[p].row.length + 1) c5)) := (hf.mono fun _ _ hs => .inl hs).setCell (fun _ => .inr rfl) _
  have b3 : Below base w (w2.setCell ⟨K, p, none⟩ (.slice A5 (R[p].row.length + 1) c5)) := b2.setCell h.kids.hK _
  refine ⟨b2, ?_, ?_, ?_, t2.frozen p, ?_, b3⟩
  · have := x2.cell (k := 0) (by simp); simpa using this
  · have := k2.cell (k := 0) (by simp); simpa using this
  · have := t2.cell (k := p) (by simpa using hp)
    rw [this, List.getElem?_map, List.getElem?_eq_getElem hp]
    rfl
  · have e1 : bl ≠ K := h.xl.ne_type h.kids.tab (by decide)
    have e2 : bk ≠ K := h.xk.ne_type h.kids.tab (by decide)
    have hv : Rk.val ⟨A5, c5, R[p].row ++ [i]⟩ = .slice A5 (R[p].row.length + 1) c5 := by unfold Rk.val; simp
    refine ⟨x2.keep (Below.heap_setCell _ _ _ _ e1), k2.keep (Below.heap_setCell _ _ _ _ e2), h.hl, h.hk, h.nodes.below b3, ?_, by rw [List.length_set]; exact h.klen⟩
    refine h.kids.put hp hf3 (fun g hg => hg.elim .inl fun e => .inr (.inr e)) (fun g hg => (hid g hg).elim (fun h => .inl (own1_val.1 h)) fun h => .inr (by omega)) ?_ ?_
    · rw [hv]
      have e3 : natsV (R[p].row ++ [i]) = natsV R[p].row ++ [.int .i64 (i : Int)] := by unfold natsV; simp
      have e4 : (R[p].row ++ [i]).length = R[p].row.length + 1 := by simp
      show World.ownsRow _ base 3 1 _ (R[p].row ++ [i]).length (natsV (R[p].row ++ [i]))
      rw [e3, e4]
      exact own_keep ho fun g hg _ => Below.heap_setCell _ _ _ _ (own_ne ho t2 (by decide) hg)
    · rw [hv]
      exact t2.store p _
end
def ordFn (bl bo bk bp : Nat) : Value := .func (.func 27) #[] #[.pointer (some ⟨bl, 0, none⟩), .pointer (some ⟨bo, 0, none⟩), .pointer (some ⟨bk, 0, none⟩), .pointer (some ⟨bp, 0, none⟩)]
/-- The list and put's box, made. -/
theorem put_start {wr : World} {base bl bk K n cap : Nat} {A : Option Addr} {l : List Nm} {R : List Rk} (h : FoundW wr base bl bk K A n cap l R) (hq : n ≤ maxLen) (hbp : bl < wr.heap.size + 1) :
    ((((wr.alloc (.cells (madeCells #[.int .i64 0, .string ByteArray.empty, .slice none 0 0] (n * 3)) 50)).alloc (.cells #[.slice (some ⟨wr.heap.size, 0, none⟩) 0 n] 22)).alloc (.cells #[.nilFunc] 60)).cell? ⟨wr.heap.size + 1 + 1, 0, none⟩ = some .nilFunc ∧
     (((wr.alloc (.cells (madeCells #[.int .i64 0, .string ByteArray.empty, .slice none 0 0] (n * 3)) 50)).alloc (.cells #[.slice (some ⟨wr.heap.size, 0, none⟩) 0 n] 22)).alloc (.cells #[.nilFunc] 60)).frozen? ⟨wr.heap.size + 1 + 1, 0, none⟩ = false) ∧
    PutW ((((wr.alloc (.cells (madeCells #[.int .i64 0, .string ByteArray.empty, .slice none 0 0] (n * 3)) 50)).alloc (.cells #[.slice (some ⟨wr.heap.size, 0, none⟩) 0 n] 22)).alloc (.cells #[.nilFunc] 60)).setCell ⟨wr.heap.size + 1 + 1, 0, none⟩ (ordFn bl (wr.heap.size + 1) bk (wr.heap.size + 1 + 1)))
      base bl (wr.heap.size + 1) bk (wr.heap.size + 1 + 1) K A n cap l R (some ⟨wr.heap.size, 0, none⟩) n [] ∧
    Below wr.heap.size wr ((((wr.alloc (.cells (madeCells #[.int .i64 0, .string ByteArray.empty, .slice none 0 0] (n * 3)) 50)).alloc (.cells #[.slice (some ⟨wr.heap.size, 0, none⟩) 0 n] 22)).alloc (.cells #[.nilFunc] 60)).setCell ⟨wr.heap.size + 1 + 1, 0, none⟩ (ordFn bl (wr.heap.size + 1) bk (wr.heap.size + 1 + 1))) := by
  obtain ⟨wa, hwa⟩ : ∃ wa, wa = wr.alloc (.cells (madeCells #[.int .i64 0, .string ByteArray.empty, .slice none 0 0] (n * 3)) 50) := ⟨_, rfl⟩
  have za : wa.heap.size = wr.heap.size + 1 := by rw [hwa]; simp
  have ra : wa.ownsRow base 50 3 (.slice (some ⟨wr.heap.size, 0, none⟩) 0 n) 0 [] := by rw [hwa]; exact own_made3 h.sizeB hq
  have ba : Below wr.heap.size wr wa := by rw [hwa]; exact (Below.refl _ wr).alloc (Nat.le_refl _) _
  rw [← hwa]
  obtain ⟨wb, hwb⟩ : ∃ wb, wb = wa.alloc (.cells #[.slice (some ⟨wr.heap.size, 0, none⟩) 0 n] 22) := ⟨_, rfl⟩
  have zb : wb.heap.size = wr.heap.size + 1 + 1 := by rw [hwb, ← za]; simp
  have rb : wb.ownsRow base 50 3 (.slice (some ⟨wr.heap.size, 0, none⟩) 0 n) 0 [] := by rw [hwb]; exact ra.alloc _
  have xb : RowAt wb (wr.heap.size + 1) 22 [.slice (some ⟨wr.heap.size, 0, none⟩) 0 n] := by rw [hwb, ← za]; exact ⟨_, heap_alloc_new _ _, rfl⟩
  have bb : Below wr.heap.size wr wb := by rw [hwb]; exact ba.alloc (by omega) _
  rw [← hwb]
  obtain ⟨wc, hwc⟩ : ∃ wc, wc = wb.alloc (.cells #[.nilFunc] 60) := ⟨_, rfl⟩
  have rc : wc.ownsRow base 50 3 (.slice (some ⟨wr.heap.size, 0, none⟩) 0 n) 0 [] := by rw [hwc]; exact rb.alloc _
  have xc : RowAt wc (wr.heap.size + 1) 22 [.slice (some ⟨wr.heap.size, 0, none⟩) 0 n] := xb.keep (by rw [hwc]; exact Below.heap_alloc _ _ _ xb.lt)
  have yc : RowAt wc (wr.heap.size + 1 + 1) 60 [.nilFunc] := by rw [hwc, ← zb]; exact ⟨_, heap_alloc_new _ _, rfl⟩
  have bc : Below wr.heap.size wr wc := by rw [hwc]; exact bb.alloc (by omega) _
  rw [← hwc]
  have hset : ∀ g, g ≠ wr.heap.size + 1 + 1 → (wc.setCell ⟨wr.heap.size + 1 + 1, 0, none⟩ (ordFn bl (wr.heap.size + 1) bk (wr.heap.size + 1 + 1))).heap[g]? = wc.heap[g]? := fun g hg => Below.heap_setCell _ _ _ _ hg
  have bd : Below wr.heap.size wr (wc.setCell ⟨wr.heap.size + 1 + 1, 0, none⟩ (ordFn bl (wr.heap.size + 1) bk (wr.heap.size + 1 + 1))) := bc.setCell (by show wr.heap.size ≤ wr.heap.size + 1 + 1; omega) _
  have hl := h.xl.lt
  have hk := h.xk.lt
  have hb := h.sizeB
  have yd := yc.store 0 (ordFn bl (wr.heap.size + 1) bk (wr.heap.size + 1 + 1))
  refine ⟨⟨by have := yc.cell (k := 0) (by simp); simpa using this, yc.frozen 0⟩, ⟨h.xl.keep (bd.block _ hl), xc.keep (hset _ (by omega)), h.xk.keep (bd.block _ hk), by simpa [ordFn] using yd, by omega, h.hl, by omega, h.hk, by omega, ?_, ?_, h.klen, ?_⟩, bd⟩
  · exact h.nodes.below (bd.mono hb)
  · exact h.kids.keepB fun g hg => bd.block g (h.kids.blk hg).2
  · refine ⟨rfl, own_keep rc fun g hg _ => hset g ?_, by simp, List.Pairwise.nil⟩
    have : wr.heap.size = g := by simpa [Value.ownBlock] using hg
    omega
set_option maxRecDepth 100000 in
set_option maxHeartbeats 4000000 in
theorem psorted_any (A : Option Addr) (cap n : Nat) (l : List Nm) (hn : n = l.length) (hsz : Sized l) (w : World) (B : Nat) (hB : B ≤ w.heap.size) (hs : Nodes w B A l) :
    Calls Tryz.prog 8 #[.slice A n cap] w fun e w' => (∃ (A' : Option Addr) (c' n' : Nat) (acc : List Nm), e = .returned (.tuple #[.slice A' n' c', .int .i64 (checkF (dat l)).2]) ∧ OwnN w' w.heap.size A' n' c' acc ∧ dat acc = sortR (dat l)) ∧ Below w.heap.size w w' := by
  have hch := pCheck_any A cap n l hn hsz (w.alloc (.cells #[.slice A n cap] 22)) B (by simp; omega) (hs.below ((Below.refl B w).alloc hB _))
  have hfi : (checkF (dat l)).2 = 0 → Fine (dat l) (dat l).length ∧ 0 < (dat l).length ∧ (dat l).length ≤ 512 := check_fine
  have hno : (checkF (dat l)).2 ≠ 0 → sortR (dat l) = [] := fun h => by unfold sortR; rw [if_neg h]
  have hyes : (checkF (dat l)).2 = 0 → sortR (dat l) = sortedL (dat l) := fun h => by unfold sortR; rw [if_pos h]
  obtain ⟨i0, fi, fz0, fz1, fz2⟩ := info_parts info3
  have hnz : n * 48 ≤ 140737488355328 := by rw [hn]; exact hsz.n
  have hmk := make_kids n hnz
  have hmo := make_nodes n hnz
  generalize checkF (dat l) = R at *
  obtain ⟨R1, R2⟩ := R
  simp only at hch hfi hno hyes ⊢
  have HCH := Lib.hid hch
  have HS := Lib.hid hs
  have HN := Lib.hid hn
  have HZ := Lib.hid hsz
  clear hch hs hn hsz
  by_cases h0 : R2 = 0
  case neg =>
    have HNO := Lib.hid (hno h0)
    clear hfi hno hyes
    go_enter Tryz.func8, Tryz.ntmps8
    go_wp2_with (first
      | (go_at_call 23; refine HCH.out.mono ?_; rintro e w1 ⟨rfl, hb1⟩; have HB1 := Lib.hid hb1; clear hb1))
    go_ret2
    exact ⟨⟨none, 0, 0, [], rfl, own_none _ _, HNO.out.symm⟩, ((Below.refl _ w).alloc (Nat.le_refl _) _).trans (HB1.out.mono (by simp))⟩
  case pos =>
    subst h0
    obtain ⟨hfin, hpos, h512⟩ := hfi rfl
    have htr := fine_tr hfin
    have hy := hyes rfl
    have HY := Lib.hid hy
    have HF := Lib.hid hfin
    have HT := Lib.hid htr
    have hl0 : 0 < n := by rw [HN.out, ← dat_len]; exact hpos
    have hn5 : n ≤ 512 := by rw [HN.out, ← dat_len]; exact h512
    clear hfi hno hyes hfin htr hy hpos h512
    go_enter Tryz.func8, Tryz.ntmps8
    go_wp2_with (first
      | (go_at_call 23; refine HCH.out.mono ?_; rintro e w1 ⟨rfl, hb1⟩; have HB1 := Lib.hid hb1
         have esz : (w.alloc (.cells #[.slice A n cap] 22)).heap.size = w.heap.size + 1 := by simp
         rw [esz] at hb1
         have x1 : RowAt w1 w.heap.size 22 [.slice A n cap] := RowAt.keep (w := w.alloc (.cells #[.slice A n cap] 22)) ⟨_, heap_alloc_new _ _, rfl⟩ (hb1.block _ (by omega))
         have c1 := x1.cell (k := 0) (by simp)
         simp only [List.getElem?_cons_zero] at c1
         have X1 := Lib.hid x1
         clear hb1 x1))
    go_loopw [7] (fun iv wx => ∃ (i : Nat) (R : List Rk), 1 ≤ i ∧ i ≤ n ∧ iv = .int .i64 i ∧ FoundW wx w.heap.size w.heap.size (w1.heap.size + 1) w1.heap.size A n cap l R ∧ (∀ (p : Nat) (hp : p < R.length), R[p].row = kidsT (dat l) i p) ∧ Below w.heap.size w wx) (fun iv _ => n - (intOf iv).toNat)
    case atStart =>
      have x1 := X1.out
      have hk := kids_made w1 n w.heap.size (by have := x1.lt; omega)
      have hb1 : Below (w.heap.size + 1) (w.alloc (.cells #[.slice A n cap] 22)) w1 := by rw [← esz]; exact HB1.out
      have hbw : Below w.heap.size w w1 := ((Below.refl _ w).alloc (Nat.le_refl _) _).trans (hb1.mono (by omega))
      have hw1 : w.heap.size < w1.heap.size := x1.lt
      have hb2 : Below w1.heap.size w1 ((w1.alloc (.cells (madeCells #[Value.slice none 0 0] n) 59)).alloc (.cells #[.slice (some ⟨w1.heap.size, 0, none⟩) n n] 58)) := ((Below.refl _ w1).alloc (Nat.le_refl _) _).alloc (by simp) _
      refine ⟨1, _, by omega, by omega, rfl, ⟨x1.keep (hb2.block _ hw1), ⟨_, by rw [show w1.heap.size + 1 = (w1.alloc (.cells (madeCells #[Value.slice none 0 0] n) 59)).heap.size by simp]; exact heap_alloc_new _ _, rfl⟩, Nat.le_refl _, by omega, ?_, hk.keepB fun g hg => ?_, by simp⟩, ?_, hbw.trans (hb2.mono (by omega))⟩
      · exact ((HS.out.below (hbw.mono hB)).more hB).below (hb2.mono (by omega))
      · exact Below.heap_alloc _ _ _ (hk.blk hg).2
      · intro p hp
        rw [List.getElem_replicate, kidsT_one]
    case round =>
      obtain ⟨i, R, hi1, hin, rfl, hW, hrw, hb⟩ := hrel
      have HW := Lib.hid hW
      have HRW := Lib.hid hrw
      have HB := Lib.hid hb
      clear hW hrw hb c1
      by_cases hlt : i < n
      · have hil : i < l.length := by rw [← HN.out]; exact hlt
        have hii : (i : Int) < (n : Int) := by omega
        obtain ⟨c1, c2, c3⟩ := HW.out.facts
        obtain ⟨b, off, eA, hbB, x0, _, _, _⟩ := HW.out.nodes.at_ hil
        subst eA
        obtain ⟨hu1, hu2⟩ := HT.out.ups i hi1 (by rw [dat_len]; exact hil)
        have hpar : parAt (dat l) i = l[i].d.p := by
          unfold parAt
          rw [Int.toNat_natCast, List.getElem?_eq_getElem (by rw [dat_len]; exact hil)]
          simp only [dat_get l hil]
        rw [hpar] at hu1 hu2
        obtain ⟨p, hp⟩ : ∃ p : Nat, l[i].d.p = (p : Int) := ⟨l[i].d.p.toNat, by omega⟩
        rw [hp] at x0 hpar hu2
        have hpi : p < i := by omega
        have hpR : p < R.length := by rw [HW.out.klen]; omega
        have hpn : (p : Int) < (n : Int) := by omega
        have c4 := c3 p hpR
        have hkr := HW.out.kids.rows R[p] (List.getElem_mem hpR)
        have hrp := HRW.out p hpR
        obtain ⟨kr, hkr0⟩ : ∃ kr, kr = R[p] := ⟨_, rfl⟩
        rw [← hkr0] at c4 hkr hrp
        obtain ⟨kA, kc, krow⟩ := kr
        simp only [Rk.val] at c4 hkr hrp
        have hkm : krow.length ≤ n := by
          rw [hrp]
          unfold kidsT
          refine Nat.le_trans (List.length_filter_le ..) ?_
          rw [List.length_range]
          omega
        obtain ⟨m, hm⟩ : ∃ m, m = krow.length := ⟨_, rfl⟩
        rw [← hm] at c4 hkr hkm
        have HKR := Lib.hid hkr
        have HRP := Lib.hid hrp
        have HK0 := Lib.hid hkr0
        have HM := Lib.hid hm
        have HPAR := Lib.hid hpar
        clear c3 hkr hrp hkr0 hm hpar hu1 hp
        have hwz := HW.out.sizeB
        have hKlt := HW.out.kids.tab.lt
        have hbl := HW.out.xl.lt
        have hbk := HW.out.xk.lt
        go_upto_region 8 with (fail)
        refine wp_region_noPanic ?_
        refine wp_region_F (S := fun W => W.cell? ⟨w.heap.size, 0, none⟩ = some (.slice (some ⟨b, off, none⟩) n cap) ∧ W.cell? ⟨w1.heap.size + 1, 0, none⟩ = some (.slice (some ⟨w1.heap.size, 0, none⟩) n n) ∧ W.cell? ⟨b, off + i * 3, none⟩ = some (.int .i64 (p : Int)) ∧ W.cell? ⟨w1.heap.size, p, none⟩ = some (.slice kA m kc)) (f := 18) (by kernel_rfl) ?_
        have hHeld : wr.drew.cell? ⟨w.heap.size, 0, none⟩ = some (.slice (some ⟨b, off, none⟩) n cap) ∧ wr.drew.cell? ⟨w1.heap.size + 1, 0, none⟩ = some (.slice (some ⟨w1.heap.size, 0, none⟩) n n) ∧ wr.drew.cell? ⟨b, off + i * 3, none⟩ = some (.int .i64 (p : Int)) ∧ wr.drew.cell? ⟨w1.heap.size, p, none⟩ = some (.slice kA m kc) := ⟨c1, c2, x0, c4⟩
        (refine heldF_take (i := 0) rfl rfl (by kernel_rfl) (by kernel_rfl) (by kernel_rfl) (by kernel_rfl) rfl (by kernel_rfl) (fun _ _ _ h => h) (by rfl) (by intro w hSw; obtain ⟨s1, s2, s3, s4⟩ := hSw; go_simp; first | done | with_reducible rfl) (by assumption) ?_; try simp only [Act.put, List.setIfInBounds_toArray, List.set_cons_zero, List.set_cons_succ])
        (refine heldF_take (i := 1) rfl rfl (by kernel_rfl) (by kernel_rfl) (by kernel_rfl) (by kernel_rfl) rfl (by kernel_rfl) (fun _ _ _ h => h) (by rfl) (by intro w hSw; obtain ⟨s1, s2, s3, s4⟩ := hSw; go_simp; first | done | with_reducible rfl) (by assumption) ?_; try simp only [Act.put, List.setIfInBounds_toArray, List.set_cons_zero, List.set_cons_succ])
        (refine heldF_take (i := 2) rfl rfl (by kernel_rfl) (by kernel_rfl) (by kernel_rfl) (by kernel_rfl) rfl (by kernel_rfl) (fun _ _ _ h => h) (by rfl) (by intro w hSw; obtain ⟨s1, s2, s3, s4⟩ := hSw; go_simp; first | done | with_reducible rfl) (by assumption) ?_; try simp only [Act.put, List.setIfInBounds_toArray, List.set_cons_zero, List.set_cons_succ])
        (refine heldF_take (i := 3) rfl rfl (by kernel_rfl) (by kernel_rfl) (by kernel_rfl) (by kernel_rfl) rfl (by kernel_rfl) (fun _ _ _ h => h) (by rfl) (by intro w hSw; obtain ⟨s1, s2, s3, s4⟩ := hSw; go_simp; first | done | with_reducible rfl) (by assumption) ?_; try simp only [Act.put, List.setIfInBounds_toArray, List.set_cons_zero, List.set_cons_succ])
        (refine heldF_take (i := 4) rfl rfl (by kernel_rfl) (by kernel_rfl) (by kernel_rfl) (by kernel_rfl) rfl (by kernel_rfl) (fun _ _ _ h => h) (by rfl) (by intro w hSw; obtain ⟨s1, s2, s3, s4⟩ := hSw; go_simp; first | done | with_reducible rfl) (by assumption) ?_; try simp only [Act.put, List.setIfInBounds_toArray, List.set_cons_zero, List.set_cons_succ])
        (refine heldF_take (i := 5) rfl rfl (by kernel_rfl) (by kernel_rfl) (by kernel_rfl) (by kernel_rfl) rfl (by kernel_rfl) (fun _ _ _ h => h) (by rfl) (by intro w hSw; obtain ⟨s1, s2, s3, s4⟩ := hSw; go_simp; first | done | with_reducible rfl) (by assumption) ?_; try simp only [Act.put, List.setIfInBounds_toArray, List.set_cons_zero, List.set_cons_succ])
        (refine heldF_take (i := 6) rfl rfl (by kernel_rfl) (by kernel_rfl) (by kernel_rfl) (by kernel_rfl) rfl (by kernel_rfl) (fun _ _ _ h => h) (by rfl) (by intro w hSw; obtain ⟨s1, s2, s3, s4⟩ := hSw; go_simp; first | done | with_reducible rfl) (by assumption) ?_; try simp only [Act.put, List.setIfInBounds_toArray, List.set_cons_zero, List.set_cons_succ])
        (refine heldF_take (i := 7) rfl rfl (by kernel_rfl) (by kernel_rfl) (by kernel_rfl) (by kernel_rfl) rfl (by kernel_rfl) (fun _ _ _ h => h) (by rfl) (by intro w hSw; obtain ⟨s1, s2, s3, s4⟩ := hSw; go_simp; first | done | with_reducible rfl) (by assumption) ?_; try simp only [Act.put, List.setIfInBounds_toArray, List.set_cons_zero, List.set_cons_succ])
        (refine heldF_take (i := 8) rfl rfl (by kernel_rfl) (by kernel_rfl) (by kernel_rfl) (by kernel_rfl) rfl (by kernel_rfl) (fun _ _ _ h => h) (by rfl) (by intro w hSw; obtain ⟨s1, s2, s3, s4⟩ := hSw; go_simp; first | done | with_reducible rfl) (by assumption) ?_; try simp only [Act.put, List.setIfInBounds_toArray, List.set_cons_zero, List.set_cons_succ])
        (refine heldF_take (i := 9) rfl rfl (by kernel_rfl) (by kernel_rfl) (by kernel_rfl) (by kernel_rfl) rfl (by kernel_rfl) (fun _ _ _ h => h) (by rfl) (by intro w hSw; obtain ⟨s1, s2, s3, s4⟩ := hSw; go_simp; first | done | with_reducible rfl) (by assumption) ?_; try simp only [Act.put, List.setIfInBounds_toArray, List.set_cons_zero, List.set_cons_succ])
        (refine heldF_take (i := 10) rfl rfl (by kernel_rfl) (by kernel_rfl) (by kernel_rfl) (by kernel_rfl) rfl (by kernel_rfl) (fun _ _ _ h => h) (by rfl) (by intro w hSw; obtain ⟨s1, s2, s3, s4⟩ := hSw; go_simp; first | done | with_reducible rfl) (by assumption) ?_; try simp only [Act.put, List.setIfInBounds_toArray, List.set_cons_zero, List.set_cons_succ])
        (refine heldF_take (i := 11) rfl rfl (by kernel_rfl) (by kernel_rfl) (by kernel_rfl) (by kernel_rfl) rfl (by kernel_rfl) (fun _ _ _ h => h) (by rfl) (by intro w hSw; obtain ⟨s1, s2, s3, s4⟩ := hSw; go_simp; first | done | with_reducible rfl) (by assumption) ?_; try simp only [Act.put, List.setIfInBounds_toArray, List.set_cons_zero, List.set_cons_succ])
        (refine heldF_take (i := 12) rfl rfl (by kernel_rfl) (by kernel_rfl) (by kernel_rfl) (by kernel_rfl) rfl (by kernel_rfl) (fun _ _ _ h => h) (by rfl) (by intro w hSw; obtain ⟨s1, s2, s3, s4⟩ := hSw; go_simp; first | done | with_reducible rfl) (by assumption) ?_; try simp only [Act.put, List.setIfInBounds_toArray, List.set_cons_zero, List.set_cons_succ])
        (refine heldF_take (i := 13) rfl rfl (by kernel_rfl) (by kernel_rfl) (by kernel_rfl) (by kernel_rfl) rfl (by kernel_rfl) (fun _ _ _ h => h) (by rfl) (by intro w hSw; obtain ⟨s1, s2, s3, s4⟩ := hSw; go_simp; first | done | with_reducible rfl) (by assumption) ?_; try simp only [Act.put, List.setIfInBounds_toArray, List.set_cons_zero, List.set_cons_succ])
        (refine heldF_take (i := 14) rfl rfl (by kernel_rfl) (by kernel_rfl) (by kernel_rfl) (by kernel_rfl) rfl (by kernel_rfl) (fun _ _ _ h => h) (by rfl) (by intro w hSw; obtain ⟨s1, s2, s3, s4⟩ := hSw; go_simp; first | done | with_reducible rfl) (by assumption) ?_; try simp only [Act.put, List.setIfInBounds_toArray, List.set_cons_zero, List.set_cons_succ])
        refine wpAnyF_ready (rs := [15]) (by kernel_rfl) (by simp) ?_
        refine AllReadyF.cons rfl (fun K hK => ?_) AllReadyF.nil
        go_simp
        have hb1 : Below wr.heap.size wr (wr.drew.alloc (.cells #[.int .i64 (i : Int)] 3)) := ((Below.refl _ wr).drew).alloc (Nat.le_refl _) _
        refine hK.out _ _ ⟨(hb1.cell (p := ⟨w.heap.size, 0, none⟩) hbl).trans c1, (hb1.cell (p := ⟨w1.heap.size + 1, 0, none⟩) hbk).trans c2, (hb1.cell (p := ⟨b, off + i * 3, none⟩) (by show b < wr.heap.size; omega)).trans x0, (hb1.cell (p := ⟨w1.heap.size, p, none⟩) hKlt).trans c4⟩ (fun hHeld => ?_)
        clear hK K
        try simp only [Act.put, List.setIfInBounds_toArray, List.set_cons_zero, List.set_cons_succ]
        refine wpAnyF_ready (rs := [16]) (by kernel_rfl) (by simp) ?_
        refine AllReadyF.cons rfl (fun K hK => ?_) AllReadyF.nil
        have hbox : RowAt (wr.drew.alloc (.cells #[.int .i64 (i : Int)] 3)) wr.heap.size 3 [.int .i64 (i : Int)] := ⟨_, heap_alloc_new _ _, rfl⟩
        refine step_push rfl (.tmp 40) (.tmp 42) 59 rfl w.heap.size 3 i0 _ 1 8 Tryz.underlying59 fi fz0 fz1 fz2 rfl (by decide) (.slice kA m kc) m (natsV krow) rfl (HKR.out.alloc _) wr.heap.size 1 1 [.int .i64 (i : Int)] rfl rfl hbox (by intro u hu; simp at hu; subst hu; rfl) (by unfold maxLen; omega) (by omega) (by simp; omega) ?_
        intro A5 c5 w5 hown5 hg5 hid5
        have hkv : R[p].val = .slice kA m kc := by rw [← HK0.out, HM.out]; rfl
        have hkl : R[p].row.length = m := by rw [← HK0.out, HM.out]
        have hkw : R[p].row = krow := by rw [← HK0.out]
        obtain ⟨d0, d1, d2, d3, d4, d5, d6⟩ := found_push HW.out hpR (i := i) (A5 := A5) (c5 := c5) (w2 := w5) (by rw [hkv]; exact hg5) (by rw [hkl, hkw]; exact hown5) (fun g hg => by rw [hkv]; have := hid5 g hg; simpa using this)
        rw [hkl, hkw] at d5
        rw [hkl] at d6
        rw [hkv] at d3
        refine hK.out _ _ ⟨d1, d2, (d0.cell (p := ⟨b, off + i * 3, none⟩) hbB).trans x0, d3⟩ (fun hHeld => ?_)
        clear hK K
        try simp only [Act.put, List.setIfInBounds_toArray]
        (refine heldF_take (i := 17) rfl rfl (by kernel_rfl) (by kernel_rfl) (by kernel_rfl) (by kernel_rfl) rfl (by kernel_rfl) (fun _ _ _ h => h) (by rfl) (by intro w hSw; obtain ⟨s1, s2, s3, s4⟩ := hSw; go_simp; first | done | with_reducible rfl) (by assumption) ?_; try simp only [Act.put])
        clear hHeld
        have HB5 := Lib.hid (HB.out.trans d6)
        have HW5 := Lib.hid d5
        clear d5 d6 hown5 hg5 hid5 hbox hb1
        refine wpAnyF_ready (rs := [18]) (by kernel_rfl) (by simp) ?_
        refine AllReadyF.last rfl (fun K hK => ?_)
        go_simp
        refine hK.out _ _ ?_
        clear hK K
        try simp only [Act.put, List.setIfInBounds_toArray, List.set_cons_zero, List.set_cons_succ]
        refine wpAnyF_done (by kernel_rfl) ?_ _
        refine NoPanic.normal ?_
        go_wp2_with fail
        refine ⟨⟨i + 1, _, by omega, by omega, by go_num, HW5.out, fun q hq => ?_, HB5.out⟩, by simp [intOf]; omega⟩
        rw [List.length_set] at hq
        by_cases e : p = q
        · subst e
          rw [List.getElem_set_self, kidsT_step _ _ _ (by omega), if_pos HPAR.out, HRP.out]
        · rw [List.getElem_set_ne e, kidsT_step _ _ _ (by omega), if_neg (by rw [HPAR.out]; omega)]
          exact HRW.out q hq
      · obtain rfl : i = n := by omega
        have hf0 : ¬ (i : Int) < (i : Int) := by omega
        obtain ⟨c1, c2, _⟩ := HW.out.facts
        have hwz := HW.out.sizeB
        obtain ⟨⟨e1, e2⟩, hP, hbP⟩ := put_start HW.out (by unfold maxLen; omega) (by omega)
        have hta : (dat l).length = i := by rw [dat_len, HN.out]
        have hp0 : parAt (dat l) 0 < 0 := by
          have := (fine_par HF.out (j := 0) (by omega) (by omega)).1
          simpa using this
        have hlen := ord_total HT.out hp0 (by omega)
        have hup : ∀ j : Nat, 0 < j → j < (dat l).length → 0 ≤ parAt (dat l) j ∧ parAt (dat l) j < j := HT.out.ups
        have hpp : ∀ x ∈ l, propsB x.d.ps = true := fun x hx => by
          obtain ⟨j, hj, rfl⟩ := List.mem_iff_getElem.1 hx
          have := HF.out j (by rw [dat_len]; exact hj)
          unfold nodeOkB at this
          rw [List.getElem?_eq_getElem (by rw [dat_len]; exact hj)] at this
          simp only [dat_get l hj, Bool.and_eq_true] at this
          exact this.1.2
        have hput := put_any A i cap l HN.out HZ.out HT.out hpp w.heap.size w.heap.size (wr.heap.size + 1) (w1.heap.size + 1) (wr.heap.size + 1 + 1) w1.heap.size i 0 (-1) (by omega) hl0 (by omega) (by omega) _ R _ _ [] hP (fun p hp => by
          rw [HRW.out p hp, ← hta, kidsT_all hup]) (by rw [List.length_nil, hlen, hta]; omega)
        unfold ordFn at hP hbP hput
        obtain ⟨_, _, _, _, e3, _⟩ := hP.facts
        go_upto_region 11 with (fail)
        generalize (((wr.alloc (.cells (madeCells #[.int .i64 0, .string ByteArray.empty, .slice none 0 0] (i * 3)) 50)).alloc (.cells #[.slice (some ⟨wr.heap.size, 0, none⟩) 0 i] 22)).alloc (.cells #[.nilFunc] 60)) = W at *
        have HPUT := Lib.hid hput
        have HBP := Lib.hid hbP
        clear hput hbP hP hpp hup hlen
        go_wp2_with (first
        | (go_at_call 27
           refine HPUT.out.mono ?_
           rintro e w8 ⟨rfl, R8, A8, c8, acc8, hP8, hd8, _, _, hb8⟩
           have e5 := hP8.facts.2.1
           have HP8 := Lib.hid hP8
           have HD8 := Lib.hid hd8
           have HB8 := Lib.hid hb8
           clear hP8 hd8 hb8))
        go_ret2
        exact ⟨⟨A8, c8, acc8.length, acc8, rfl, HP8.out.out, by rw [HD8.out, HY.out]; rfl⟩, HB.out.trans ((HBP.out.mono hwz).trans HB8.out)⟩
end Go.Proofs.YtmdnbajbfnhecaaGreatDoor
