/- The program's turn: the contract. -/
import Derived.Test.YtghcemfffhjmjaaNet
import Derived.Deep.RegionLaw
import Derived.Deep.RegionHeld3
set_option linter.unusedVariables false
namespace Go.Proofs.Ytghcemfffhjmjaa
open Go.RowKit
/-- The changes from f to g: first those upward, from the first domain on; then those downward, from the last one back. -/
def ups (f g : Nat → Nat) : Nat → List (Nat × Nat × Nat)
  | 0 => []
  | k + 1 => if f k < g k then ups f g k ++ [(k, f k, g k)] else ups f g k
def dns (f g : Nat → Nat) (n : Nat) (p : List (Nat × Nat × Nat)) : Nat → List (Nat × Nat × Nat)
  | 0 => p
  | m + 1 => if g (n - 1 - m) < f (n - 1 - m) then dns f g n p m ++ [(n - 1 - m, f (n - 1 - m), g (n - 1 - m))] else dns f g n p m
def chgs (f g : Nat → Nat) (n : Nat) : List (Nat × Nat × Nat) := dns f g n (ups f g n) n
def chCells (l : List (Nat × Nat × Nat)) : List Value := l.flatMap fun x => [.int .i64 (x.1 : Int), .int .u8 (x.2.1 : Int), .int .u8 (x.2.2 : Int)]
theorem ups_len (f g : Nat → Nat) : ∀ k, (ups f g k).length ≤ k
  | 0 => by simp [ups]
  | k + 1 => by have := ups_len f g k; unfold ups; split <;> simp <;> omega
theorem dns_len (f g : Nat → Nat) (n : Nat) (p : List (Nat × Nat × Nat)) : ∀ m, (dns f g n p m).length ≤ p.length + m
  | 0 => by simp [dns]
  | m + 1 => by have := dns_len f g n p m; unfold dns; split <;> simp <;> omega
theorem Try.info40 : (Try.prog.info? 40).map (fun i => (i.zero, i.size, i.bytes)) = some (some (.agg #[.int .i64 0, .int .u8 0, .int .u8 0]), 3, 16) := by kernel_rfl
theorem own_base {w : World} {base base' : Nat} {e : TypeId} {size n : Nat} {v : Value} {xs : List Value} (h : w.ownsRow base e size v n xs) (hb : base' ≤ base) : w.ownsRow base' e size v n xs := by
  refine ⟨h.1, ?_⟩
  rcases h.2 with h2 | ⟨g, cap, cur, a1, a2, a3⟩
  · exact .inl h2
  · exact .inr ⟨g, cap, cur, a1, by omega, a3⟩
theorem info_parts {P : Program} {t : TypeId} {z : Option Value} {s b : Nat} (h : (P.info? t).map (fun i => (i.zero, i.size, i.bytes)) = some (z, s, b)) : ∃ i, P.info? t = some i ∧ i.zero = z ∧ i.size = s ∧ i.bytes = b := by
  rcases hi : P.info? t with _ | i
  · rw [hi] at h; cases h
  · rw [hi] at h
    simp at h
    exact ⟨i, rfl, h.1, h.2.1, h.2.2⟩
theorem seg_new (w : World) (e : TypeId) (cs : Array Value) : Seg (w.alloc (.cells cs e (0, 0))) (w.heap.size + 1) (some ⟨w.heap.size, 0, none⟩) cs.toList := fun _ => by
  refine ⟨_, 0, rfl, by omega, fun j u hu => ?_⟩
  rw [cell_of_row _ _ _ _ _ (0, 0) (heap_alloc_new w _), Nat.zero_add]
  simpa using hu
theorem own_setCells {g : Nat} {base : Nat} {e : TypeId} {size n : Nat} {v : Value} {xs : List Value} (hg : g < base) : ∀ (vs : List Value) (o : Nat) (w : World), w.ownsRow base e size v n xs → (w.setCells g o vs).ownsRow base e size v n xs
  | [], o, w, h => h
  | x :: r, o, w, h => own_setCells hg r (o + 1) _ (ownsRow_setCell_below h (a := ⟨g, o, none⟩) hg x)
theorem frame_setCells {g : Nat} {S : Nat → Prop} {a : World} (hg : g < a.heap.size → S g) : ∀ (vs : List Value) (o : Nat) (w : World), Frame S a w → Frame S a (w.setCells g o vs)
  | [], o, w, h => h
  | v :: r, o, w, h => frame_setCells hg r (o + 1) _ (h.setCell (p := ⟨g, o, none⟩) hg v)
theorem row_mid_there {w : World} {g : Nat} {e : TypeId} {xs : List Value} (h : RowAt w g e xs) (o m : Nat) (hm : o + m ≤ xs.length) : w.there g o m := fun j hj => by
  refine ⟨?_, h.frozen _⟩
  rw [h.cell (by omega), List.getElem?_eq_getElem (by omega)]
  rfl
theorem step_append_seg {P : Program} {w : World} {ops : Array Oper} {o : Oper} {a : Act} {K : Act → World → Prop} {Q : Exit → Act → World → Prop} {E : Prop} (hgd : o.guard = none) (s x : Operand) (t : TypeId)
    (ho : o.op = .call { callee := .builtin .append, args := #[s, x], argTypes := #[t, t] })
    (base : Nat) (e : TypeId) (i : TypeInfo) (z : Value) (size bytes : Nat) (ht : P.underlying t = some (.slice e)) (hi : P.info? e = some i) (hz : i.zero = some z)
    (hsize : i.size = size) (hby : i.bytes = bytes) (hzs : z.cells.size = size) (hsz : 0 < size)
    (v : Value) (n : Nat) (xs : List Value) (hs : a.eval s = v) (hown : w.ownsRow base e size v n xs)
    (B : Nat) (A : Option Addr) (m c : Nat) (news : List Value) (hx : a.eval x = .slice A m c) (hl : news.length = m * size) (hr : Seg w B A news) (h1 : ∀ u ∈ news, u.oneCell' = true)
    (h63 : n + m ≤ maxLen) (hbytes : (n + m) * bytes ≤ 140737488355328) (hbase : base ≤ w.heap.size)
    (h : ∀ v' w', w'.ownsRow base e size v' (n + m) (xs ++ news) → w.grownBy w' v.ownBlock → (v' = .slice none 0 0 → v = .slice none 0 0) → K (a.put o.dst v') w') :
    if Region.wanted o (yielded ops a.tmps) = true then Oper.wp P o a w K Q else E := by
  have hw : Region.wanted o (yielded ops a.tmps) = true := by simp [Region.wanted, hgd]
  rw [if_pos hw]
  obtain ⟨v', w', hrun, h2, h3, h4⟩ := run_append_seg (P := P) w base t o.type e i z size bytes ht hi hz hsize hby hzs hsz v n xs hown B A m c news hl hr h1 h63 hbytes hbase
  unfold Oper.wp execOp
  simp only [ho, resolve, invoke, builtin, Sem.run_bind, Sem.run_pure, Result.andThen_ok, List.map_toArray, List.map_cons, List.map_nil, hs, hx, hrun]
  exact h v' w' h2 h3 h4
theorem own_grew {w wr w3 : World} {e : TypeId} {size n : Nat} {v : Value} {xs : List Value} {o : Obj} (ho : wr.ownsRow (w.heap.size + 1) e size v n xs) (hb : Below w.heap.size w wr) (hlt : w.heap.size < wr.heap.size) (hg : (wr.alloc o).grownBy w3 v.ownBlock) :
    Below w.heap.size w w3 ∧ w3.heap[w.heap.size]? = wr.heap[w.heap.size]? := by
  have hv : ∀ k, v.ownBlock = some k → w.heap.size + 1 ≤ k := fun k hk => (ho.lt k hk).1
  refine ⟨(hb.alloc hb.size o).grown hg (by have := hb.size; simp; omega) (fun k hk => by have := hv k hk; omega), ?_⟩
  rw [hg.block _ (by simp; omega) (fun e => by have := hv _ e.symm; omega), Below.heap_alloc _ _ _ hlt]
set_option maxRecDepth 100000 in
set_option maxHeartbeats 4000000 in
theorem turn_any {w : World} {nb mb N n : Nat} {Ad : Option Addr} {cd : Nat} {l : List Dmm} {W : Int → Int → Nat} {f : Nat → Nat} (h : NetAt w nb mb N n Ad cd l W f) (hn256 : n ≤ 256) (g : Nat → Nat) :
    Calls Try.prog 27 #[.pointer (some ⟨nb, 0, none⟩), .agg (arr g).toArray] w fun e w' => ∃ A c, e = .returned (.slice A (chgs f g n).length c) ∧
      w'.ownsRow w.heap.size 40 3 (.slice A (chgs f g n).length c) (chgs f g n).length (chCells (chgs f g n)) ∧ NetAt w' nb mb N n Ad cd l W g ∧ Frame (fun j => j = nb) w w' := by
  have hnb := h.lt
  have HH := Lib.hid h
  have h0 : ∀ w1, Below w.heap.size w w1 → w1.cell? ⟨nb, 0, none⟩ = some (.slice Ad n cd) := fun w1 hb => (hb.cell (p := ⟨nb, 0, none⟩) hnb).trans HH.out.c0
  have h2 : ∀ w1, Below w.heap.size w w1 → ∀ d, d < 256 → w1.cell? ⟨nb, 2 + d, none⟩ = some (.int .u8 (f d)) := fun w1 hb d hd => (hb.cell (p := ⟨nb, 2 + d, none⟩) hnb).trans (HH.out.lv hd)
  have H0 := Lib.hid h0
  have H2 := Lib.hid h2
  clear h h0 h2
  obtain ⟨i0, ei, ez0, ez1, ez2⟩ := info_parts Try.info40
  have k0 := H0.out _ ((Below.refl _ w).alloc (Nat.le_refl _) (.cells (arr g).toArray 60))
  go_enter Try.func27, Try.ntmps27
  go_wp2
  have hr3 : RowAt (w.alloc (.cells (arr g).toArray 60)) w.heap.size 60 (arr g) := ⟨_, heap_alloc_new _ _, by simp⟩
  have hb1 : Below w.heap.size w (w.alloc (.cells (arr g).toArray 60)) := (Below.refl _ _).alloc (Nat.le_refl _) _
  have R3 := Lib.hid hr3
  have HB := Lib.hid hb1
  clear hr3 hb1 k0
  go_loopw [5, 13] (fun o i wr => ∃ k : Nat, k ≤ n ∧ i = .int .i64 k ∧ (∃ A c, o = .slice A (ups f g k).length c) ∧ wr.ownsRow (w.heap.size + 1) 40 3 o (ups f g k).length (chCells (ups f g k)) ∧ RowAt wr w.heap.size 60 (arr g) ∧ Below w.heap.size w wr) (fun _ i _ => n - (intOf i).toNat)
  case atStart => exact ⟨0, by omega, rfl, ⟨none, 0, rfl⟩, World.ownsRow_nil _ _ _ _, R3.out, HB.out⟩
  case round =>
    obtain ⟨k, hk, rfl, ⟨Ao, co, rfl⟩, hown, hr3, hb⟩ := hrel
    clear R3 HB
    have R3 := Lib.hid hr3
    have HB := Lib.hid hb
    have HO := Lib.hid hown
    clear hr3 hb hown
    by_cases hkn : k < n
    · have hk256 : k < 256 := by omega
      have hki : (k : Int) < (n : Int) := by omega
      have hk2 : (k : Int) < 256 := by omega
      have c1 := (R3.out.cell (k := k) (by rw [arr_len]; exact hk256)).trans (arr_get g hk256)
      have c2 := H2.out _ HB.out k hk256
      have hul := ups_len f g k
      have e1 : ups f g (k + 1) = if f k < g k then ups f g k ++ [(k, f k, g k)] else ups f g k := rfl
      obtain ⟨p, hp⟩ : ∃ p, p = f k := ⟨_, rfl⟩
      obtain ⟨q, hq⟩ : ∃ q, q = g k := ⟨_, rfl⟩
      rw [← hp] at c2 e1
      rw [← hq] at c1 e1
      have E1 := Lib.hid e1
      clear hp hq e1
      by_cases hpq : p < q
      · have hpi : (p : Int) < (q : Int) := by omega
        have E2 := Lib.hid (E1.out.trans (if_pos hpq))
        go_wp2_with fail
        go_region
        go_wp2_with fail
        have m1 : ∀ u ∈ [Value.int .i64 (k : Int), .int .u8 (p : Int), .int .u8 (q : Int)], u.oneCell' = true := by intro u hu; simp at hu; rcases hu with rfl | rfl | rfl <;> rfl
        have m2 : (ups f g k).length + 1 ≤ maxLen := by unfold maxLen; omega
        have m3 : ((ups f g k).length + 1) * 16 ≤ 140737488355328 := by omega
        have m4 : w.heap.size + 1 ≤ (wr.alloc (.cells #[.int .i64 (k : Int), .int .u8 (p : Int), .int .u8 (q : Int)] 40)).heap.size := by have := HB.out.size; have := R3.out.lt; simp; omega
        have y1 : nb < wr.heap.size := Nat.lt_of_lt_of_le hnb HB.out.size
        have y2 := R3.out.lt
        have y3 : ∀ e : some nb = (Value.slice Ao (ups f g k).length co).ownBlock, False := fun e => by have := (HO.out.lt nb e.symm).1; omega
        have y4 : ∀ e : some w.heap.size = (Value.slice Ao (ups f g k).length co).ownBlock, False := fun e => by have := (HO.out.lt w.heap.size e.symm).1; omega
        go_region_held3 (fun W => W.cell? ⟨nb, 2 + k, none⟩ = some (.int .u8 p) ∧ W.cell? ⟨w.heap.size, k, none⟩ = some (.int .u8 q)) (first | exact ⟨c2, c1⟩ | exact ⟨(World.cell?_alloc_lt _ _ _ (by exact y1)).trans c2, (World.cell?_alloc_lt _ _ _ (by exact y2)).trans c1⟩ | exact ⟨(World.cell?_of_block (hg3.block nb (by simp; omega) y3)).trans ((World.cell?_alloc_lt _ _ _ (by exact y1)).trans c2), (World.cell?_of_block (hg3.block w.heap.size (by simp; omega) y4)).trans ((World.cell?_alloc_lt _ _ _ (by exact y2)).trans c1)⟩) (first
          | (refine step_append_seg rfl (.tmp 26) (.tmp 38) 33 rfl (w.heap.size + 1) 40 i0 _ 3 16 Try.underlying33 ei ez0 ez1 ez2 rfl (by decide) (.slice Ao (ups f g k).length co) _ (chCells (ups f g k)) (by simp [Act.eval]) (World.ownsRow.alloc (w := _) (by exact HO.out) _) (wr.heap.size + 1) (some ⟨wr.heap.size, 0, none⟩) 1 1 [.int .i64 k, .int .u8 p, .int .u8 q] (by simp [Act.eval]) rfl (by exact seg_new _ 40 #[.int .i64 k, .int .u8 p, .int .u8 q]) m1 m2 m3 m4 ?_; intro v3 w3 hown3 hg3 _)
          | fail)
        clear m1 m2 m3 m4 y1 y2 y3 y4
        obtain ⟨A3, c3', rfl⟩ := own_shape hown3
        obtain ⟨hb3, hk3⟩ := own_grew HO.out HB.out R3.out.lt (w3 := w3) (o := .cells #[.int .i64 (k : Int), .int .u8 (p : Int), .int .u8 (q : Int)] 40) ⟨hg3.os, hg3.tape, hg3.output, hg3.size, hg3.block⟩
        have ht : chCells (ups f g k) ++ [.int .i64 (k : Int), .int .u8 (p : Int), .int .u8 (q : Int)] = chCells (ups f g (k + 1)) := by rw [E2.out]; simp [chCells]
        rw [ht] at hown3
        have hl3 : (ups f g k).length + 1 = (ups f g (k + 1)).length := by rw [E2.out]; simp
        rw [hl3] at hown3
        have H3 := Lib.hid hown3
        have HL3 := Lib.hid hl3
        have HB3 := Lib.hid hb3
        have R3' := Lib.hid (R3.out.keep hk3)
        clear hown3 hb3 hl3 ht hg3 hk3
        go_wp2_with fail
        exact ⟨⟨k + 1, by omega, by go_num, ⟨A3, c3', by rw [HL3.out]⟩, by rw [HL3.out]; exact H3.out, R3'.out, HB3.out⟩, by simp [intOf]; omega⟩
      · have hpi : ¬ (p : Int) < (q : Int) := by omega
        have E2 := Lib.hid (E1.out.trans (if_neg hpq))
        go_wp2_with fail
        go_region
        go_wp2_with fail
        exact ⟨⟨k + 1, by omega, by go_num, ⟨Ao, co, by rw [E2.out]⟩, by rw [E2.out]; exact HO.out, R3.out, HB.out.drew⟩, by simp [intOf]; omega⟩
    · obtain rfl : k = n := by omega
      have k0 := H0.out _ HB.out
      go_wp2_with fail
      go_loopw [5, 7] (fun o i wr => ∃ m : Nat, m ≤ k ∧ i = .int .i64 ((k : Int) - 1 - m) ∧ (∃ A c, o = .slice A (dns f g k (ups f g k) m).length c) ∧ wr.ownsRow (w.heap.size + 1) 40 3 o (dns f g k (ups f g k) m).length (chCells (dns f g k (ups f g k) m)) ∧ RowAt wr w.heap.size 60 (arr g) ∧ Below w.heap.size w wr) (fun _ i _ => (intOf i + 1).toNat)
      case atStart => exact ⟨0, by omega, by go_num, ⟨Ao, co, rfl⟩, HO.out, R3.out, HB.out⟩
      case round =>
        obtain ⟨m, hm, rfl, ⟨Ap, cp, rfl⟩, hown, hr3, hb⟩ := hrel
        clear R3 HB HO k0
        have R3 := Lib.hid hr3
        have HB := Lib.hid hb
        have HO := Lib.hid hown
        clear hr3 hb hown
        by_cases hmk : m < k
        · obtain ⟨d, hd⟩ : ∃ d, d = k - 1 - m := ⟨_, rfl⟩
          have hdi : (k : Int) - 1 - m = (d : Int) := by omega
          have hd256 : d < 256 := by omega
          have hd2 : (d : Int) < 256 := by omega
          have hd0 : (0 : Int) ≤ (d : Int) := by omega
          rw [hdi]
          have c1 := (R3.out.cell (k := d) (by rw [arr_len]; exact hd256)).trans (arr_get g hd256)
          have c2 := H2.out _ HB.out d hd256
          have hul := ups_len f g k
          have hdl := dns_len f g k (ups f g k) m
          have e1 : dns f g k (ups f g k) (m + 1) = if g d < f d then dns f g k (ups f g k) m ++ [(d, f d, g d)] else dns f g k (ups f g k) m := by rw [hd]; rfl
          obtain ⟨x, hx⟩ : ∃ x, x = dns f g k (ups f g k) m := ⟨_, rfl⟩
          have ho2 := HO.out
          obtain ⟨p, hp⟩ : ∃ p, p = f d := ⟨_, rfl⟩
          obtain ⟨q, hq⟩ : ∃ q, q = g d := ⟨_, rfl⟩
          rw [← hp] at c2 e1
          rw [← hq] at c1 e1
          rw [← hx] at e1 hdl ho2 ⊢
          have E1 := Lib.hid e1
          have HO2 := Lib.hid ho2
          clear hp hq e1 ho2 HO hx hd
          by_cases hpq : q < p
          · have hpi : (q : Int) < (p : Int) := by omega
            have E2 := Lib.hid (E1.out.trans (if_pos hpq))
            go_wp2_with fail
            go_region
            go_wp2_with fail
            have m1 : ∀ u ∈ [Value.int .i64 (d : Int), .int .u8 (p : Int), .int .u8 (q : Int)], u.oneCell' = true := by intro u hu; simp at hu; rcases hu with rfl | rfl | rfl <;> rfl
            have m2 : (x).length + 1 ≤ maxLen := by unfold maxLen; omega
            have m3 : ((x).length + 1) * 16 ≤ 140737488355328 := by omega
            have m4 : w.heap.size + 1 ≤ (wr.alloc (.cells #[.int .i64 (d : Int), .int .u8 (p : Int), .int .u8 (q : Int)] 40)).heap.size := by have := HB.out.size; have := R3.out.lt; simp; omega
            have y1 : nb < wr.heap.size := Nat.lt_of_lt_of_le hnb HB.out.size
            have y2 := R3.out.lt
            have y3 : ∀ e : some nb = (Value.slice Ap (x).length cp).ownBlock, False := fun e => by have := (HO2.out.lt nb e.symm).1; omega
            have y4 : ∀ e : some w.heap.size = (Value.slice Ap (x).length cp).ownBlock, False := fun e => by have := (HO2.out.lt w.heap.size e.symm).1; omega
            go_region_held3 (fun W => W.cell? ⟨nb, 2 + d, none⟩ = some (.int .u8 p) ∧ W.cell? ⟨w.heap.size, d, none⟩ = some (.int .u8 q)) (first | exact ⟨c2, c1⟩ | exact ⟨(World.cell?_alloc_lt _ _ _ (by exact y1)).trans c2, (World.cell?_alloc_lt _ _ _ (by exact y2)).trans c1⟩ | exact ⟨(World.cell?_of_block (hg3.block nb (by simp; omega) y3)).trans ((World.cell?_alloc_lt _ _ _ (by exact y1)).trans c2), (World.cell?_of_block (hg3.block w.heap.size (by simp; omega) y4)).trans ((World.cell?_alloc_lt _ _ _ (by exact y2)).trans c1)⟩) (first
              | (refine step_append_seg rfl (.tmp 61) (.tmp 73) 33 rfl (w.heap.size + 1) 40 i0 _ 3 16 Try.underlying33 ei ez0 ez1 ez2 rfl (by decide) (.slice Ap (x).length cp) _ (chCells (x)) (by simp [Act.eval]) (World.ownsRow.alloc (w := _) (by exact HO2.out) _) (wr.heap.size + 1) (some ⟨wr.heap.size, 0, none⟩) 1 1 [.int .i64 d, .int .u8 p, .int .u8 q] (by simp [Act.eval]) rfl (by exact seg_new _ 40 #[.int .i64 d, .int .u8 p, .int .u8 q]) m1 m2 m3 m4 ?_; intro v3 w3 hown3 hg3 _)
              | fail)
            clear m1 m2 m3 m4 y1 y2 y3 y4
            obtain ⟨A3, c3', rfl⟩ := own_shape hown3
            obtain ⟨hb3, hk3⟩ := own_grew HO2.out HB.out R3.out.lt (w3 := w3) (o := .cells #[.int .i64 (d : Int), .int .u8 (p : Int), .int .u8 (q : Int)] 40) ⟨hg3.os, hg3.tape, hg3.output, hg3.size, hg3.block⟩
            have ht : chCells x ++ [.int .i64 (d : Int), .int .u8 (p : Int), .int .u8 (q : Int)] = chCells (dns f g k (ups f g k) (m + 1)) := by rw [E2.out]; simp [chCells]
            rw [ht] at hown3
            have hl3 : x.length + 1 = (dns f g k (ups f g k) (m + 1)).length := by rw [E2.out]; simp
            rw [hl3] at hown3
            have H3 := Lib.hid hown3
            have HL3 := Lib.hid hl3
            have HB3 := Lib.hid hb3
            have R3' := Lib.hid (R3.out.keep hk3)
            clear hown3 hb3 hl3 ht hg3 hk3
            go_wp2_with fail
            exact ⟨⟨m + 1, by omega, by go_num, ⟨A3, c3', by rw [HL3.out]⟩, by rw [HL3.out]; exact H3.out, R3'.out, HB3.out⟩, by simp [intOf]⟩
          · have hpi : ¬ (q : Int) < (p : Int) := by omega
            have E2 := Lib.hid (E1.out.trans (if_neg hpq))
            go_wp2_with fail
            go_region
            go_wp2_with fail
            exact ⟨⟨m + 1, by omega, by go_num, ⟨Ap, cp, by rw [E2.out]⟩, by rw [E2.out]; exact HO2.out, R3.out, HB.out.drew⟩, by simp [intOf]⟩
        · obtain rfl : m = k := by omega
          have e1 : decide ((0 : Int) ≤ (m : Int) - 1 - m) = false := by simp; omega
          have hbox := HH.out.box.keep (HB.out.block nb hnb)
          have hth := row_mid_there hbox 2 256 (by simp [arr_len])
          have hsz : (arr g).toArray.size = 256 := by rw [List.size_toArray, arr_len]
          rw [← hsz] at hth
          have hfin := row_setCells (arr g) 2 _ _ hbox (by simp [arr_len])
          rw [List.drop_of_length_le (by simp [arr_len]), List.append_nil] at hfin
          have hnet : NetAt (wr.setCells nb 2 (arr g)) nb mb N m Ad cd l W g := by
            have hnl := HH.out.lt
            have hlow := HH.out.low
            refine ⟨hfin, HH.out.low, HH.out.len, ?_, HH.out.far, HH.out.wants.block ((setCells_heap _ _ _ _ (by omega)).trans (HB.out.block _ (by omega)))⟩
            refine (HH.out.doms.far HH.out.far fun j h1 h2 => (setCells_heap _ _ _ _ (by omega)).trans (HB.out.block _ h2)).more ?_
            rw [setCells_size]; exact HB.out.size
          have hfr : Frame (fun j => j = nb) w (wr.setCells nb 2 (arr g)) := frame_setCells (g := nb) (S := fun j => j = nb) (a := w) (fun _ => rfl) (arr g) 2 wr ⟨HB.out.os, HB.out.tape, HB.out.output, HB.out.size, fun j hj _ => HB.out.block j hj⟩
          have how : (wr.setCells nb 2 (arr g)).ownsRow w.heap.size 40 3 (.slice Ap (chgs f g m).length cp) (chgs f g m).length (chCells (chgs f g m)) := own_setCells (by omega) _ _ _ (own_base HO.out (by omega))
          have HTH := Lib.hid hth
          have HNET := Lib.hid hnet
          have HFR := Lib.hid hfr
          have HOW := Lib.hid how
          clear hth hnet hfr how hbox hfin hsz
          go_wp2_with (first
            | (refine wpList_load_mid rfl 60 (.tmp 3) rfl w.heap.size 0 rfl (arr g) _ (row_range R3.out) Try.underlying60 rfl (size60 _) ?_)
            | (refine wpList_store_mid rfl 60 (.tmp 78) (.tmp 76) rfl nb 2 (arr g).toArray rfl rfl HTH.out (size60' _) (arr_one _) ?_))
          go_ret
          exact ⟨Ap, cp, rfl, HOW.out, HNET.out, HFR.out⟩
end Go.Proofs.Ytghcemfffhjmjaa
