/- The program's Vote: the contract. -/
import Derived.Test.YtghcemfffhjmjaaVLaw
import Derived.Deep.RegionLaw
import Derived.Deep.RegionHeld3
set_option linter.unusedVariables false
namespace Go.Proofs.Ytghcemfffhjmjaa
open Go.RowKit
theorem sz60 (F : Nat → Nat) : (arr F).toArray.size = 256 := by rw [List.size_toArray, arr_len]
theorem fill60 (w : World) {Z : Array Value} (hZ : (arr fun _ => 0).toArray = Z) (F : Nat → Nat) : (w.alloc (.cells Z 60)).there w.heap.size 0 (arr F).toArray.size ∧ RowAt ((w.alloc (.cells Z 60)).setCells w.heap.size 0 (arr F)) w.heap.size 60 (arr F) := by
  have r0 : RowAt (w.alloc (.cells Z 60)) w.heap.size 60 (arr fun _ => 0) := ⟨_, heap_alloc_new _ _, by rw [← hZ]; exact List.take_of_length_le (Nat.le_refl _)⟩
  have hth := row_there r0
  rw [arr_len] at hth
  refine ⟨by rw [sz60]; exact hth, ?_⟩
  have r1 := row_setCells (arr F) 0 _ _ r0 (by rw [arr_len, arr_len]; omega)
  rw [List.take_zero, List.nil_append, List.drop_of_length_le (by rw [arr_len, arr_len]; omega), List.append_nil] at r1
  exact r1
theorem refill60 {w : World} {g : Nat} {F0 : Nat → Nat} (h : RowAt w g 60 (arr F0)) (F : Nat → Nat) : w.there g 0 (arr F).toArray.size ∧ RowAt (w.setCells g 0 (arr F)) g 60 (arr F) := by
  have hth := row_there h
  rw [arr_len] at hth
  refine ⟨by rw [sz60]; exact hth, ?_⟩
  have r1 := row_setCells (arr F) 0 _ _ h (by rw [arr_len, arr_len]; omega)
  rw [List.take_zero, List.nil_append, List.drop_of_length_le (by rw [arr_len, arr_len]; omega), List.append_nil] at r1
  exact r1
theorem raise60 {w : World} {g : Nat} {F : Nat → Nat} (h : RowAt w g 60 (arr F)) {d : Nat} (hd : d < 256) (lv : Nat) :
    RowAt (w.setCell ⟨g, d, none⟩ (.int .u8 (if F d < lv then (lv : Int) else (F d : Int)))) g 60 (arr (upd F d (max (F d) lv))) := by
  have r2 := h.store d (.int .u8 (if F d < lv then (lv : Int) else (F d : Int)))
  have e : (arr F).set d (.int .u8 (if F d < lv then (lv : Int) else (F d : Int))) = arr (upd F d (max (F d) lv)) := by
    rw [show (if F d < lv then (lv : Int) else (F d : Int)) = ((max (F d) lv : Nat) : Int) by split <;> omega, arr_set F hd]
  rw [e] at r2
  exact r2
theorem NetAt.wanted {w w' : World} {nb mb N N' n : Nat} {Ad : Option Addr} {cd : Nat} {l : List Dmm} {W W' : Int → Int → Nat} {f : Nat → Nat} (h : NetAt w nb mb N n Ad cd l W f) (hg : w.grownBy w' (some mb)) (hw : WantsAt w' mb N' n W') : NetAt w' nb mb N' n Ad cd l W' f := by
  have hlow := h.low
  refine ⟨h.box.keep (hg.block _ h.lt (by simp; omega)), h.low, h.len, ?_, h.far, hw⟩
  exact (h.doms.far h.far fun k h1 h2 => hg.block k h2 (by simp; omega)).more hg.size
theorem wpList_put {w : World} {ops : Array Oper} {rest : List Oper} {o : Oper} {a : Act} {Q : Exit → Act → World → Prop} (hgd : o.guard = none) (m x y : Operand) (ho : o.op = .mapUpdate 59 m x y)
    {mb N n : Nat} {W : Int → Int → Nat} (hm : WantsAt w mb N n W) {u d : Nat} (hu : u < 1024) (hd : d < n) (hn : n ≤ 256) (hN : N < maxLen) (v : Nat) (hv : v ≤ 255)
    (h1 : a.eval m = .map (some mb)) (h2 : a.eval x = seat u d) (h3 : a.eval y = .int .u8 (v : Int))
    (h : ∀ w', WantsAt w' mb (N + 1) n (updW W u d v) → w.grownBy w' (some mb) → wpList Try.prog ops Q rest (a.put o.dst undef) w') : wpList Try.prog ops Q (o :: rest) a w := by
  refine wpList_plain hgd fun K' hK' => ?_
  obtain ⟨w', hrun, r1, r2⟩ := hm.add hu hd hn hN v hv
  unfold Oper.wp
  simp [execOp, ho, h1, h2, h3, hrun, Result.andThen]
  exact hK' _ _ (h w' r1 r2)
theorem wpList_del {w : World} {ops : Array Oper} {rest : List Oper} {o : Oper} {a : Act} {Q : Exit → Act → World → Prop} (hgd : o.guard = none) (m x : Operand) (ho : o.op = .call { callee := .builtin .delete, args := #[m, x], argTypes := #[59, 66] })
    {mb N n : Nat} {W : Int → Int → Nat} (hm : WantsAt w mb N n W) {u d : Nat} (hu : u < 1024) (hd : d < 256)
    (h1 : a.eval m = .map (some mb)) (h2 : a.eval x = seat u d)
    (h : ∀ w', WantsAt w' mb N n (updW W u d 0) → w.grownBy w' (some mb) → wpList Try.prog ops Q rest (a.put o.dst (.tuple #[])) w') : wpList Try.prog ops Q (o :: rest) a w := by
  refine wpList_plain hgd fun K' hK' => ?_
  obtain ⟨w', hrun, r1, r2⟩ := hm.drop hu hd o.type
  unfold Oper.wp
  simp only [execOp, ho, resolve, invoke, builtin, Sem.run_bind, Sem.run_pure, Result.andThen_ok, List.map_toArray, List.map_cons, List.map_nil, h1, h2, hrun]
  exact hK' _ _ (h w' r1 r2)
theorem undrew {w w' : World} {row : Option Nat} (h : w.drew.grownBy w' row) : w.grownBy w' row := ⟨h.os, h.tape, h.output, h.size, h.block⟩
theorem undrew2 {w w' : World} {row : Option Nat} (h : w.drew.drew.grownBy w' row) : w.grownBy w' row := ⟨h.os, h.tape, h.output, h.size, h.block⟩
theorem grown_drew {w w' : World} {row : Option Nat} (h : w.grownBy w' row) : w.grownBy w'.drew row := ⟨h.os, h.tape, h.output, h.size, h.block⟩
set_option maxRecDepth 100000 in
set_option maxHeartbeats 4000000 in
theorem vote_any {w : World} {nb mb N n : Nat} {Ad : Option Addr} {cd : Nat} {l : List Dmm} {W : Int → Int → Nat} {f : Nat → Nat} (h : NetAt w nb mb N n Ad cd l W f) (hok : Okd (dsOf l)) (hW : Fitw n W) (hN : N < maxLen) {u d lv : Nat} (hu : u < 1024) (hd : d < n) (hlv : lv ≤ 255) :
    Calls Try.prog 11 #[.pointer (some ⟨nb, 0, none⟩), .int .i64 (u : Int), .int .i64 (d : Int), .int .u8 (lv : Int)] w fun e w' =>
      (¬ TopOk (dsOf l) (lev (dsOf l) (updW W u d lv)) ∧ e = .returned (.tuple #[.slice none 0 0, .int .i64 201]) ∧ Below w.heap.size w w') ∨
      (TopOk (dsOf l) (lev (dsOf l) (updW W u d lv)) ∧ ∃ A c, e = .returned (.tuple #[.slice A (chgs f (lev (dsOf l) (updW W u d lv)) n).length c, .int .i64 0]) ∧
        w'.ownsRow w.heap.size 40 3 (.slice A (chgs f (lev (dsOf l) (updW W u d lv)) n).length c) (chgs f (lev (dsOf l) (updW W u d lv)) n).length (chCells (chgs f (lev (dsOf l) (updW W u d lv)) n)) ∧
        NetAt w' nb mb (N + 1) n Ad cd l (updW W u d lv) (lev (dsOf l) (updW W u d lv)) ∧ Frame (fun j => j = nb ∨ j = mb) w w') := by
  have hz := zero60
  have hnb := h.lt
  have hlen := h.len
  have hn256 : n ≤ 256 := by have := hok.len; rw [ds_len] at this; omega
  have hd256 : d < 256 := by omega
  have hH : ∀ w1, Below w.heap.size w w1 → NetAt w1 nb mb N n Ad cd l W f := fun w1 hb => h.below hb
  have c0 := h.c0
  have hb1 : Below w.heap.size w (w.alloc (.cells #[.int .i64 (u : Int), .int .i64 (d : Int)] 66)) := (Below.refl _ _).alloc (Nat.le_refl _) _
  have hat : RowAt (w.alloc (.cells #[.int .i64 (u : Int), .int .i64 (d : Int)] 66)) w.heap.size 66 [.int .i64 (u : Int), .int .i64 (d : Int)] := ⟨_, heap_alloc_new _ _, rfl⟩
  have hrk := reckon25 (.pointer (some ⟨w.heap.size, 0, none⟩)) (fun a b => !decide (a = (u : Int) ∧ b = (d : Int))) nb mb N Ad n cd l hlen hok W hW (w.alloc (.cells #[.int .i64 (u : Int), .int .i64 (d : Int)] 66)) w.heap.size (by simp) (by simp; omega) (hH _ hb1).c0 (hH _ hb1).c1 (h.doms.below hb1) (hH _ hb1).wants
    (fun w1 a b ha hb hbe => by
      have hat1 := hat.keep (hbe.block w.heap.size (by simp))
      exact vote1_any a b u d ha (by omega) hu (by omega) w.heap.size w1 hat1.lt (hat1.cell (k := 0) (by simp)) (hat1.cell (k := 1) (by simp)))
  obtain ⟨F0, hF0⟩ : ∃ F0, F0 = settle (dsOf l) (baseF W fun a b => !decide (a = (u : Int) ∧ b = (d : Int))) := ⟨_, rfl⟩
  obtain ⟨G, hG⟩ : ∃ G, G = lev (dsOf l) (updW W u d lv) := ⟨_, rfl⟩
  have hput := lev_put hok W (d := d) hu lv
  rw [← hF0, ← hG] at hput
  rw [← hF0] at hrk
  rw [← hG]
  have hF255 : ∀ i, F0 i ≤ 255 := fun i => by rw [hF0]; exact settle_bound (fun j => base_le fun a _ _ => hW.le a j) i
  have hse : ∀ w1, Below w.heap.size w w1 → Calls Try.prog 26 #[.pointer (some ⟨nb, 0, none⟩), .agg (arr (upd F0 d (max (F0 d) lv))).toArray] w1 fun e w' => e = .returned (.agg (arr G).toArray) ∧ Below w1.heap.size w1 w' := fun w1 hb => by
    have h5 := settled_any nb Ad n cd l hlen hok (upd F0 d (max (F0 d) lv)) (fun i => by
      by_cases e : i = d
      · rw [e, upd_same]; have := hF255 d; omega
      · rw [upd_other _ _ e]; exact hF255 i) w1 w.heap.size hb.size (Nat.lt_of_lt_of_le hnb hb.size) (hH _ hb).c0 (h.doms.below hb)
    rw [hput] at h5
    exact h5
  have HR := Lib.hid hrk
  have HSE := Lib.hid hse
  have HG := Lib.hid hG
  have HH := Lib.hid hH
  have HD := Lib.hid h
  have HAT := Lib.hid hat
  have HB1 := Lib.hid hb1
  have HOK := Lib.hid hok
  have HFW := Lib.hid hW
  have hF0d := hF255 d
  clear h hH hrk hat hb1 hok hW hput hF0 hG hse hF255
  have HLEN := Lib.hid hlen
  clear hlen
  have hi1 : (u : Int) < 1024 := by omega
  have hi2 : (d : Int) < (n : Int) := by omega
  have hi3 : (d : Int) < 256 := by omega
  generalize hzz : (arr fun _ => 0).toArray = Z at hz
  go_enter Try.func11, Try.ntmps11
  go_wp2_with (first
    | (go_at_call 24; refine HR.out.mono ?_; rintro e w2 ⟨rfl, hb2⟩
       have hth := (fill60 w2 hzz F0).1
       have hbw : Below w.heap.size w w2 := HB1.out.trans (hb2.mono HB1.out.size)
       have hat2 := HAT.out.keep (hb2.block _ HAT.out.lt)
       have HTH := Lib.hid hth
       have HBW := Lib.hid hbw
       have HAT2 := Lib.hid hat2
       clear hth hbw hat2 hb2)
    | (guard_target = wpList Try.prog _ _ ({ dst := none, op := Op.store 60 _ _, type := _, pos := _, after := _, guard := _ } :: _) _ _; refine wpList_store_mid rfl 60 (.tmp 11) (.tmp 42) rfl w2.heap.size 0 (arr F0).toArray rfl rfl HTH.out (size60' _) (arr_one _) ?_
       have r1 := (fill60 w2 hzz F0).2
       have hb5 := below_setCells (arr F0) 0 _ (HBW.out.alloc HBW.out.size (.cells Z 60)) HBW.out.size
       have hat5 : RowAt ((w2.alloc (.cells Z 60)).setCells w2.heap.size 0 (arr F0)) w.heap.size 66 [.int .i64 (u : Int), .int .i64 (d : Int)] := HAT2.out.keep ((setCells_heap _ _ _ _ (by have := HAT2.out.lt; omega)).trans (Below.heap_alloc _ _ _ HAT2.out.lt))
       have hlt5 : w2.heap.size < ((w2.alloc (.cells Z 60)).setCells w2.heap.size 0 (arr F0)).heap.size := r1.lt
       rw [show (arr F0).toArray.toList = arr F0 from rfl]
       generalize (w2.alloc (.cells Z 60)).setCells w2.heap.size 0 (arr F0) = w5 at r1 hb5 hat5 hlt5 ⊢
       have hg2 := HAT2.out.lt
       have hbs := HBW.out.size
       generalize w2.heap.size = g at r1 hlt5 hg2 hbs ⊢
       have c5 := (r1.cell (k := d) (by rw [arr_len]; exact hd256)).trans (arr_get F0 hd256)
       have f5 := r1.frozen d
       have r2 := raise60 r1 hd256 lv
       have hb6 : Below w.heap.size w (w5.setCell ⟨g, d, none⟩ (.int .u8 (if F0 d < lv then (lv : Int) else (F0 d : Int)))) := hb5.setCell (p := ⟨g, d, none⟩) hbs _
       have hat6 := hat5.keep (w' := w5.setCell ⟨g, d, none⟩ (.int .u8 (if F0 d < lv then (lv : Int) else (F0 d : Int)))) (Below.heap_setCell _ _ _ _ (show w.heap.size ≠ g by omega))
       have hs6 := HSE.out _ hb6
       have R2 := Lib.hid r2
       have HB6 := Lib.hid hb6
       have HAT6 := Lib.hid hat6
       have HS6 := Lib.hid hs6
       clear r1 hb5 hat5 r2 hb6 hat6 hs6 HTH HBW HAT2)
    | (guard_target = wpList Try.prog _ _ ({ dst := _, op := Op.load 60 (.tmp 11), type := _, pos := _, after := _, guard := _ } :: _) _ _; refine wpList_load_mid rfl 60 (.tmp 11) rfl g 0 rfl (arr (upd F0 d (max (F0 d) lv))) _ (row_range R2.out) Try.underlying60 rfl (size60 _) ?_)
    | (go_at_call 26; refine HS6.out.mono ?_; rintro e w6 ⟨rfl, hb7⟩
       have r6 := R2.out.keep (hb7.block _ R2.out.lt)
       have hat7 := HAT6.out.keep (hb7.block _ HAT6.out.lt)
       have hb8 := HB6.out.trans (hb7.mono HB6.out.size)
       have R6 := Lib.hid r6
       have HAT7 := Lib.hid hat7
       have HB8 := Lib.hid hb8
       clear r6 hat7 hb8 hb7 R2 HAT6 HB6 HS6)
    | (guard_target = wpList Try.prog _ _ ({ dst := none, op := Op.store 60 _ _, type := _, pos := _, after := _, guard := _ } :: _) _ _; refine wpList_store_mid rfl 60 (.tmp 11) (.tmp 52) rfl g 0 (arr G).toArray rfl rfl (refill60 R6.out G).1 (size60' _) (arr_one _) ?_
       have r1 := (refill60 R6.out G).2
       have hb9 := below_setCells (arr G) 0 _ HB8.out hbs
       have hat9 : RowAt (w6.setCells g 0 (arr G)) w.heap.size 66 [.int .i64 (u : Int), .int .i64 (d : Int)] := HAT7.out.keep (setCells_heap _ _ _ _ (by omega))
       rw [show (arr G).toArray.toList = arr G from rfl]
       generalize w6.setCells g 0 (arr G) = w7 at r1 hb9 hat9 ⊢
       have c7 := (HH.out _ hb9).c0
       have R7 := Lib.hid r1
       have HB9 := Lib.hid hb9
       have HAT9 := Lib.hid hat9
       clear r1 hb9 hat9 R6 HB8 HAT7 hlt5 c5 f5))
  all_goals
    go_loopw [58] (fun iv wr => ∃ k : Nat, k ≤ n ∧ iv = .int .i64 k ∧ (∀ i, i < k → ∀ h : i < (dsOf l).length, G i ≤ (dsOf l)[i].t) ∧ RowAt wr g 60 (arr G) ∧ RowAt wr w.heap.size 66 [.int .i64 (u : Int), .int .i64 (d : Int)] ∧ Below w.heap.size w wr) (fun iv _ => n - (intOf iv).toNat)
    case atStart => exact ⟨0, by omega, rfl, fun i hi => by omega, R7.out, HAT9.out, HB9.out⟩
    case round =>
      obtain ⟨k, hk, rfl, htop, hr7, hat9, hb9⟩ := hrel
      clear R7 HAT9 HB9 c7
      have R7 := Lib.hid hr7
      have HAT9 := Lib.hid hat9
      have HB9 := Lib.hid hb9
      have HTOP := Lib.hid htop
      clear hr7 hat9 hb9 htop
      by_cases hkn : k < n
      · have hkl : k < l.length := by rw [← HLEN.out]; exact hkn
        have hki : (k : Int) < (n : Int) := by omega
        have hk256 : k < 256 := by omega
        have hk2 : (k : Int) < 256 := by omega
        obtain ⟨b, off, rfl, hbB, x0, x1, _⟩ := (HD.out.doms.below HB9.out).at_ hkl
        have c1 := (R7.out.cell (k := k) (by rw [arr_len]; exact hk256)).trans (arr_get G hk256)
        have c1' := (World.cell?_alloc_lt wr (.cells #[.slice l[k].A l[k].d.u.length l[k].c, .int .u8 (l[k].d.t : Int)] 57) ⟨g, k, none⟩ R7.out.lt).trans c1
        have hdt : (dsOf l)[k]'(by rw [ds_len]; exact hkl) = l[k].d := ds_get l hkl
        obtain ⟨t, ht⟩ : ∃ t, t = l[k].d.t := ⟨_, rfl⟩
        obtain ⟨q, hq⟩ : ∃ q, q = G k := ⟨_, rfl⟩
        have HQ := Lib.hid hq
        rw [← ht] at x1 c1'
        rw [← hq] at c1 c1'
        have hkt : (dsOf l)[k]'(by rw [ds_len]; exact hkl) = l[k].d ∧ l[k].d.t = t := ⟨hdt, ht.symm⟩
        have HKT := Lib.hid hkt
        clear ht hq hkt hdt
        generalize l[k].d.u.length = m1 at x0 c1'
        generalize l[k].A = a1 at x0 c1'
        generalize l[k].c = c1 at x0 c1'
        by_cases hqt : t < q
        · have hqi : (t : Int) < (q : Int) := by omega
          go_wp2_with fail
          go_region
          go_wp2_with fail
          go_ret2
          refine .inl ⟨fun hx => ?_, by rfl, (HB9.out.alloc HB9.out.size _).drew⟩
          have h1 := hx k (by rw [ds_len]; exact hkl)
          rw [HKT.out.1, HKT.out.2, ← HQ.out] at h1
          omega
        · have hqi : ¬ (t : Int) < (q : Int) := by omega
          go_wp2_with fail
          go_region
          go_wp2_with fail
          refine ⟨⟨k + 1, by omega, by go_num, fun i hi hil => ?_, (R7.out.keep (Below.heap_alloc _ _ _ R7.out.lt)).keep rfl, (HAT9.out.keep (Below.heap_alloc _ _ _ HAT9.out.lt)).keep rfl, (HB9.out.alloc HB9.out.size _).drew⟩, by simp [intOf]; omega⟩
          rcases (show i < k ∨ i = k by omega) with h2 | rfl
          · exact HTOP.out i h2 hil
          · rw [HKT.out.1, HKT.out.2, ← HQ.out]; omega
      · obtain rfl : k = n := by omega
        have hto : TopOk (dsOf l) G := fun i hi => HTOP.out i (by rw [ds_len, ← HLEN.out] at hi; exact hi) hi
        have HTO := Lib.hid hto
        have hnet := HH.out _ HB9.out
        have c1 := hnet.c1
        have t0 := HAT9.out.cell (k := 0) (by simp)
        have t1 := HAT9.out.cell (k := 1) (by simp)
        simp only [List.getElem?_cons_succ, List.getElem?_cons_zero] at t0 t1
        have HN := Lib.hid hnet
        clear hto hnet
        have hlow := HD.out.low
        by_cases hl0 : lv = 0
        · subst hl0
          go_wp2_with fail
          refine still_tail 6 (by kernel_rfl) (by kernel_rfl) ?_
          simp only [List.take_succ_cons, List.take_zero, List.drop_succ_cons, List.drop_zero]
          repeat still_step
          try refine wpStill_nil ?_
          go_wp2_with (at_mapUpdate; refine wpList_put rfl (.tmp 73) (.tmp 74) (.tmp 75) rfl (W := W) (n := k) (N := N) (mb := mb) HN.out.wants hu hd hn256 hN 0 hlv rfl rfl rfl ?_; intro w8 hw8 hg8'
                       have hg8 := undrew hg8'
                       have c1' := (HN.out.wanted hg8 hw8).c1
                       have t0' := (World.cell?_of_block (hg8.block w.heap.size HAT9.out.lt (by have := HD.out.lt; simp; omega))).trans t0
                       have t1' := (World.cell?_of_block (hg8.block w.heap.size HAT9.out.lt (by have := HD.out.lt; simp; omega))).trans t1
                       have HW8 := Lib.hid hw8
                       clear hw8 hg8')
          refine still_tail 5 (by kernel_rfl) (by kernel_rfl) ?_
          simp only [List.take_succ_cons, List.take_zero, List.drop_succ_cons, List.drop_zero]
          repeat still_step
          try refine wpStill_nil ?_
          go_wp2_with (first
            | (at_delete; refine wpList_del rfl (.tmp 81) (.tmp 82) rfl (W := updW W u d 0) (n := k) (N := N + 1) (mb := mb) HW8.out hu hd256 rfl rfl ?_; intro w9 hw9' hg9'
               have hw9 : WantsAt w9 mb (N + 1) k (updW W u d 0) := by rw [updW_twice] at hw9'; exact hw9'
               have hg9 : wr.grownBy w9 (some mb) := World.grownBy.trans hg8 (undrew hg9')
               have hnet8 : NetAt w9 nb mb (N + 1) k Ad cd l (updW W u d 0) f := HN.out.wanted hg9 hw9
               have r8 := R7.out.keep (hg9.block g R7.out.lt (by have := HD.out.lt; simp; omega))
               have hfr8 : Frame (fun j => j = nb ∨ j = mb) w w9 := (Frame.mono (S := fun _ => False) ⟨HB9.out.os, HB9.out.tape, HB9.out.output, HB9.out.size, fun j hj _ => HB9.out.block j hj⟩ (fun _ _ x => x.elim)).grown hg9 (fun j e _ => by injection e with e; exact .inr e.symm)
               have htn := turn_any hnet8 hn256 G
               have hsz9 := hfr8.size
               have R8 := Lib.hid r8
               have HFR8 := Lib.hid hfr8
               have HTN := Lib.hid htn
               clear hnet8 r8 hfr8 htn hw9 hg9 hw9' hg9' hg8 c1' t0' t1' t0 t1 c1)
            | (guard_target = wpList Try.prog _ _ ({ dst := _, op := Op.load 60 (.tmp 11), type := _, pos := _, after := _, guard := _ } :: _) _ _; refine wpList_load_mid rfl 60 (.tmp 11) rfl g 0 rfl (arr G) _ (row_range R8.out) Try.underlying60 rfl (size60 _) ?_)
            | (go_at_call 27; refine HTN.out.mono ?_; rintro e w10 ⟨A, c, rfl, ho, hn10, hf10⟩; have HO10 := Lib.hid ho; have HN10 := Lib.hid hn10; have HF10 := Lib.hid hf10; clear ho hn10 hf10))
          go_ret2
          exact .inr ⟨HTO.out, A, c, by rfl, own_base HO10.out hsz9, HN10.out, HFR8.out.next HF10.out (fun i _ h => .inl h)⟩
        · have hl1 : ¬ (lv : Int) = 0 := by omega
          go_wp2_with fail
          refine still_tail 6 (by kernel_rfl) (by kernel_rfl) ?_
          simp only [List.take_succ_cons, List.take_zero, List.drop_succ_cons, List.drop_zero]
          repeat still_step
          try refine wpStill_nil ?_
          go_wp2_with (first
            | (at_mapUpdate; refine wpList_put rfl (.tmp 73) (.tmp 74) (.tmp 75) rfl (W := W) (n := k) (N := N) (mb := mb) HN.out.wants hu hd hn256 hN lv hlv rfl rfl rfl ?_; intro w9 hw9 hg9'
               have hg9 := undrew hg9'
               have hnet8 : NetAt w9 nb mb (N + 1) k Ad cd l (updW W u d lv) f := HN.out.wanted hg9 hw9
               have r8 := R7.out.keep (hg9.block g R7.out.lt (by have := HD.out.lt; simp; omega))
               have hfr8 : Frame (fun j => j = nb ∨ j = mb) w w9 := (Frame.mono (S := fun _ => False) ⟨HB9.out.os, HB9.out.tape, HB9.out.output, HB9.out.size, fun j hj _ => HB9.out.block j hj⟩ (fun _ _ x => x.elim)).grown hg9 (fun j e _ => by injection e with e; exact .inr e.symm)
               have htn := turn_any hnet8 hn256 G
               have hsz9 := hfr8.size
               have R8 := Lib.hid r8
               have HFR8 := Lib.hid hfr8
               have HTN := Lib.hid htn
               clear hnet8 r8 hfr8 htn hw9 hg9 hg9' t0 t1 c1)
            | (guard_target = wpList Try.prog _ _ ({ dst := _, op := Op.load 60 (.tmp 11), type := _, pos := _, after := _, guard := _ } :: _) _ _; refine wpList_load_mid rfl 60 (.tmp 11) rfl g 0 rfl (arr G) _ (row_range R8.out) Try.underlying60 rfl (size60 _) ?_)
            | (go_at_call 27; refine HTN.out.mono ?_; rintro e w10 ⟨A, c, rfl, ho, hn10, hf10⟩; have HO10 := Lib.hid ho; have HN10 := Lib.hid hn10; have HF10 := Lib.hid hf10; clear ho hn10 hf10))
          go_ret2
          exact .inr ⟨HTO.out, A, c, by rfl, own_base HO10.out hsz9, HN10.out, HFR8.out.next HF10.out (fun i _ h => .inl h)⟩
end Go.Proofs.Ytghcemfffhjmjaa
