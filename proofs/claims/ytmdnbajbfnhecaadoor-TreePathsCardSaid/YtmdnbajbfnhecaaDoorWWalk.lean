/- The program's Walk: what it makes. -/
import Derived.Test.YtmdnbajbfnhecaaDoorAP
import Derived.Test.YtmdnbajbfnhecaaDoorHeldF
import Derived.Test.YtmdnbajbfnhecaaDoorPush2
import Derived.Test.YtmdnbajbfnhecaaDoorPCheck
import Derived.Deep.DeepCutAuto
set_option linter.unusedVariables false
namespace Go.Proofs.YtmdnbajbfnhecaaDoor
open Go.RowKit
/-- append in a drawn region. -/
theorem step_pushW {P : Program} {w : World} {ops : Array Oper} {o : Oper} {a : Act} {K : Act → World → Prop} {Q : Exit → Act → World → Prop} {E : Prop} (hgd : o.guard = none) (s x : Operand) (t : TypeId)
    (ho : o.op = .call { callee := .builtin .append, args := #[s, x], argTypes := #[t, t] })
    (base : Nat) (e : TypeId) (i : TypeInfo) (z : Value) (size bytes : Nat) (ht : P.underlying t = some (.slice e)) (hi : P.info? e = some i) (hz : i.zero = some z)
    (hsize : i.size = size) (hby : i.bytes = bytes) (hzs : z.cells.size = size) (hsz : 0 < size)
    (v : Value) (n : Nat) (xs : List Value) (hs : a.eval s = v) (hown : w.ownsRow base e size v n xs)
    (b : Nat) (m c : Nat) (news : List Value) (hx : a.eval x = .slice (some ⟨b, 0, none⟩) m c) (hl : news.length = m * size) (hr : RowAt w b e news) (h1 : ∀ u ∈ news, u.oneCell' = true)
    (h63 : n + m ≤ maxLen) (hbytes : (n + m) * bytes ≤ 140737488355328) (hbase : base ≤ w.heap.size)
    (h : ∀ A' c' w', w'.ownsRow base e size (.slice A' (n + m) c') (n + m) (xs ++ news) → w.grownBy w' v.ownBlock → K (a.put o.dst (.slice A' (n + m) c')) w') :
    if Region.wanted o (yielded ops a.tmps) = true then Oper.wp P o a w K Q else E := by
  have hw : Region.wanted o (yielded ops a.tmps) = true := by simp [Region.wanted, hgd]
  rw [if_pos hw]
  have hnews : ∀ j u, news[j]? = some u → w.cell? ((⟨b, 0, none⟩ : Addr).add j) = some u := fun j u hu => by
    rw [addr_add, Nat.zero_add, hr.cell (List.getElem?_eq_some_iff.1 hu).1]
    exact hu
  obtain ⟨v', w', hrun, h2, h3, h4⟩ := run_append_own (P := P) w base t o.type e i z size bytes ht hi hz hsize hby hzs hsz v n xs hown ⟨b, 0, none⟩ m c news hl hnews h1 h63 hbytes hbase
  obtain ⟨A', c', rfl⟩ := own_shape h2
  unfold Oper.wp execOp
  simp only [ho, resolve, invoke, builtin, Sem.run_bind, Sem.run_pure, Result.andThen_ok, List.map_toArray, List.map_cons, List.map_nil, hs, hx, hrun]
  exact h A' c' w' h2 h3
/-- The paths of the first k nodes. -/
def pathsK (l : List Nd) (k : Nat) : List ByteArray := (List.range k).map fun i => pathB l i
theorem pathsK_len (l : List Nd) (k : Nat) : (pathsK l k).length = k := by simp [pathsK]
theorem pathsK_succ (l : List Nd) (k : Nat) : pathsK l (k + 1) = pathsK l k ++ [pathB l k] := by simp [pathsK, List.range_succ]
/-- What is gone through. -/
def walkL (l : List Nd) : List ByteArray := if (checkF l).2 = 0 then pathsK l l.length else []
theorem strV_snoc (xs : List ByteArray) (s : ByteArray) : strV (xs ++ [s]) = strV xs ++ [.string s] := by simp [strV]
/-- The paths as they lie: a slice in a block of its own. -/
structure PathsAt (w : World) (b base : Nat) (A : Option Addr) (m c : Nat) (ps : List ByteArray) : Prop where
  len : m = ps.length
  box : RowAt w b 71 [.slice A m c]
  row : w.ownsRow base 9 1 (.slice A m c) m (strV ps)
set_option maxRecDepth 100000 in
set_option maxHeartbeats 4000000 in
theorem walk_any (A : Option Addr) (cap n : Nat) (l : List Nm) (hn : n = l.length) (hsz : Sized l) (w : World) (B : Nat) (hB : B ≤ w.heap.size) (hs : Nodes w B A l) :
    Calls Tryd.prog 28 #[.slice A n cap] w fun e w' => ∃ (A' : Option Addr) (m c' : Nat), e = .returned (.func (.func 62) #[] #[.pointer (some ⟨w.heap.size, 0, none⟩)]) ∧ PathsAt w' w.heap.size (w.heap.size + 1) A' m c' (walkL (dat l)) ∧ Below w.heap.size w w' := by
  obtain ⟨i0, fi, fz0, fz1, fz2⟩ := info_parts info9
  have hba : Below w.heap.size w (w.alloc (.cells #[.slice none 0 0] 71)) := (Below.refl _ w).alloc (Nat.le_refl _) _
  have esz : (w.alloc (.cells #[.slice none 0 0] 71)).heap.size = w.heap.size + 1 := by simp
  have hq := pCheck_any A cap n l hn hsz (w.alloc (.cells #[.slice none 0 0] 71)) B (by rw [esz]; omega) (hs.below (hba.mono hB))
  have hx0 : RowAt (w.alloc (.cells #[.slice none 0 0] 71)) w.heap.size 71 [.slice none 0 0] := ⟨_, heap_alloc_new _ _, rfl⟩
  have hnn : n * 48 ≤ 140737488355328 := by rw [hn]; exact hsz.n
  have hfi : (checkF (dat l)).2 = 0 → Fine (dat l) (dat l).length ∧ 0 < (dat l).length ∧ (dat l).length ≤ 512 := check_fine
  have hwl : walkL (dat l) = if (checkF (dat l)).2 = 0 then pathsK (dat l) n else [] := by unfold walkL; rw [dat_len, ← hn]
  rw [hwl]
  clear hwl
  rw [esz] at hq
  have HS := Lib.hid hs
  have HN := Lib.hid hn
  have HBA := Lib.hid hba
  have HX0 := Lib.hid hx0
  clear hs hn hba hx0
  generalize checkF (dat l) = R at *
  obtain ⟨R1, R2⟩ := R
  simp only at hq hfi ⊢
  have HQ := Lib.hid hq
  clear hq
  by_cases h0 : R2 = 0
  · subst h0
    obtain ⟨hf1, hf2, hf3⟩ := hfi rfl
    have hn5 : n ≤ 512 := by rw [HN.out, ← dat_len]; exact hf3
    rw [if_pos rfl]
    have HF := Lib.hid hf1
    clear hfi hf1 hf2 hf3
    go_enter Tryd.func28, Tryd.ntmps28
    go_wp2_with (go_at_call 26
                 refine HQ.out.mono ?_
                 rintro e w1 ⟨rfl, hb1⟩
                 have hx1 := HX0.out.keep (hb1.block _ (by omega))
                 have HX1 := Lib.hid hx1
                 have HB1 := Lib.hid (HBA.out.trans (hb1.mono (by omega)))
                 have hw1 : w.heap.size + 1 ≤ w1.heap.size := by have := hx1.lt; omega
                 clear hb1 hx1)
    go_loopw [16] (fun iv wr => ∃ (k : Nat) (A1 : Option Addr) (c1 : Nat), k ≤ n ∧ iv = .int .i64 k ∧ RowAt wr w.heap.size 71 [.slice A1 k c1] ∧ wr.ownsRow (w.heap.size + 1) 9 1 (.slice A1 k c1) k (strV (pathsK (dat l) k)) ∧ Below w.heap.size w wr) (fun iv _ => n - (intOf iv).toNat)
    case atStart => exact ⟨0, none, 0, by omega, rfl, HX1.out, World.ownsRow_nil _ _ _ _, HB1.out⟩
    case round =>
      obtain ⟨k, A1, c1, hk, rfl, hrow, hown, hb⟩ := hrel
      have HR := Lib.hid hrow
      have HO := Lib.hid hown
      have HB := Lib.hid hb
      have hwr : w.heap.size < wr.heap.size := hrow.lt
      have z0 := hrow.cell (k := 0) (by simp)
      simp only [List.getElem?_cons_zero] at z0
      clear hrow hown hb
      by_cases hkn : k < n
      · have hki : (k : Int) < (n : Int) := by omega
        have hpa := ppath0_any A cap n l HN.out hn5 HF.out k hkn wr.drew B (Nat.le_trans hB HB.out.size) (((HS.out.below (HB.out.mono hB))).drewN 1)
        have HPA := Lib.hid hpa
        clear hpa
        go_upto_region 7 with (fail)
        refine wp_region_noPanic ?_
        refine wp_region_F (S := fun W => W.cell? ⟨w.heap.size, 0, none⟩ = some (.slice A1 k c1)) (f := 6) (by kernel_rfl) ?_
        have hHeld : wr.drew.cell? ⟨w.heap.size, 0, none⟩ = some (.slice A1 k c1) := z0
        (refine heldF_take (i := 0) rfl rfl (by kernel_rfl) (by kernel_rfl) (by kernel_rfl) (by kernel_rfl) rfl (by kernel_rfl) (fun _ _ _ h => h) (by rfl) (by intro w hSw; go_simp; first | done | with_reducible rfl) (by assumption) ?_; try simp only [Act.put, List.setIfInBounds_toArray, List.set_cons_zero, List.set_cons_succ])
        (refine heldF_take (i := 1) rfl rfl (by kernel_rfl) (by kernel_rfl) (by kernel_rfl) (by kernel_rfl) rfl (by kernel_rfl) (fun _ _ _ h => h) (by rfl) (by intro w hSw; go_simp; first | done | with_reducible rfl) (by assumption) ?_; try simp only [Act.put, List.setIfInBounds_toArray, List.set_cons_zero, List.set_cons_succ])
        (refine heldF_take (i := 2) rfl rfl (by kernel_rfl) (by kernel_rfl) (by kernel_rfl) (by kernel_rfl) rfl (by kernel_rfl) (fun _ _ _ h => h) (by rfl) (by intro w hSw; go_simp; first | done | with_reducible rfl) (by assumption) ?_; try simp only [Act.put, List.setIfInBounds_toArray, List.set_cons_zero, List.set_cons_succ])
        refine wpAnyF_ready (rs := [3]) (by kernel_rfl) (by simp) ?_
        refine AllReadyF.cons rfl (fun K hK => ?_) AllReadyF.nil
        go_simp
        refine HPA.out.mono ?_
        rintro e w2 ⟨rfl, hb2⟩
        have hb2' : Below wr.heap.size wr w2 := (Below.refl _ wr).drew.trans hb2
        have z2 := (hb2'.cell (p := ⟨w.heap.size, 0, none⟩) hwr).trans z0
        refine hK.out _ _ z2 (fun hHeld => ?_)
        clear hK K hHeld hb2
        try simp only [Act.put, List.setIfInBounds_toArray, List.set_cons_zero, List.set_cons_succ]
        refine wpAnyF_ready (rs := [4]) (by kernel_rfl) (by simp) ?_
        refine AllReadyF.cons rfl (fun K hK => ?_) AllReadyF.nil
        go_simp
        have hb3 : Below wr.heap.size wr (w2.alloc (.cells #[.string (pathB (dat l) k)] 9)) := hb2'.alloc hb2'.size _
        have z3 := (hb3.cell (p := ⟨w.heap.size, 0, none⟩) hwr).trans z0
        refine hK.out _ _ z3 (fun hHeld => ?_)
        clear hK K hHeld
        try simp only [Act.put, List.setIfInBounds_toArray, List.set_cons_zero, List.set_cons_succ]
        refine wpAnyF_ready (rs := [5]) (by kernel_rfl) (by simp) ?_
        refine AllReadyF.cons rfl (fun K hK => ?_) AllReadyF.nil
        have hbox : RowAt (w2.alloc (.cells #[.string (pathB (dat l) k)] 9)) w2.heap.size 9 [.string (pathB (dat l) k)] := ⟨_, heap_alloc_new _ _, rfl⟩
        have hw2 := hb2'.size
        refine step_pushW rfl (.tmp 19) (.tmp 23) 71 rfl (w.heap.size + 1) 9 i0 _ 1 16 Tryd.underlying71 fi fz0 fz1 fz2 rfl (by decide) (.slice A1 k c1) k (strV (pathsK (dat l) k)) rfl ((own_keep HO.out fun g _ hlt => hb2'.block g hlt).alloc _) w2.heap.size 1 1 [.string (pathB (dat l) k)] rfl rfl hbox (by intro u hu; simp at hu; subst hu; rfl) (by unfold maxLen; omega) (by omega) (by simp; omega) ?_
        intro A5 c5 w5 hown5 hg5
        have d0 : Below (w.heap.size + 1) wr w5 := (hb3.mono (by omega)).grown hg5 (by simp; omega) (fun g hg => (HO.out.lt g hg).1)
        refine hK.out _ _ ((d0.cell (p := ⟨w.heap.size, 0, none⟩) (by show w.heap.size < w.heap.size + 1; omega)).trans z0) (fun hHeld => ?_)
        clear hK K hHeld
        try simp only [Act.put, List.setIfInBounds_toArray]
        have hr5 := HR.out.keep (d0.block _ (by omega))
        have f5 := hr5.frozen 0
        have y5 := (d0.cell (p := ⟨w.heap.size, 0, none⟩) (by show w.heap.size < w.heap.size + 1; omega)).trans z0
        have hr6 := hr5.store 0 (.slice A5 (k + 1) c5)
        simp only [List.set_cons_zero] at hr6
        have ho6 : (w5.setCell ⟨w.heap.size, 0, none⟩ (.slice A5 (k + 1) c5)).ownsRow (w.heap.size + 1) 9 1 (.slice A5 (k + 1) c5) (k + 1) (strV (pathsK (dat l) (k + 1))) := by
          rw [pathsK_succ, strV_snoc]
          exact own_keep hown5 fun g hg _ => Below.heap_setCell _ _ _ _ (by have := (hown5.lt g hg).1; show g ≠ w.heap.size; omega)
        have hb6 : Below w.heap.size w (w5.setCell ⟨w.heap.size, 0, none⟩ (.slice A5 (k + 1) c5)) := (HB.out.trans (d0.mono (by omega))).setCell (Nat.le_refl _) _
        have R6 := Lib.hid hr6
        have O6 := Lib.hid ho6
        have B6 := Lib.hid hb6
        clear hr5 hr6 ho6 hb6 hown5 hg5 hbox hb2' hb3 d0 z0 z2 z3
        refine wpAnyF_ready (rs := [6]) (by kernel_rfl) (by simp) ?_
        refine AllReadyF.last rfl (fun K hK => ?_)
        go_simp
        refine hK.out _ _ ?_
        clear hK K
        try simp only [Act.put, List.setIfInBounds_toArray, List.set_cons_zero, List.set_cons_succ]
        refine wpAnyF_done (by kernel_rfl) ?_ _
        refine NoPanic.normal ?_
        clear f5 y5
        go_wp2_with fail
        exact ⟨⟨k + 1, A5, c5, by omega, by go_num, R6.out, O6.out, B6.out⟩, by simp [intOf]; omega⟩
      · obtain rfl : k = n := by omega
        go_wp2_with fail
        go_ret
        exact ⟨A1, k, c1, rfl, ⟨(pathsK_len _ _).symm, HR.out, HO.out⟩, HB.out⟩
  · rw [if_neg h0]
    have e0 : (R2 == 0) = false := by rw [beq_eq_false_iff_ne]; exact h0
    clear hfi
    go_enter Tryd.func28, Tryd.ntmps28
    go_wp2_with (go_at_call 26
                 refine HQ.out.mono ?_
                 rintro e w1 ⟨rfl, hb1⟩
                 have hx1 := HX0.out.keep (hb1.block _ (by omega))
                 have HX1 := Lib.hid hx1
                 have HB1 := Lib.hid (HBA.out.trans (hb1.mono (by omega)))
                 clear hb1 hx1)
    go_ret
    exact ⟨none, 0, 0, rfl, ⟨rfl, HX1.out, World.ownsRow_nil _ _ _ _⟩, HB1.out⟩
end Go.Proofs.YtmdnbajbfnhecaaDoor
