/- slices.Grow and slices.Concat: the contracts. -/
import Derived.Test.YtmdnbajbfnhecaaGrLaw
import Derived.Lib.AppendZerosOnto
set_option linter.unusedVariables false
namespace Go.Proofs.Ytmdnbajbfnhecaa
open Go.RowKit
/-- append at the operation, its run laid ahead. -/
theorem wpList_append_run {P : Program} {w : World} {ops : Array Oper} {rest : List Oper} {o : Oper} {a : Act} {Q : Exit → Act → World → Prop} (hgd : o.guard = none) (s x : Operand) (t1 t2 : TypeId)
    (ho : o.op = .call { callee := .builtin .append, args := #[s, x], argTypes := #[t1, t2] }) (vs vx : Value) (hs : a.eval s = vs) (hx : a.eval x = vx) (v' : Value) (w' : World)
    (hrun : (Builtin.append_ #[t1, t2] o.type #[vs, vx]).run P w = .ok v' w') (h : wpList P ops Q rest (a.put o.dst v') w') : wpList P ops Q (o :: rest) a w := by
  refine wpList_plain hgd fun _ hK => ?_
  unfold Oper.wp execOp
  simp only [ho, resolve, invoke, builtin, Sem.run_bind, Sem.run_pure, Result.andThen_ok, List.map_toArray, List.map_cons, List.map_nil, hs, hx, hrun]
  exact hK _ _ h
set_option maxRecDepth 100000 in
theorem grow_any (N : Nat) (hN : N * 48 ≤ 140737488355328) (w : World) :
    Calls Try.prog 46 #[.slice none 0 0, .int .i64 N] w fun e w' => ∃ A c, e = .returned (.slice A 0 c) ∧ w'.ownsRow w.heap.size 30 3 (.slice A 0 c) 0 [] ∧ Below w.heap.size w w' := by
  obtain ⟨i0, fi, fz0, fz1, fz2⟩ := info_parts Try.info30
  by_cases h0 : N = 0
  · subst h0
    go_enter Try.func46, Try.ntmps46
    go_wp2
    go_ret
    exact ⟨none, 0, rfl, World.ownsRow_nil _ _ _ _, Below.refl _ _⟩
  · have hNi : (0 : Int) < (N : Int) := by omega
    have hrun := Go.Lib.run_append_grow_zeros (P := Try.prog) w 22 3 22 30 i0 _ .i64 .i64 Try.underlying22 Try.underlying3 fi fz0 none 0 0 [] (by simp [Builtin.firstCells]) N (by omega) (by rw [fz1]; omega) (by omega) (by omega) (by rw [fz2]; omega) (growslice_fits (by omega) (by rw [fz2]; omega))
    have hgrown : ∃ C W, (Builtin.append_ #[22, 3] 22 #[.slice none 0 0, .int .i64 (N : Int)]).run Try.prog w = .ok (.slice (some ⟨w.heap.size, 0, none⟩) N C) W ∧ W.ownsRow w.heap.size 30 3 (.slice (some ⟨w.heap.size, 0, none⟩) 0 C) 0 [] ∧ Below w.heap.size w W ∧ C ≤ maxLen := by
      refine ⟨_, _, by simpa using hrun, ⟨rfl, .inr ⟨w.heap.size, _, _, rfl, Nat.le_refl _, heap_alloc_new w.drew _, Nat.zero_le _, grownCap_le_maxLen _ _ _ _ (by unfold maxLen; omega), ?_, by simp⟩⟩, ((Below.refl _ w).drew).alloc (by exact Nat.le_refl _) _, grownCap_le_maxLen _ _ _ _ (by unfold maxLen; omega)⟩
      have hge := grownCap_ge w N 0 30
      simp only [Array.size_append, size_zeroCells]
      simp [Value.cells]
      omega
    obtain ⟨C, W, hr, hown, hb, hC⟩ := hgrown
    have HO := Lib.hid hown
    have HB := Lib.hid hb
    clear hrun hown hb fz0 fz1 fz2 fi
    go_enter Try.func46, Try.ntmps46
    have HR := Lib.hid hr
    clear hr
    go_wp2_with (first
      | (at_builtin; refine wpList_append_run rfl (.tmp 20) (.tmp 21) 22 3 rfl _ _ rfl rfl _ _ HR.out ?_))
    go_ret
    exact ⟨_, _, rfl, HO.out, HB.out⟩
/-- A list of nodes somewhere in memory. -/
structure Part where
  A : Option Addr
  c : Nat
  l : List Nm
def Part.val (p : Part) : Value := .slice p.A p.l.length p.c
def cat (ps : List Part) : List Nm := ps.flatMap (·.l)
theorem cat_take {ps : List Part} {k : Nat} (h : k < ps.length) : cat (ps.take (k + 1)) = cat (ps.take k) ++ ps[k].l := by
  unfold cat
  rw [List.take_succ_eq_append_getElem h, List.flatMap_append]
  simp
theorem cat_le {ps : List Part} (k : Nat) : (cat (ps.take k)).length ≤ (cat ps).length := by
  have : cat ps = cat (ps.take k) ++ cat (ps.drop k) := by
    unfold cat
    rw [← List.flatMap_append, List.take_append_drop]
  rw [this]
  simp
set_option maxRecDepth 100000 in
set_option maxHeartbeats 2000000 in
theorem concat_any (A : Option Addr) (cap m : Nat) (ps : List Part) (hm : m = ps.length) (hm3 : m ≤ 1000) (N : Nat) (hN : N = (cat ps).length) (hN48 : N * 48 ≤ 140737488355328) (w : World) (B : Nat) (hB : B ≤ w.heap.size)
    (hs : Seg w B A (ps.map Part.val)) (hp : ∀ p ∈ ps, Seg w B p.A (nmCells p.l)) :
    Calls Try.prog 29 #[.slice A m cap] w fun e w' => ∃ A' c', e = .returned (.slice A' N c') ∧ w'.ownsRow w.heap.size 30 3 (.slice A' N c') N (nmCells (cat ps)) ∧ Below w.heap.size w w' := by
  have hgr := grow_any N hN48 w
  obtain ⟨i0, fi, fz0, fz1, fz2⟩ := info_parts Try.info30
  have HG := Lib.hid hgr
  have HM := Lib.hid hm
  have HN := Lib.hid hN
  have HS := Lib.hid hs
  have HP := Lib.hid hp
  clear hgr hm hN hs hp
  go_enter Try.func29, Try.ntmps29
  go_wp2
  go_loopw [11, 3] (fun kv sv wr => ∃ k t : Nat, k ≤ m ∧ kv = .int .i64 k ∧ sv = .int .i64 t ∧ t = (cat (ps.take k)).length ∧ wr = w) (fun kv _ _ => m - (intOf kv).toNat)
  case atStart => exact ⟨0, 0, by omega, rfl, rfl, rfl, rfl⟩
  case round =>
    obtain ⟨k, t, hk, rfl, rfl, ht, rfl⟩ := hrel
    have HT := Lib.hid ht
    clear ht
    by_cases hkm : k < m
    · have hkp : k < ps.length := by rw [← HM.out]; exact hkm
      have hki : (k : Int) < (m : Int) := by omega
      obtain ⟨b, off, rfl, _, hc⟩ := HS.out (by intro e; have := congrArg List.length e; simp at this; subst this; simp at hkp)
      have x0 := hc k ps[k].val (by simp [hkp])
      have hct := cat_take hkp
      have hle := cat_le (ps := ps) (k + 1)
      rw [hct, List.length_append, ← HT.out, ← HN.out] at hle
      have hlen : t + ps[k].l.length = (cat (ps.take (k + 1))).length := by rw [hct, List.length_append, ← HT.out]
      unfold Part.val at x0
      obtain ⟨q, hq⟩ : ∃ q, q = ps[k].l.length := ⟨_, rfl⟩
      rw [← hq] at x0 hle hlen
      have HL := Lib.hid hlen
      clear hq hct hc hlen
      have hb1 : t + q ≤ 2932031007403 := by omega
      have hneg : decide ((t : Int) + (q : Int) < 0) = false := by simp; omega
      go_wp2
      exact ⟨⟨k + 1, t + q, by omega, by go_num, by go_num, HL.out, by first | rfl | trivial⟩, by simp [intOf]; omega⟩
    · obtain rfl : k = m := by omega
      have htN : t = N := by rw [HT.out, HN.out, List.take_of_length_le (by rw [← HM.out]; exact Nat.le_refl _)]
      subst htN
      clear HT
      go_wp2_with (first
        | (go_at_call 46; refine HG.out.mono ?_; rintro e w1 ⟨A1, c1, rfl, ho1, hb1⟩; have HO1 := Lib.hid ho1; have HB1 := Lib.hid hb1; clear ho1 hb1))
      clear HG
      obtain ⟨wz, hwz⟩ : ∃ wz, wz = wr := ⟨_, rfl⟩
      subst hwz
      go_loopw [27, 6] (fun kv sv wr => ∃ (j u : Nat) (Ao : Option Addr) (co : Nat), j ≤ k ∧ kv = .int .i64 j ∧ sv = .slice Ao u co ∧ u = (cat (ps.take j)).length ∧ wr.ownsRow wz.heap.size 30 3 (.slice Ao u co) u (nmCells (cat (ps.take j))) ∧ Below wz.heap.size wz wr) (fun kv _ _ => k - (intOf kv).toNat)
      case atStart => exact ⟨0, 0, A1, c1, by omega, rfl, rfl, rfl, HO1.out, HB1.out⟩
      case round =>
        obtain ⟨j, u, Ao, co, hj, rfl, rfl, hu, ho, hb⟩ := hrel
        have HU := Lib.hid hu
        have HO := Lib.hid ho
        have HB := Lib.hid hb
        clear HO1 HB1 hu ho
        by_cases hjk : j < k
        · have hjp : j < ps.length := by rw [← HM.out]; exact hjk
          have hji : (j : Int) < (k : Int) := by omega
          have hsw := HS.out.below (HB.out.mono hB)
          obtain ⟨b, off, rfl, _, hc⟩ := hsw (by intro e; have := congrArg List.length e; simp at this; subst this; simp at hjp)
          have x0 := hc j ps[j].val (by simp [hjp])
          have hct := cat_take hjp
          have hle := cat_le (ps := ps) (j + 1)
          rw [hct, List.length_append, ← HU.out, ← HN.out] at hle
          have hlen : u + ps[j].l.length = (cat (ps.take (j + 1))).length := by rw [hct, List.length_append, ← HU.out]
          have hsg := (HP.out ps[j] (List.getElem_mem hjp)).below (HB.out.mono hB)
          have hcells : nmCells (cat (ps.take (j + 1))) = nmCells (cat (ps.take j)) ++ nmCells ps[j].l := by rw [hct]; unfold nmCells; rw [List.flatMap_append]
          have hnl := nmCells_len ps[j].l
          have hone := one_nm ps[j].l
          unfold Part.val at x0
          generalize ps[j] = pj at *
          obtain ⟨Aj, cj, lj⟩ := pj
          simp only at x0 hle hlen hsg hcells hnl hone
          obtain ⟨q, hq⟩ : ∃ q, q = lj.length := ⟨_, rfl⟩
          rw [← hq] at x0 hle hlen hnl
          have HL := Lib.hid hlen
          have HSG := Lib.hid hsg
          have HC := Lib.hid hcells
          have HNL := Lib.hid hnl
          clear hq hct hc hlen hsg hcells hnl hsw hb
          go_wp2_with (first
            | (at_builtin; refine wpList_append_seg _ rfl (.tmp 31) (.tmp 32) 22 rfl wz.heap.size 30 i0 _ 3 48 Try.underlying22 fi fz0 fz1 fz2 rfl (by decide) _ u (nmCells (cat (ps.take j))) rfl HO.out B Aj q cj (nmCells lj) rfl HNL.out HSG.out hone ?_ ?_ ?_ ?_))
          · unfold maxLen; omega
          · omega
          · exact HB.out.size
          intro v3 w3 hown3 hg3 _
          obtain ⟨A3, c3, rfl⟩ := own_shape hown3
          rw [← HC.out] at hown3
          have hb3 := HB.out.grown hg3 HB.out.size (fun g hg => (HO.out.lt g hg).1)
          have HO3 := Lib.hid hown3
          have HB3 := Lib.hid hb3
          clear hown3 hb3 hg3 hone
          go_wp2_with fail
          exact ⟨⟨j + 1, u + q, A3, c3, by omega, by go_num, rfl, HL.out, HO3.out, HB3.out⟩, by simp [intOf]; omega⟩
        · obtain rfl : j = k := by omega
          have e1 : ps.take j = ps := List.take_of_length_le (by rw [← HM.out]; exact Nat.le_refl _)
          have hfin := HO.out
          have hu2 : u = t := by rw [HU.out, e1, ← HN.out]
          subst hu2
          rw [e1] at hfin
          have HF := Lib.hid hfin
          clear hfin e1
          go_wp2
          go_ret
          exact ⟨Ao, co, rfl, HF.out, HB.out⟩
end Go.Proofs.Ytmdnbajbfnhecaa
