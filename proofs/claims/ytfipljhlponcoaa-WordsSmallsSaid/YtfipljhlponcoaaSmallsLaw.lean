/- For every input the statement WordsSmalls holds: the call returns true and leaves its arguments as they were. No condition. -/
import Derived.Test.YtfipljhlponcoaaSmalls
import Derived.ProofKit
import Derived.OpenShut
import Derived.ShutString
import Derived.ChangeOld
import Derived.SizedLaws
set_option linter.unusedVariables false
namespace Go.Proofs.Ytfipljhlponcoaa.wordsSmalls
open Go.ChangeShapes Go.WideShapes Go.ChangeAt Go.RowKit

theorem own : ownKnob Try.prog.godebug = none := by kernel_rfl
theorem laidOut : laidOutB Try.prog = true := by kernel_rfl
theorem Try.bytes24 : Try.prog.bytesOf 24 = 1 := by kernel_rfl
theorem bounds_i8 {x : Int} (h : (Lit.int .i8 x).wf = true) : -128 ≤ x ∧ x ≤ 127 := by
  simp [Lit.wf, IntKind.min, IntKind.max, IntKind.signed, IntKind.bits] at h; omega
theorem bounds_i16 {x : Int} (h : (Lit.int .i16 x).wf = true) : -32768 ≤ x ∧ x ≤ 32767 := by
  simp [Lit.wf, IntKind.min, IntKind.max, IntKind.signed, IntKind.bits] at h; omega
theorem bounds_i64 {x : Int} (h : (Lit.int .i64 x).wf = true) : -9223372036854775808 ≤ x ∧ x ≤ 9223372036854775807 := by
  simp [Lit.wf, IntKind.min, IntKind.max, IntKind.signed, IntKind.bits] at h; omega
theorem Try.info24 : (Try.prog.info? 24).map (fun i => (i.zero, i.size, i.bytes)) = some (some (.int .i8 0), 1, 1) := by kernel_rfl
set_option maxRecDepth 100000 in
set_option maxHeartbeats 1000000 in
theorem smalls_walk (n : Int) (a b : Int) (A : Option Addr) (m cap : Nat) (zs : List Int) (w : World) (n1 : -9223372036854775808 ≤ n) (n2 : n ≤ 9223372036854775807)
   (a1 : -32768 ≤ a) (a2 : a ≤ 32767) (b1 : -32768 ≤ b) (b2 : b ≤ 32767) (hs : Seg w w.heap.size A (i8s zs)) (h8 : In8 zs) (hm : m = zs.length) (hl : m ≤ 140737488351232) :
    Calls Try.prog 3 #[.int .i64 n, .int .i16 a, .int .i16 b, .slice A m cap] w fun e w' => e = .returned (.bool true) ∧ Below w.heap.size w w' := by
  obtain ⟨i0, hi, hz0, hz1, hz2⟩ := info_parts Try.info24
  have Hm := Lib.hid hm
  clear hm
  have hown0 : (w.alloc (.cells #[] 24)).ownsRow w.heap.size 24 1 (.slice (some ⟨w.heap.size, 0, none⟩) 0 0) 0 [] := World.ownsRow_lit w #[] 0 (Nat.le_refl _) (by unfold maxLen; omega) rfl
  have hs0 := hs.alloc (Nat.le_refl _) (.cells #[] 24)
  have hb0 := (Below.refl w.heap.size w).alloc (Nat.le_refl _) (.cells #[] 24)
  go_enter Try.func3, Try.ntmps3
  go_wp2_with (at_builtin; refine wpList_append_seg _ rfl (.tmp 19) (.tmp 20) 23 rfl w.heap.size 24 i0 (.int .i8 0) 1 1 Try.underlying23 hi hz0 hz1 hz2 rfl (by decide) _ 0 [] rfl hown0 w.heap.size A m cap (i8s zs) rfl ?c1 hs0 ?c2 ?c3 ?c4 ?c5 ?_)
  case c1 => rw [i8s_length, ← Hm.out]; omega
  case c2 => exact i8s_one zs
  case c3 => unfold maxLen; omega
  case c4 => omega
  case c5 => simp
  intro v1 w1 hown1 hg1 hnil1
  have hb1 : Below w.heap.size w w1 := hb0.grown hg1 (by simp) (by simp [Value.ownBlock])
  have hs1 := hs.below hb1
  obtain ⟨A1, c1, rfl⟩ := own_shape hown1
  have hq1 := own_seg hown1
  clear hown0 hs0 hb0 hg1 hnil1
  go_wp2_with (first
    | (go_at_call 6; refine (pmean_any _ _ _ _ Hm.out _ _ hq1 h8 hl).mono ?_; rintro e w' ⟨rfl, rfl⟩)
    | (go_at_call 7; refine (rmean_any _ _ _ _ Hm.out _ _ hs1 h8 hl).mono ?_; rintro e w' ⟨rfl, rfl⟩)
    | (go_at_call 8; refine (pstep_any _ _ _ a1 a2 b1 b2).mono ?_; rintro e w' ⟨rfl, rfl⟩)
    | (go_at_call 9; refine (rstep_any _ _ _ a1 a2 b1 b2).mono ?_; rintro e w' ⟨rfl, rfl⟩))
  go_loopw [18] (fun i wr => ∃ k : Nat, k ≤ m ∧ i = .int .i64 k ∧ wr.ownsRow w.heap.size 24 1 (.slice A1 m c1) m (i8s (turned zs k)) ∧ Below w.heap.size w wr) (fun i _ => m - (intOf i).toNat)
  case atStart => exact ⟨0, by omega, rfl, by rw [turned_zero]; exact hown1, hb1⟩
  case round =>
    obtain ⟨k, hk, rfl, hownr, hbr⟩ := hrel
    have hsr := hs.below hbr
    by_cases hlt : k < m
    · have hkz : k < zs.length := by rw [← Hm.out]; exact hlt
      obtain ⟨g, rfl, hg1, hg2⟩ := own_head hownr (by omega)
      obtain ⟨b', off, rfl, hB, hc⟩ := hsr.i8 hkz
      have hcr := hownr.cellAt k (by omega)
      rw [i8s_get _ _ (by rw [turned_length]; exact hkz), turned_get _ _ hkz] at hcr
      have hfz := hownr.frozenAt k
      have hsto : ∀ nq, _ := fun nq => World.ownsRow.stored (w := wr.drewN nq) hownr k (.int .i8 (half (zs[k]?.getD 0)))
      rw [turned_succ _ _ hkz] at hsto
      have Hs := Lib.hid hsto
      have Hb := Lib.hid hbr
      obtain ⟨z1, z2⟩ := h8.get k
      have hki : (k : Int) < (m : Int) := by omega
      obtain ⟨z, hz⟩ : ∃ z, z = zs[k]?.getD 0 := ⟨_, rfl⟩
      rw [← hz] at hc hcr z1 z2 Hs
      clear hsto hown1 hownr hkz hbr hs1 hsr hq1 hb1 hz
      go_wp2_with fail
      go_quiet (fail)
      go_wp2
      go_roundw
      case rel => exact ⟨k + 1, by omega, by go_num, (Hs.out nq).1, (below_drewN Hb.out nq).setCell hg1 _⟩
      case measure => simp [intOf]; omega
    · obtain rfl : k = m := by omega
      rw [turned_all _ _ (by rw [← Hm.out]; omega)] at hownr
      have h8' := In8_half zs
      have Hm' : Hid (k = (zs.map half).length) := by rw [List.length_map]; exact Hm
      have hqr := own_seg hownr
      have hownw : (wr.alloc (.cells #[] 24)).ownsRow w.heap.size 24 1 (.slice (some ⟨wr.heap.size, 0, none⟩) 0 0) 0 [] := World.ownsRow_lit wr #[] 0 hbr.size (by unfold maxLen; omega) rfl
      have hqw := hqr.alloc (Nat.le_refl _) (.cells #[] 24)
      have hbw := hbr.alloc hbr.size (.cells #[] 24)
      go_wp2_with (first
        | (go_at_call 6; refine (pmean_any _ _ _ _ Hm'.out _ _ hqr h8' hl).mono ?_; rintro e w' ⟨rfl, rfl⟩)
        | (at_builtin; refine wpList_append_seg _ rfl (.tmp 92) (.tmp 93) 23 rfl w.heap.size 24 i0 (.int .i8 0) 1 1 Try.underlying23 hi hz0 hz1 hz2 rfl (by decide) _ 0 [] rfl hownw wr.heap.size A1 k c1 (i8s (zs.map half)) rfl ?d1 hqw ?d2 ?d3 ?d4 ?d5 ?_))
      case d1 => rw [i8s_length, ← Hm'.out]; omega
      case d2 => exact i8s_one _
      case d3 => unfold maxLen; omega
      case d4 => omega
      case d5 => simp; have := hbr.size; omega
      intro v2 w2 hown2 hg2 _
      have hb2 : Below w.heap.size w w2 := hbw.grown hg2 (by simp; have := hbr.size; omega) (by simp [Value.ownBlock]; exact hbr.size)
      obtain ⟨A2, c2, rfl⟩ := own_shape hown2
      have hq2 := own_seg hown2
      clear hownw hqw hbw hg2 hown2 hownr hqr
      go_wp2_with (first
        | (go_at_call 7; refine (rmean_any _ _ _ _ Hm'.out _ _ hq2 h8' hl).mono ?_; rintro e w' ⟨rfl, rfl⟩)
        | (go_at_call 10; refine (pwrap8_any n _).mono ?_; rintro e w' ⟨rfl, rfl⟩)
        | (go_at_call 11; refine (rwrap8_any n _ n1 n2).mono ?_; rintro e w' ⟨rfl, rfl⟩)
        | (go_at_call 12; refine (psat8_any n _ n1 n2).mono ?_; rintro e w' ⟨rfl, rfl⟩)
        | (go_at_call 13; refine (rsat8_any n _ n1 n2).mono ?_; rintro e w' ⟨rfl, rfl⟩)
        | (go_at_call 14; refine (pwrap16_any n _).mono ?_; rintro e w' ⟨rfl, rfl⟩)
        | (go_at_call 15; refine (rwrap16_any n _ n1 n2).mono ?_; rintro e w' ⟨rfl, rfl⟩)
        | (go_at_call 16; refine (psat16_any n _ n1 n2).mono ?_; rintro e w' ⟨rfl, rfl⟩)
        | (go_at_call 17; refine (rsat16_any n _ n1 n2).mono ?_; rintro e w' ⟨rfl, rfl⟩))
      go_ret
      exact ⟨rfl, hb2⟩
set_option maxRecDepth 100000 in
theorem lifted (os : Os) (started : os.Started) (H : Type) (enc : TypeId × Value → H) :
    ReturnsInHanded {} Try.checked os 3 .any (Rows.wordsSmallsSpec.pre6 enc Try.prog Try.f3 Rows.wordsSmallsRow.domain false) (Rows.wordsSmallsSpec.post enc Try.prog Try.f3 false true false false) := by
  refine returnsInHanded_of_change_sized (C := Try.checked) own started (by kernel_rfl) Try.func3
    (ChangeSpec.witness6 (enc := enc) (C := Try.checked) false ⟨#[], #[.int .i64 0, .int .i16 0, .int .i16 0, .slice none 0 0], []⟩ 8 (by kernel_rfl) (by kernel_rfl) (by kernel_rfl) (by kernel_rfl)) ?_
  intro W base args ds gs before hval0 hW hcnd hsz0 _
  have hsz : (DataW.weightsEach Try.prog (Try.f3.params.toList ++ Rows.wordsSmallsSpec.plain.varTypes Try.prog) (ds ++ gs)).all (· ≤ reachBytes) = true := hsz0
  clear hsz0
  have hval : ∀ (j : Nat) t v, Try.f3.params[j]? = some t → args[j]? = some v → Value.okWide Try.prog W .any base t v := hval0
  have hW' := hW
  obtain ⟨p, q, hA0, hV, rfl, hfz, hnd⟩ := hW
  have hA : DataW.TrodAll enc Try.prog W 0 (fun _ => true) true Try.f3.params.toList args.toList ds p := hA0
  rw [Try.params3] at hA hval hsz
  obtain ⟨v0, vs0, d0, ds0, p0, q0, hargs, rfl, rfl, h0, r0⟩ := trodAll_cons hA
  obtain ⟨v1, vs1, d1, ds1, p1, q1, rfl, rfl, rfl, h1, r1⟩ := trodAll_cons r0
  obtain ⟨v2, vs2, d2, ds2, p2, q2, rfl, rfl, rfl, h2, r2⟩ := trodAll_cons r1
  obtain ⟨v3, vs3, d3, ds3, p3, q3, rfl, rfl, rfl, h3, r3⟩ := trodAll_cons r2
  obtain ⟨rfl, rfl, rfl⟩ := trodAll_nil r3
  obtain rfl : args = #[v0, v1, v2, v3] := by cases args; simp_all
  obtain ⟨rfl, rfl⟩ := trodVars_none hV
  obtain ⟨a0, rfl, rfl, rfl, w0⟩ := open_int Try.underlying2 (hval 0 2 v0 rfl rfl) h0
  obtain ⟨a1, rfl, rfl, rfl, w1⟩ := open_int Try.underlying22 (hval 1 22 v1 rfl rfl) h1
  obtain ⟨a2, rfl, rfl, rfl, w2⟩ := open_int Try.underlying22 (hval 2 22 v2 rfl rfl) h2
  obtain ⟨a3, len3, cap3, rfl⟩ := okWide_slice Try.underlying23 (hval 3 23 v3 rfl rfl)
  have k3 := h3
  have lt3 : ∀ x ∈ p3, x.block < W.heap.size := by obtain ⟨m, hm⟩ := k3; exact DataW.trod_lt m _ _ _ hm
  obtain ⟨z3, w3, hcap⟩ : ∃ zs, IsRow .i8 W a3 len3 cap3 zs ∧ len3 ≤ 140737488351232 := by
    obtain ⟨fuel, hf⟩ := h3
    rcases open_ints Try.underlying23 Try.underlying24 (by kernel_rfl) hf with ⟨hcs, _⟩ | ⟨x, l, c, zs, hcs, _, hl, hm, hz, hx, hcell, hwz⟩
    · simp [Value.cells] at hcs
      obtain ⟨rfl, rfl, rfl⟩ := hcs
      exact ⟨[], .inl ⟨rfl, rfl, rfl, rfl⟩, by omega⟩
    · simp [Value.cells] at hcs
      obtain ⟨rfl, rfl, rfl⟩ := hcs
      simp only [Prod.mk.injEq] at hx
      obtain ⟨rfl, rfl⟩ := hx
      refine ⟨zs, .inr ⟨_, rfl, hl, hm, by simpa using hz, hcell, hwz⟩, ?_⟩
      have := sized_slice hsz (j := 3) (t := 23) (e := 24) rfl rfl Try.underlying23
      rw [Try.bytes24] at this
      simp only [if_true] at hz
      simp only [lits, List.length_map, List.length_take, List.length_drop, reachBytes] at this
      omega
  clear hA0 hval0
  obtain ⟨s1, s2, s3⟩ := w3.seg
  have b0 := bounds_i64 w0
  have b1 := bounds_i16 w1
  have b2 := bounds_i16 w2
  refine (smalls_walk a0 a1 a2 a3 len3 cap3 (z3.take len3) W b0.1 b0.2 b1.1 b1.2 b2.1 b2.2 s1 (fun z hz => bounds_i8 (s3 z hz)) s2.symm hcap).mono fun e W' ⟨he, bel⟩ => ?_
  subst he
  exact ⟨_, rfl, _, _, _, [], _, [], hW', trodAll_mk1 (shut_bool Try.underlying4 _), (trodAll_cons_mk (shut_int Try.underlying2 w0) (trodAll_cons_mk (shut_int Try.underlying22 w1) (trodAll_cons_mk (shut_int Try.underlying22 w2) (trodAll_cons_mk (Below.trod laidOut (by kernel_rfl) (of_decide_eq_true (by kernel_rfl)) k3 bel lt3) trodAll_mk0)))), rfl, bel.frame _, fun h => by cases h⟩

theorem over : Rows.wordsSmallsRow.holds Try.pinned (OpenSpec.ofChange Rows.wordsSmallsSpec) :=
  OpenClaim.holds_of_wide 3 Try.f3 rfl rfl rfl rfl rfl rfl rfl ⟨rfl, rfl, rfl, rfl, rfl⟩ rfl rfl rfl rfl rfl (by kernel_rfl) Try.func3 (by kernel_rfl)
    (of_decide_eq_true (by kernel_rfl)) (by unfold Func.isWrapper; first | (rw [if_pos (by decide +kernel)]; kernel_rfl) | (rw [if_neg (by decide +kernel)]; exact ⟨rfl, rfl⟩))
    (fun os started H enc _ => lifted os started H enc)

/-- ████ THE STATEMENT ████ -/
theorem proved : Rows.WordsSmallsSaid := over
#print axioms proved
end Go.Proofs.Ytfipljhlponcoaa.wordsSmalls
