/- For every input the statement RangesBack holds: the call returns true and leaves its arguments as they were. No condition. -/
import Derived.Test.YtndocngkganpdaaBackW
import Derived.Test.YtndocngkganpdaaRgOpen
import Derived.Test.YtndocngkganpdaaRows
import Derived.Lib.SmallJoins
import Derived.ProofKit
import Derived.OpenShut
import Derived.ShutString
import Derived.ChangeOld
import Derived.SizedLaws
set_option linter.unusedVariables false
namespace Go.Proofs.Ytndocngkganpdaa.rangesBack
open Go.ChangeShapes Go.WideShapes Go.ChangeAt Go.RowKit
open Go.ChangeMaps (open_string shut_string)

theorem own : ownKnob Try.prog.godebug = none := by kernel_rfl
theorem laidOut : laidOutB Try.prog = true := by kernel_rfl
theorem Try.cells25 : Try.prog.cellsOf 25 = 4 := by kernel_rfl
set_option maxRecDepth 100000 in
theorem lifted (os : Os) (started : os.Started) (H : Type) (enc : TypeId × Value → H) :
    ReturnsInHanded {} Try.checked os 3 .any (Rows.rangesBackSpec.pre6 enc Try.prog Try.f3 Rows.rangesBackRow.domain false) (Rows.rangesBackSpec.post enc Try.prog Try.f3 false true false false) := by
  refine returnsInHanded_of_change_sized (C := Try.checked) own started (by kernel_rfl) Try.func3
    (ChangeSpec.witness6 (enc := enc) (C := Try.checked) false ⟨#[], #[.agg #[.slice none 0 0, .int .i64 0, .int .u64 0, .int .u64 0]], []⟩ 8 (by kernel_rfl) (by kernel_rfl) (by kernel_rfl) (by kernel_rfl)) ?_
  intro W base args ds gs before hval0 hW hcnd hsz0 _
  have hsz : (DataW.weightsEach Try.prog (Try.f3.params.toList ++ Rows.rangesBackSpec.plain.varTypes Try.prog) (ds ++ gs)).all (· ≤ reachBytes) = true := hsz0
  clear hsz0
  have hval : ∀ (j : Nat) t v, Try.f3.params[j]? = some t → args[j]? = some v → Value.okWide Try.prog W .any base t v := hval0
  have hW' := hW
  obtain ⟨p, q, hA0, hV, rfl, hfz, hnd⟩ := hW
  have hA : DataW.TrodAll enc Try.prog W 0 (fun _ => true) true Try.f3.params.toList args.toList ds p := hA0
  rw [Try.params3] at hA hval hsz
  obtain ⟨v0, vs0, d0, ds0, p0, q0, hargs, rfl, rfl, h0, r0⟩ := trodAll_cons hA
  obtain ⟨rfl, rfl, rfl⟩ := trodAll_nil r0
  obtain rfl : args = #[v0] := by cases args; simp_all
  obtain ⟨rfl, rfl⟩ := trodVars_none hV
  have k0 := h0
  have lt0 : ∀ x ∈ p0, x.block < W.heap.size := by obtain ⟨m, hm⟩ := k0; exact DataW.trod_lt m _ _ _ hm
  have hw0 : ∀ n ∈ d0.weights Try.prog 25, n ≤ reachBytes := fun n hn => by
    simpa using List.all_eq_true.1 hsz _ (DataW.weights_mem_each (j := 0) (t := 25) rfl rfl n hn)
  obtain ⟨b0, b1, b2, b3, y0, y1, y2, y3, mm, rfl, rfl, rfl, hy0, hy1, hy2, hy3⟩ := Joins.open_agg4 Try.underlying25 (by kernel_rfl) Try.cells25 (hval 0 25 v0 rfl rfl) h0
  have hw0 := weights_agg Try.underlying25 hw0 (j := 0) rfl (d := y0.1) rfl
  obtain ⟨a0, len0, cap0, l0, rfl, hlen0, nodes0, hcap0, hall0⟩ := open_nodes_at (d := y0.1) (p := y0.2) hy0 hw0
  obtain ⟨sz0, rm0⟩ := sized_of (R := reachBytes) (by decide) (by rw [← hlen0]; exact hcap0) hall0
  obtain ⟨i1, e1, _, x1⟩ := DataW.trod_int Try.underlying3 hy1
  obtain ⟨i2, e2, _, x2⟩ := DataW.trod_int Try.underlying23 hy2
  obtain ⟨i3, e3, _, x3⟩ := DataW.trod_int Try.underlying23 hy3
  simp at e1 e2 e3
  subst e1 e2 e3
  obtain ⟨n2, rfl, m2⟩ := wf_u64 x2
  obtain ⟨n3, rfl, m3⟩ := wf_u64 x3
  clear hA0 hval0
  refine (back_walk a0 cap0 len0 l0 hlen0 sz0 rm0 i1 x1 n2 n3 m2 m3 W W.heap.size (Nat.le_refl _) nodes0).mono fun e W' ⟨he, bel⟩ => ?_
  subst he
  exact ⟨_, rfl, _, _, _, [], _, [], hW', trodAll_mk1 (shut_bool Try.underlying4 _), (trodAll_cons_mk (Below.trod laidOut (by kernel_rfl) (of_decide_eq_true (by kernel_rfl)) k0 bel lt0) trodAll_mk0), rfl, bel.frame _, fun h => by cases h⟩

theorem over : Rows.rangesBackRow.holds Try.pinned (OpenSpec.ofChange Rows.rangesBackSpec) :=
  OpenClaim.holds_of_wide 3 Try.f3 rfl rfl rfl rfl rfl rfl rfl ⟨rfl, rfl, rfl, rfl, rfl⟩ rfl rfl rfl rfl rfl (by kernel_rfl) Try.func3 (by kernel_rfl)
    (of_decide_eq_true (by kernel_rfl)) (by unfold Func.isWrapper; first | (rw [if_pos (by decide +kernel)]; kernel_rfl) | (rw [if_neg (by decide +kernel)]; exact ⟨rfl, rfl⟩))
    (fun os started H enc _ => lifted os started H enc)

theorem proved : Rows.RangesBackSaid := over
#print axioms proved
end Go.Proofs.Ytndocngkganpdaa.rangesBack
