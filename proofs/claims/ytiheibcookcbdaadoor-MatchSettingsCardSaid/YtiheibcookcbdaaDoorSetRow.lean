/- For every input the statement MatchSettings holds: the call returns true and leaves its arguments as they were; the tables stand as the program's text lays them. -/
import Derived.Test.YtiheibcookcbdaaDoorSetW
import Derived.Test.YtiheibcookcbdaaDoorRows
import Derived.Deep.Slices
import Derived.Deep.Fields
import Derived.ChangeSame
import Derived.ProofKit
import Derived.LaidMore
import Derived.OpenShut
import Derived.ShutString
import Derived.ChangeOld
import Derived.SizedLaws
import Derived.Stop.Joined
set_option linter.unusedVariables false
namespace Go.Proofs.YtiheibcookcbdaaDoor
open Go.ChangeShapes Go.WideShapes Go.ChangeAt Go.Deep Go.RowKit
open Go.ChangeMaps (open_string shut_string)
/-- Things of m cells each, one behind the other. -/
theorem seg_of_things {α : Type} {f : α → List Value} {m : Nat} (hf : ∀ x, (f x).length = m) (hm : 0 < m) {w : World} {a : Addr} (l : List α)
    (h : ∀ i (hi : i < l.length), ∀ j u, (f l[i])[j]? = some u → w.cell? (a.add (i * m + j)) = some u) : Seg w w.heap.size (some a) (l.flatMap f) := by
  intro hne
  have h0 : 0 < l.length := by
    rcases l with _ | ⟨x, l⟩
    · exact absurd rfl hne
    · simp
  have hx : 0 < (f l[0]).length := by rw [hf]; exact hm
  have hc0 := h 0 h0 0 _ (List.getElem?_eq_getElem hx)
  obtain ⟨b, off, spot⟩ := a
  have hspot : spot = none := by simpa [Addr.add] using World.cell?_spot hc0
  subst hspot
  refine ⟨b, off, rfl, ?_, fun j u hu => ?_⟩
  · have := World.block_lt_of_cell? w _ hc0
    simpa [Addr.add] using this
  · have hlt := (List.getElem?_eq_some_iff.1 hu).1
    rw [flat_length f m hf] at hlt
    have hk : j / m < l.length := (Nat.div_lt_iff_lt_mul hm).2 hlt
    have hj : j % m < m := Nat.mod_lt _ hm
    have e : j = j / m * m + j % m := by have := Nat.div_add_mod j m; rw [Nat.mul_comm] at this; omega
    rw [e, flat_get f m hf l _ _ hk hj] at hu
    have := h _ hk _ u hu
    rw [addr_add, ← e] at this
    exact this
section
variable {H : Type} {P : Program} {t e : TypeId} {R : Nat}
theorem weightsAll_mem {ds : List (DataW H)} {d : DataW H} (h : d ∈ ds) : ∀ n ∈ d.weights P e, n ∈ DataW.weightsAll P e ds := by
  induction ds with
  | nil => cases h
  | cons x r ih =>
    intro n hn
    unfold DataW.weightsAll
    rcases List.mem_cons.1 h with rfl | h
    · exact List.mem_append_left _ hn
    · exact List.mem_append_right _ (ih h n hn)
theorem weights_slice {elems spare : List (DataW H)} (ht : P.underlying t = some (.slice e)) (h : ∀ n ∈ (DataW.slice elems spare).weights P t, n ≤ R) :
    (elems.length + spare.length) * P.bytesOf e ≤ R ∧ (∀ d ∈ elems, ∀ n ∈ d.weights P e, n ≤ R) ∧ ∀ d ∈ spare, ∀ n ∈ d.weights P e, n ≤ R := by
  unfold DataW.weights at h
  rw [ht] at h
  simp only at h
  refine ⟨h _ (List.mem_cons_self ..), fun d hd n hn => h n ?_, fun d hd n hn => h n ?_⟩
  · exact List.mem_cons_of_mem _ (List.mem_append_left _ (weightsAll_mem hd n hn))
  · exact List.mem_cons_of_mem _ (List.mem_append_right _ (weightsAll_mem hd n hn))
theorem weights_agg {fs : Array Field} {parts : List (DataW H)} (ht : P.underlying t = some (.struct fs)) (h : ∀ n ∈ (DataW.agg parts).weights P t, n ≤ R) {j : Nat} {f : Field} {d : DataW H} (hf : fs[j]? = some f) (hd : parts[j]? = some d) : ∀ n ∈ d.weights P f.type, n ≤ R := fun n hn => by
  unfold DataW.weights at h
  rw [ht] at h
  exact h n (DataW.weights_mem_each (by simp [hf]) hd n hn)
end
theorem wf_u8 {n : Int} (h : (Lit.int .u8 n).wf = true) : 0 ≤ n ∧ n ≤ 255 := by
  simp [Lit.wf, IntKind.min, IntKind.max, IntKind.signed, IntKind.bits] at h
  omega
theorem wf_i8 {n : Int} (h : (Lit.int .i8 n).wf = true) : -128 ≤ n ∧ n ≤ 127 := by
  simp [Lit.wf, IntKind.min, IntKind.max, IntKind.signed, IntKind.bits] at h
  omega
theorem strs_flat : ∀ l : List ByteArray, l.flatMap (fun t : ByteArray => [Value.string t]) = strs l
  | [] => rfl
  | x :: l => by rw [List.flatMap_cons, strs_flat l]; rfl
theorem Tryd.cells26 : Tryd.prog.cellsOf 26 = 7 := by kernel_rfl
theorem Tryd.cells9 : Tryd.prog.cellsOf 9 = 1 := by kernel_rfl
theorem Tryd.bytes9 : Tryd.prog.bytesOf 9 = 16 := by kernel_rfl
set_option maxRecDepth 100000 in
theorem open_strs {H : Type} {enc : TypeId × Value → H} {W : World} {fuel : Nat} {v : Value} {d : DataW H} {p : List MemPlace} {R : Nat}
    (h : DataW.trod enc Tryd.prog W 0 (fun _ => true) true fuel 22 [v] = some (d, p)) (hw : ∀ n ∈ d.weights Tryd.prog 22, n ≤ R) :
    ∃ (A : Option Addr) (c : Nat) (ts : List ByteArray), v = .slice A ts.length c ∧ Seg W W.heap.size A (strs ts) ∧ ts.length ≤ c ∧ ts.length * 16 ≤ R ∧ ∀ t ∈ ts, t.size ≤ R := by
  rcases open_slice Tryd.underlying22 h with ⟨hcs, hx⟩ | ⟨x, len', cap', m, n, D, Pl, hcs, _, hl, hmx, hm, hx, hi⟩
  · injection hcs with hcs
    subst hcs
    exact ⟨none, 0, [], rfl, Seg.nil, by simp, by simp, by simp⟩
  · injection hcs with hcs
    subst hcs
    simp only [Prod.mk.injEq] at hx
    obtain ⟨rfl, _⟩ := hx
    obtain ⟨h1, h2, _⟩ := weights_slice Tryd.underlying22 hw
    have hone : ∀ i, i < len' → ∃ t : ByteArray, t.size ≤ R ∧ W.cell? (x.add i) = some (.string t) := by
      intro i hin
      obtain ⟨cs', hc, ht'⟩ := hi i (by simp only [if_true] at hm; omega)
      rw [Tryd.cells9] at hc
      obtain ⟨_, hcl, hat⟩ := World.cells?_some hc
      have hv : cs'[0]? = some (cs'[0]'(by omega)) := List.getElem?_eq_getElem (by omega)
      have hcs1 : cs' = [cs'[0]'(by omega)] := List.ext_getElem (by simp; omega) (fun i h1 h2 => by simp at h2; subst h2; rfl)
      rw [hcs1] at ht'
      have hwi := h2 (D i) (List.mem_map.2 ⟨i, List.mem_range.2 hin, rfl⟩)
      obtain ⟨s0, e0, x0, _⟩ := DataW.trod_string Tryd.underlying9 ht'
      simp at e0
      have hD0 : D i = DataW.lit (Lit.string s0.data.toList) := congrArg Prod.fst x0
      rw [hD0] at hwi
      refine ⟨s0, hwi _ (by simp [DataW.weights]), ?_⟩
      have := hat 0 (by omega)
      rw [Nat.mul_one] at this
      rw [show (x.add i).add 0 = x.add i from by rw [Go.Deep.add_add, Nat.add_zero]] at this
      rw [this, hv, e0]
    obtain ⟨l, hll, hq⟩ := list_of _ len' hone
    refine ⟨some x, cap', l, by rw [hll], ?_, by omega, ?_, fun c hc => ?_⟩
    · have := seg_of_things (w := W) (a := x) (f := fun t : ByteArray => [Value.string t]) (m := 1) (fun _ => rfl) (by omega) l (fun i hi j u hu => by
        have hj : j < 1 := (List.getElem?_eq_some_iff.1 hu).1
        obtain rfl : j = 0 := by omega
        simp at hu
        subst hu
        rw [Nat.mul_one, Nat.add_zero]
        exact (hq i hi).2)
      have e := strs_flat l
      rw [e] at this
      exact this
    · rw [Tryd.bytes9] at h1
      simp only [List.length_map, List.length_range] at h1
      rw [hll]
      omega
    · obtain ⟨i, hi, rfl⟩ := List.mem_iff_getElem.1 hc
      exact (hq i hi).1
theorem wf_i16 {n : Int} (h : (Lit.int .i16 n).wf = true) : -32768 ≤ n ∧ n ≤ 32767 := by
  simp [Lit.wf, IntKind.min, IntKind.max, IntKind.signed, IntKind.bits] at h
  omega
theorem wf_i64 {n : Int} (h : (Lit.int .i64 n).wf = true) : -9223372036854775808 ≤ n ∧ n ≤ 9223372036854775807 := by
  simp [Lit.wf, IntKind.min, IntKind.max, IntKind.signed, IntKind.bits] at h
  omega
theorem open_agg7 {H : Type} {enc : TypeId × Value → H} {P : Program} {w : World} {base : Nat} {spare : Nat → Bool} {held : Bool} {r : Reach} {b0 : Nat} {t : TypeId} {f0 f1 f2 f3 f4 f5 f6 : Field} {v : Value} {d : DataW H} {p : List MemPlace} (hs : P.underlying t = some (.struct #[f0, f1, f2, f3, f4, f5, f6])) (hone : oneCellFields P #[f0, f1, f2, f3, f4, f5, f6] = true) (hC : P.cellsOf t = 7)
    (hv : Value.okWide P w r b0 t v) (h : DataW.Trod enc P w base spare held t v d p) :
    ∃ (v0 v1 v2 v3 v4 v5 v6 : Value) (y0 y1 y2 y3 y4 y5 y6 : DataW H × List MemPlace) (n : Nat), v = .agg #[v0, v1, v2, v3, v4, v5, v6] ∧ d = .agg [y0.1, y1.1, y2.1, y3.1, y4.1, y5.1, y6.1] ∧
      DataW.trod enc P w base spare held n f0.type [v0] = some y0 ∧ DataW.trod enc P w base spare held n f1.type [v1] = some y1 ∧ DataW.trod enc P w base spare held n f2.type [v2] = some y2 ∧ DataW.trod enc P w base spare held n f3.type [v3] = some y3 ∧ DataW.trod enc P w base spare held n f4.type [v4] = some y4 ∧ DataW.trod enc P w base spare held n f5.type [v5] = some y5 ∧ DataW.trod enc P w base spare held n f6.type [v6] = some y6 := by
  obtain ⟨cs, rfl, hsz⟩ := okWide_struct hs hv
  obtain ⟨l⟩ := cs
  match l, hsz.trans hC with
  | [c0, c1, c2, c3, c4, c5, c6], _ =>
    obtain ⟨fuel, hf⟩ := h
    obtain ⟨xs, n, _, hx, _, hlen, hg⟩ := DataW.trod_struct hs hf
    obtain ⟨o0, k0⟩ := hone_of hone 0 f0 rfl
    obtain ⟨o1, k1⟩ := hone_of hone 1 f1 rfl
    obtain ⟨o2, k2⟩ := hone_of hone 2 f2 rfl
    obtain ⟨o3, k3⟩ := hone_of hone 3 f3 rfl
    obtain ⟨o4, k4⟩ := hone_of hone 4 f4 rfl
    obtain ⟨o5, k5⟩ := hone_of hone 5 f5 rfl
    obtain ⟨o6, k6⟩ := hone_of hone 6 f6 rfl
    match xs, hlen with
    | [y0, y1, y2, y3, y4, y5, y6], _ =>
      simp only [Prod.mk.injEq] at hx
      exact ⟨c0, c1, c2, c3, c4, c5, c6, y0, y1, y2, y3, y4, y5, y6, n, rfl, by simpa using hx.1, by simpa [Value.cells, o0, k0] using hg 0 f0 rfl, by simpa [Value.cells, o1, k1] using hg 1 f1 rfl, by simpa [Value.cells, o2, k2] using hg 2 f2 rfl, by simpa [Value.cells, o3, k3] using hg 3 f3 rfl, by simpa [Value.cells, o4, k4] using hg 4 f4 rfl, by simpa [Value.cells, o5, k5] using hg 5 f5 rfl, by simpa [Value.cells, o6, k6] using hg 6 f6 rfl⟩
theorem Tryd.cells2 : Tryd.prog.cellsOf 2 = 1 := by kernel_rfl
/-- An array of integers that reads as it is laid holds just these. -/
theorem ints_of_trod {H : Type} {enc : TypeId × Value → H} {W : World} {base : Nat} {spare : Nat → Bool} {held : Bool} {fuel : Nat} {cs : Array Value} {T : List Int} {t n : Nat} {p : List MemPlace} (ht : Tryd.prog.underlying t = some (.array n 2)) (hn : T.length = n)
    (h : DataW.trod enc Tryd.prog W base spare held fuel t cs.toList = some (.agg (T.map fun k => .lit (.int .i64 k)), p)) : ∀ i (hi : i < T.length), cs[i]? = some (.int .i64 T[i]) := by
  intro i hi
  obtain ⟨xs, m, _, hx, _, hlen, hel⟩ := DataW.trod_array ht h
  simp only [Prod.mk.injEq, DataW.agg.injEq] at hx
  have hi2 : i < xs.length := by omega
  have h1 := hel i (by omega)
  rw [Tryd.cells2, Nat.mul_one, List.getElem?_eq_getElem hi2] at h1
  obtain ⟨k, e1, e2, _⟩ := DataW.trod_int Tryd.underlying2 h1
  have h2 := congrArg (fun l => l[i]?) hx.1
  simp only [List.getElem?_map, List.getElem?_eq_getElem hi, List.getElem?_eq_getElem hi2, Option.map_some] at h2
  rw [e2] at h2
  simp at h2
  subst h2
  have h3 := congrArg (fun l => l[0]?) e1
  simp only [List.getElem?_take, List.getElem?_drop, Nat.add_zero, List.getElem?_cons_zero] at h3
  simpa using h3
theorem range_of {W : World} {n : String} {g t fuel k : Nat} {cs : Array Value} {T : List Int} {base : Nat} {spare : Nat → Bool} {held : Bool} {p : List MemPlace} {enc : TypeId × Value → Unit} (hg : Tryd.prog.globalNamed n = some g) (hv : W.var? Tryd.prog n = some cs) (ht : Tryd.prog.underlying t = some (.array k 2)) (hk : T.length = k)
    (h : DataW.trod enc Tryd.prog W base spare held fuel t cs.toList = some (.agg (T.map fun k => .lit (.int .i64 k)), p)) : W.rangeAt g 0 (ints T) := fun j v hj => by
  have hjl : j < T.length := by have := (List.getElem?_eq_some_iff.1 hj).1; rwa [ints_len] at this
  rw [Nat.zero_add, World.var?_cell hg hv j, ints_of_trod ht hk h j hjl]
  unfold ints at hj
  rw [List.getElem?_map, List.getElem?_eq_getElem hjl] at hj
  exact hj
theorem own : ownKnob Tryd.prog.godebug = none := by kernel_rfl
theorem laidOut : laidOutB Tryd.prog = true := by kernel_rfl
theorem g_bus : Tryd.prog.globalNamed "reveille/bus.table" = some 2 := by kernel_rfl
theorem ty_bus : (Tryd.prog.globals[2]?).map (·.type) = some 55 := by kernel_rfl
theorem laid_bus : (Rows.laid_reveille_bus_table : DataW Unit) = .agg (t_bus.map fun k => .lit (.int .i64 k)) := by rfl
theorem g_crystal : Tryd.prog.globalNamed "reveille/crystal.table" = some 0 := by kernel_rfl
theorem ty_crystal : (Tryd.prog.globals[0]?).map (·.type) = some 51 := by kernel_rfl
theorem laid_crystal : (Rows.laid_reveille_crystal_table : DataW Unit) = .agg (t_crystal.map fun k => .lit (.int .i64 k)) := by rfl
theorem g_radio : Tryd.prog.globalNamed "reveille/radio.table" = some 4 := by kernel_rfl
theorem ty_radio : (Tryd.prog.globals[4]?).map (·.type) = some 55 := by kernel_rfl
theorem laid_radio : (Rows.laid_reveille_radio_table : DataW Unit) = .agg (t_radio.map fun k => .lit (.int .i64 k)) := by rfl
theorem g_sensor : Tryd.prog.globalNamed "reveille/sensor.table" = some 3 := by kernel_rfl
theorem ty_sensor : (Tryd.prog.globals[3]?).map (·.type) = some 57 := by kernel_rfl
theorem laid_sensor : (Rows.laid_reveille_sensor_table : DataW Unit) = .agg (t_sensor.map fun k => .lit (.int .i64 k)) := by rfl
theorem g_supply : Tryd.prog.globalNamed "reveille/supply.table" = some 1 := by kernel_rfl
theorem ty_supply : (Tryd.prog.globals[1]?).map (·.type) = some 53 := by kernel_rfl
theorem laid_supply : (Rows.laid_reveille_supply_table : DataW Unit) = .agg (t_supply.map fun k => .lit (.int .i64 k)) := by rfl
theorem of_laid {W : World} (h : laidMetH Tryd.prog Rows.matchSettingsRow.laid W) : Laid W := by
  rw [MakeChecks.laidMetH_plain _ _ _ (by kernel_rfl)] at h
  obtain ⟨ps, hV, _, _⟩ := h
  obtain ⟨g0, t0, cs0, f0, p0, q0, hg0, ht0, hv0, hd0, ⟨g1, t1, cs1, f1, p1, q1, hg1, ht1, hv1, hd1, ⟨g2, t2, cs2, f2, p2, q2, hg2, ht2, hv2, hd2, ⟨g3, t3, cs3, f3, p3, q3, hg3, ht3, hv3, hd3, ⟨g4, t4, cs4, f4, p4, q4, hg4, ht4, hv4, hd4, _, _⟩, _⟩, _⟩, _⟩, _⟩ := hV
  obtain rfl := Option.some.inj (g_bus.symm.trans hg0)
  obtain rfl := Option.some.inj (ty_bus.symm.trans ht0)
  rw [laid_bus] at hd0
  obtain rfl := Option.some.inj (g_crystal.symm.trans hg1)
  obtain rfl := Option.some.inj (ty_crystal.symm.trans ht1)
  rw [laid_crystal] at hd1
  obtain rfl := Option.some.inj (g_radio.symm.trans hg2)
  obtain rfl := Option.some.inj (ty_radio.symm.trans ht2)
  rw [laid_radio] at hd2
  obtain rfl := Option.some.inj (g_sensor.symm.trans hg3)
  obtain rfl := Option.some.inj (ty_sensor.symm.trans ht3)
  rw [laid_sensor] at hd3
  obtain rfl := Option.some.inj (g_supply.symm.trans hg4)
  obtain rfl := Option.some.inj (ty_supply.symm.trans ht4)
  rw [laid_supply] at hd4
  exact ⟨range_of g_crystal hv1 Tryd.underlying51 len_crystal hd1, range_of g_supply hv4 Tryd.underlying53 len_supply hd4, range_of g_bus hv0 Tryd.underlying55 len_bus hd0, range_of g_sensor hv3 Tryd.underlying57 len_sensor hd3, range_of g_radio hv2 Tryd.underlying55 len_radio hd2⟩
/-- The door's own heap meets the condition: three closed facts. -/
theorem door_met (os : Os) (args : Array Value) : laidMetH Tryd.prog Rows.matchSettingsRow.laid ((World.doorLaid Tryd.prog 4000 os).forCall (fun _ _ => 0) ⟨#[], args, []⟩).memory :=
  laidMetH_of_parts3 (fuel := 8) (laidMet_of_run' 8 (by kernel_rfl) (by kernel_rfl)) (by kernel_rfl) (by kernel_rfl)
set_option maxRecDepth 100000 in
theorem lifted (os : Os) (started : os.Started) (H : Type) (enc : TypeId × Value → H) :
    ReturnsInHanded {} Tryd.checked os 3 .any (fun w args => (Rows.matchSettingsSpec.pre enc Tryd.prog Tryd.f3 [] false w args ∧ laidMetH Tryd.prog Rows.matchSettingsRow.laid w) ∧ sizedMet enc Tryd.prog Tryd.f3 (OpenSpec.ofChange Rows.matchSettingsSpec) false w args)
      (Rows.matchSettingsSpec.post enc Tryd.prog Tryd.f3 false true false false) := by
  refine returnsInHanded_of_change_and (C := Tryd.checked) (X := fun w _ => laidMetH Tryd.prog Rows.matchSettingsRow.laid w) (fun _ _ _ hh h => h.of_heap hh) own started (by kernel_rfl) Tryd.func3
    (ChangeSpec.witness_shaped (enc := enc) (C := Tryd.checked) (os := os) (X := fun w _ => laidMetH Tryd.prog Rows.matchSettingsRow.laid w) false (World.doorLaid Tryd.prog 4000 os) #[.agg #[.string ByteArray.empty, .string ByteArray.empty, .int .u8 0, .slice none 0 0, .int .i8 0, .string ByteArray.empty, .int .i16 0], .string ByteArray.empty, .int .i64 0] 8 rfl (World.shaped_of_RefB (by kernel_rfl) (by kernel_rfl)) (by kernel_rfl) (by kernel_rfl) (by kernel_rfl) (door_met os _)) ?_
  intro W base args ds gs before hval0 hW _ hsz0 hL _
  have hsz : (DataW.weightsEach Tryd.prog (Tryd.f3.params.toList ++ Rows.matchSettingsSpec.plain.varTypes Tryd.prog) (ds ++ gs)).all (· ≤ reachBytes) = true := hsz0
  clear hsz0
  have hval : ∀ (j : Nat) t v, Tryd.f3.params[j]? = some t → args[j]? = some v → Value.okWide Tryd.prog W .any base t v := hval0
  have hW' := hW
  obtain ⟨p, q, hA0, hV, rfl, hfz, hnd⟩ := hW
  have hA : DataW.TrodAll enc Tryd.prog W 0 (fun _ => true) true Tryd.f3.params.toList args.toList ds p := hA0
  rw [Tryd.params3] at hA hval hsz
  obtain ⟨v0, vs0, d0, ds0, p0, q0, hargs, rfl, rfl, h0, r0⟩ := trodAll_cons hA
  obtain ⟨v1, vs1, d1, ds1, p1, q1, rfl, rfl, rfl, h1, r1⟩ := trodAll_cons r0
  obtain ⟨v2, vs2, d2, ds2, p2, q2, rfl, rfl, rfl, h2, r2⟩ := trodAll_cons r1
  obtain ⟨rfl, rfl, rfl⟩ := trodAll_nil r2
  obtain rfl : args = #[v0, v1, v2] := by cases args; simp_all
  obtain ⟨rfl, rfl⟩ := trodVars_none hV
  have k0 := h0
  have lt0 : ∀ x ∈ p0, x.block < W.heap.size := by obtain ⟨m, hm⟩ := k0; exact DataW.trod_lt m _ _ _ hm
  have hw0 : ∀ n ∈ d0.weights Tryd.prog 26, n ≤ reachBytes := fun n hn => by
    simpa using List.all_eq_true.1 hsz _ (DataW.weights_mem_each (j := 0) (t := 26) rfl rfl n hn)
  obtain ⟨b0, b1, b2, b3, b4, b5, b6, y0, y1, y2, y3, y4, y5, y6, mm, rfl, hd0, t0, t1, t2, t3, t4, t5, t6⟩ := open_agg7 Tryd.underlying26 (by kernel_rfl) Tryd.cells26 (hval 0 26 v0 rfl rfl) h0
  rw [hd0] at hw0
  have w0 := weights_agg Tryd.underlying26 hw0 (j := 0) rfl (d := y0.1) rfl
  have w1 := weights_agg Tryd.underlying26 hw0 (j := 1) rfl (d := y1.1) rfl
  have w3 := weights_agg Tryd.underlying26 hw0 (j := 3) rfl (d := y3.1) rfl
  have w5 := weights_agg Tryd.underlying26 hw0 (j := 5) rfl (d := y5.1) rfl
  obtain ⟨s0, e0, x0, _⟩ := DataW.trod_string Tryd.underlying9 t0
  obtain ⟨s1, e1, x1, _⟩ := DataW.trod_string Tryd.underlying9 t1
  obtain ⟨i2, e2, _, x2⟩ := DataW.trod_int Tryd.underlying5 t2
  obtain ⟨i4, e4, _, x4⟩ := DataW.trod_int Tryd.underlying23 t4
  obtain ⟨s5, e5, x5, _⟩ := DataW.trod_string Tryd.underlying9 t5
  obtain ⟨i6, e6, _, x6⟩ := DataW.trod_int Tryd.underlying24 t6
  simp at e0 e1 e2 e4 e5 e6
  subst e0 e1 e2 e4 e5 e6 x0 x1 x5
  obtain ⟨A, cc, ts, rfl, hs, hcp, hb, hy⟩ := open_strs (d := y3.1) (p := y3.2) t3 w3
  have c2 := wf_u8 x2
  have c4 := wf_i8 x4
  have c6 := wf_i16 x6
  obtain ⟨lv, rfl⟩ : ∃ lv : Nat, i2 = (lv : Int) := ⟨i2.toNat, by omega⟩
  have z0 : s0.size ≤ reachBytes := w0 _ (by simp [DataW.weights])
  have z1 : s1.size ≤ reachBytes := w1 _ (by simp [DataW.weights])
  have z5 : s5.size ≤ reachBytes := w5 _ (by simp [DataW.weights])
  simp only [reachBytes] at z0 z1 z5 hb hy
  have hfits : Cc.fits ⟨s0, s1, lv, ts, i4, s5, i6⟩ := by
    refine ⟨?_, ?_, ?_, ?_, fun t ht => ?_⟩
    · show s0.size ≤ maxLen
      have : s0.size ≤ _ := z0
      unfold maxLen; omega
    · show s1.size ≤ maxLen
      have : s1.size ≤ _ := z1
      unfold maxLen; omega
    · show s5.size ≤ maxLen
      have : s5.size ≤ _ := z5
      unfold maxLen; omega
    · show lv ≤ 255; omega
    · have := hy t ht
      unfold maxLen; omega
  obtain ⟨a1, rfl, rfl, rfl, wf1⟩ := open_string Tryd.underlying9 (hval 1 9 v1 rfl rfl) h1
  obtain ⟨a2, rfl, rfl, rfl, wf2⟩ := open_int Tryd.underlying2 (hval 2 2 v2 rfl rfl) h2
  have hn2 := wf_i64 wf2
  have hlaid := of_laid hL
  clear hA0 hval0
  refine (matchSettings_walk s0 s1 s5 lv i4 i6 A ts.length cc ts rfl hcp hfits (by omega) c4 c6 a1 a2 hn2 W hlaid hs).mono fun e W' ⟨he, bel⟩ => ?_
  subst he
  exact ⟨_, rfl, _, _, _, [], _, [], hW', trodAll_mk1 (shut_bool Tryd.underlying4 _), (trodAll_cons_mk (Below.trod laidOut (by kernel_rfl) (of_decide_eq_true (by kernel_rfl)) k0 bel lt0) (trodAll_cons_mk (shut_string Tryd.underlying9 wf1) (trodAll_cons_mk (shut_int Tryd.underlying2 wf2) trodAll_mk0))), rfl, bel.frame _, fun h => by cases h⟩
theorem matchSettings_row : Rows.MatchSettingsSaid :=
  OpenClaim.holds_of_wide 3 Tryd.f3 rfl rfl rfl rfl rfl rfl rfl ⟨rfl, rfl, rfl, rfl, rfl⟩ rfl rfl rfl rfl rfl (by kernel_rfl) Tryd.func3 (by kernel_rfl)
    (of_decide_eq_true (by kernel_rfl)) (by unfold Func.isWrapper; first | (rw [if_pos (by decide +kernel)]; kernel_rfl) | (rw [if_neg (by decide +kernel)]; exact ⟨rfl, rfl⟩))
    (fun os started H enc _ => lifted os started H enc)
end Go.Proofs.YtiheibcookcbdaaDoor
