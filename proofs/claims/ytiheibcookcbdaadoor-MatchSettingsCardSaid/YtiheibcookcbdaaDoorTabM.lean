/- The families' map and Table: contracts. -/
import Derived.Test.YtiheibcookcbdaaDoorTabs
set_option linter.unusedVariables false
namespace Go.Proofs.YtiheibcookcbdaaDoor
open Go.RowKit
theorem run_insT {w : World} {b : Nat} {es : List (ByteArray × Value)} {k : ByteArray} {v : Value} (h : MapAt w b es) (hn : es.find? (fun x => k == x.1) = none) :
    ∃ w', (Instr.mapUpdate 44 (.map (some b)) (.string k) v).run Tryd.prog w = .ok () w' ∧ MapAt w' b (es ++ [(k, v)]) ∧ w.grownBy w' (some b) := by
  obtain ⟨E, c, hb, he⟩ := h
  obtain ⟨r, hr, hre⟩ := find_at k E.toList es 0 he
  rw [hn] at hre
  have hr0 : r = none := by cases r with
    | none => rfl
    | some x => cases hre
  subst hr0
  have hk : Tryd.prog.underlying 9 = some .string := Tryd.underlying9
  have hc : (Instr.checkKey false 10000 9 (.string k)).run Tryd.prog w = .ok () w := MapKept.run_checkKey (k := .string k) hk (by simp [MapKept.IsKey]) false 9999
  refine ⟨_, by simp [Instr.mapUpdate, run_underlying Tryd.underlying44, MapKept.run_getObj_map hb, hc, MapKept.run_findKey hk hr, MapKept.run_setObj_map _ hb, Result.andThen]; rfl, ⟨_, _, (MapKept.heap_set hb).1, ?_⟩, ?_⟩
  · simp [he]
  · exact ⟨rfl, rfl, rfl, by simp, fun j hj hne => (MapKept.heap_set hb).2 j (fun e => hne (by rw [e]))⟩
theorem wpList_insT {w : World} {ops : Array Oper} {rest : List Oper} {o : Oper} {a : Act} {Q : Exit → Act → World → Prop} (hgd : o.guard = none) (m x y : Operand) (ho : o.op = .insert 44 m x y)
    {b : Nat} {es : List (ByteArray × Value)} {k : ByteArray} {v : Value} (hm : MapAt w b es) (hn : es.find? (fun x => k == x.1) = none) (h1 : a.eval m = .map (some b)) (h2 : a.eval x = .string k) (h3 : a.eval y = v)
    (h : ∀ w', MapAt w' b (es ++ [(k, v)]) → w.grownBy w' (some b) → wpList Tryd.prog ops Q rest (a.put o.dst undef) w') : wpList Tryd.prog ops Q (o :: rest) a w := by
  refine wpList_plain hgd fun K' hK' => ?_
  obtain ⟨w', hrun, r1, r2⟩ := run_insT (v := v) hm hn
  unfold Oper.wp
  simp [execOp, ho, h1, h2, h3, hrun, Result.andThen]
  exact hK' _ _ (h w' r1 r2)
theorem look_atT {w : World} {b : Nat} {es : List (ByteArray × Value)} (h : MapAt w b es) (k : ByteArray) {v : Value} (hf : (es.find? fun x => k == x.1).map Prod.snd = some v) : (Instr.lookup 44 (.map (some b)) (.string k) true).run Tryd.prog w = .ok (.tuple #[v, .bool true]) w := by
  obtain ⟨E, c, hb, he⟩ := h
  obtain ⟨r, hr, hre⟩ := find_at k E.toList es 0 he
  rw [hf] at hre
  obtain ⟨j, rfl⟩ : ∃ j, r = some (j, v) := by
    cases r with
    | none => cases hre
    | some x => simp at hre; exact ⟨x.1, by rw [← hre]⟩
  have hk : Tryd.prog.underlying 9 = some .string := Tryd.underlying9
  have hc : (Instr.checkKey E.isEmpty 10000 9 (.string k)).run Tryd.prog w = .ok () w := MapKept.run_checkKey (k := .string k) hk (by simp [MapKept.IsKey]) _ 9999
  simp [Instr.lookup, run_underlying Tryd.underlying44, MapKept.run_getObj_map hb, hc, MapKept.run_findKey hk hr, Result.andThen]
theorem look_noT {w : World} {b : Nat} {es : List (ByteArray × Value)} (h : MapAt w b es) (k : ByteArray) (hf : (es.find? fun x => k == x.1).map Prod.snd = none) : (Instr.lookup 44 (.map (some b)) (.string k) true).run Tryd.prog w = .ok (.tuple #[.nilFunc, .bool false]) w := by
  obtain ⟨E, c, hb, he⟩ := h
  obtain ⟨r, hr, hre⟩ := find_at k E.toList es 0 he
  rw [hf] at hre
  obtain rfl : r = none := by
    cases r with
    | none => rfl
    | some x => simp at hre
  have hk : Tryd.prog.underlying 9 = some .string := Tryd.underlying9
  have hc : (Instr.checkKey E.isEmpty 10000 9 (.string k)).run Tryd.prog w = .ok () w := MapKept.run_checkKey (k := .string k) hk (by simp [MapKept.IsKey]) _ 9999
  have hz : ∀ W, (zeroValue 42).run Tryd.prog W = .ok .nilFunc W := fun W => by kernel_rfl
  simp [Instr.lookup, run_underlying Tryd.underlying44, MapKept.run_getObj_map hb, hc, MapKept.run_findKey hk hr, hz, Result.andThen]
theorem look_noQ {w : World} {b : Nat} {es : List (ByteArray × Value)} (h : MapAt w b es) (k : ByteArray) (hf : (es.find? fun x => k == x.1).map Prod.snd = none) : (Instr.lookup 49 (.map (some b)) (.string k) true).run Tryd.prog w = .ok (.tuple #[.nilFunc, .bool false]) w := by
  obtain ⟨E, c, hb, he⟩ := h
  obtain ⟨r, hr, hre⟩ := find_at k E.toList es 0 he
  rw [hf] at hre
  obtain rfl : r = none := by
    cases r with
    | none => rfl
    | some x => simp at hre
  have hk : Tryd.prog.underlying 9 = some .string := Tryd.underlying9
  have hc : (Instr.checkKey E.isEmpty 10000 9 (.string k)).run Tryd.prog w = .ok () w := MapKept.run_checkKey (k := .string k) hk (by simp [MapKept.IsKey]) _ 9999
  have hz : ∀ W, (zeroValue 38).run Tryd.prog W = .ok .nilFunc W := fun W => by kernel_rfl
  simp [Instr.lookup, run_underlying Tryd.underlying49, MapKept.run_getObj_map hb, hc, MapKept.run_findKey hk hr, hz, Result.andThen]
def n_crystal : ByteArray := ⟨#[99, 114, 121, 115, 116, 97, 108]⟩
def n_supply : ByteArray := ⟨#[115, 117, 112, 112, 108, 121]⟩
def n_bus : ByteArray := ⟨#[98, 117, 115]⟩
def n_sensor : ByteArray := ⟨#[115, 101, 110, 115, 111, 114]⟩
def n_radio : ByteArray := ⟨#[114, 97, 100, 105, 111]⟩
/-- The families, as they lie in the map. -/
def famMap : List (ByteArray × Value) := [(n_crystal, fnF 15), (n_supply, fnF 17), (n_bus, fnF 19), (n_sensor, fnF 21), (n_radio, fnF 23)]
/-- A family's table. -/
def tableF (k : ByteArray) : Option (List Int) := if k = n_crystal then some t_crystal else if k = n_supply then some t_supply else if k = n_bus then some t_bus else if k = n_sensor then some t_sensor else if k = n_radio then some t_radio else none
set_option maxRecDepth 100000 in
set_option maxHeartbeats 4000000 in
theorem tables_any (w : World) : Calls Tryd.prog 11 #[] w fun e w' => ∃ b, e = .returned (.map (some b)) ∧ MapAt w' b famMap ∧ Below w.heap.size w w' := by
  have hmk : ∀ w : World, (Instr.makeMap 44 none).run Tryd.prog w = .ok (.map (some w.heap.size)) (w.alloc (.map #[] 0)) := fun w => run_makeMap_plain w 44
  have hm0 : MapAt (w.alloc (.map #[] 0)) w.heap.size [] := ⟨#[], 0, heap_alloc_new _ _, rfl⟩
  have hb0 : Below w.heap.size w (w.alloc (.map #[] 0)) := (Below.refl _ _).alloc (Nat.le_refl _) _
  have hst : ∀ w1 w2, Below w.heap.size w w1 → w1.grownBy w2 (some w.heap.size) → Below w.heap.size w w2 := fun w1 w2 h1 h2 => h1.grown h2 h1.size (fun g hg => by injection hg with hg; omega)
  have HM0 := Lib.hid hm0
  have HB0 := Lib.hid hb0
  have HST := Lib.hid hst
  clear hm0 hb0 hst
  go_enter Tryd.func11, Tryd.ntmps11
  go_wp2_with (first
    | (refine wpList_insT rfl (.tmp 1) (.const (.string ⟨#[114, 97, 100, 105, 111]⟩)) (.func 23) rfl (k := n_radio) (v := fnF 23) HM4.out (by rfl) rfl rfl rfl ?_; intro w5 hm5 hg5; have HM5 := Lib.hid hm5; have HB5 := Lib.hid (HST.out _ _ HB4.out hg5); clear hm5 hg5)
    | (refine wpList_insT rfl (.tmp 1) (.const (.string ⟨#[115, 101, 110, 115, 111, 114]⟩)) (.func 21) rfl (k := n_sensor) (v := fnF 21) HM3.out (by rfl) rfl rfl rfl ?_; intro w4 hm4 hg4; have HM4 := Lib.hid hm4; have HB4 := Lib.hid (HST.out _ _ HB3.out hg4); clear hm4 hg4)
    | (refine wpList_insT rfl (.tmp 1) (.const (.string ⟨#[98, 117, 115]⟩)) (.func 19) rfl (k := n_bus) (v := fnF 19) HM2.out (by rfl) rfl rfl rfl ?_; intro w3 hm3 hg3; have HM3 := Lib.hid hm3; have HB3 := Lib.hid (HST.out _ _ HB2.out hg3); clear hm3 hg3)
    | (refine wpList_insT rfl (.tmp 1) (.const (.string ⟨#[115, 117, 112, 112, 108, 121]⟩)) (.func 17) rfl (k := n_supply) (v := fnF 17) HM1.out (by rfl) rfl rfl rfl ?_; intro w2 hm2 hg2; have HM2 := Lib.hid hm2; have HB2 := Lib.hid (HST.out _ _ HB1.out hg2); clear hm2 hg2)
    | (refine wpList_insT rfl (.tmp 1) (.const (.string ⟨#[99, 114, 121, 115, 116, 97, 108]⟩)) (.func 15) rfl (k := n_crystal) (v := fnF 15) HM0.out (by rfl) rfl rfl rfl ?_; intro w1 hm1 hg1; have HM1 := Lib.hid hm1; have HB1 := Lib.hid (HST.out _ _ HB0.out hg1); clear hm1 hg1)
    | fail)
  go_ret
  exact ⟨_, by rfl, HM5.out, HB5.out⟩
/-- What is told of a family: its table in a new array, or that there is none. -/
def TabRet (w : World) (k : ByteArray) (e : Ending) (w' : World) : Prop := Below w.heap.size w w' ∧ match tableF k with
  | some T => ∃ g, e = .returned (.tuple #[.slice (some ⟨g, 0, none⟩) T.length T.length, .int .i64 0]) ∧ w'.rangeAt g 0 (ints T) ∧ g < w'.heap.size
  | none => e = .returned (.tuple #[.slice none 0 0, .int .i64 6])
theorem fam_yes {k : ByteArray} {T : List Int} (h : tableF k = some T) : (k = n_crystal ∧ T = t_crystal) ∨ (k = n_supply ∧ T = t_supply) ∨ (k = n_bus ∧ T = t_bus) ∨ (k = n_sensor ∧ T = t_sensor) ∨ (k = n_radio ∧ T = t_radio) := by
  unfold tableF at h
  repeat' split at h
  all_goals first
    | (injection h with h; subst h; simp_all)
    | cases h
theorem fam_no {k : ByteArray} (h : tableF k = none) : (famMap.find? fun x => k == x.1).map Prod.snd = none := by
  unfold tableF at h
  repeat' split at h
  all_goals first
    | cases h
    | skip
  unfold famMap
  have hb : ∀ n : ByteArray, ¬ k = n → (k == n) = false := fun n hn => by
    rcases hx : k == n
    · rfl
    · exact absurd ((MapKept.bytes_beq k n).1 hx) hn
  simp only [List.find?_cons, List.find?_nil]
  rw [hb n_crystal (by assumption), hb n_supply (by assumption), hb n_bus (by assumption), hb n_sensor (by assumption), hb n_radio (by assumption)]
  rfl
set_option maxRecDepth 100000 in
set_option maxHeartbeats 8000000 in
theorem table_any (k : ByteArray) (w : World) (hl : Laid w) : Calls Tryd.prog 5 #[.string k] w (TabRet w k) := by
  have hsz := hl.size
  have hcl : ∀ w1, Below w.heap.size w w1 → Laid w1 := fun w1 hb => hl.below hb hsz
  rcases hT : tableF k with _ | T
  · have hno := fam_no hT
    have hlk := fun (w1 : World) b (h : MapAt w1 b famMap) => look_noT h k hno
    have HL := Lib.hid hlk
    have HT := Lib.hid hT
    clear hlk hno hcl hT hl
    go_enter Tryd.func5, Tryd.ntmps5
    go_wp2_with (first
      | (go_at_call 11; refine (tables_any _).mono ?_; rintro e w1 ⟨b, rfl, hm, hb⟩
         have hlook := HL.out w1 b hm
         have HB := Lib.hid hb
         clear hm hb)
      | fail)
    go_ret2
    exact ⟨HB.out, by rw [HT.out]; rfl⟩
  · have HT := Lib.hid hT
    have HC := Lib.hid hcl
    rcases fam_yes hT with ⟨rfl, rfl⟩ | ⟨rfl, rfl⟩ | ⟨rfl, rfl⟩ | ⟨rfl, rfl⟩ | ⟨rfl, rfl⟩
    · have hlk : ∀ (w1 : World) b, MapAt w1 b famMap → (Instr.lookup 44 (.map (some b)) (.string n_crystal) true).run Tryd.prog w1 = .ok (.tuple #[.func (.func 15) #[] #[], .bool true]) w1 := fun w1 b h => look_atT (v := fnF 15) h n_crystal (by rfl)
      have HL := Lib.hid hlk
      clear hlk hcl hT hl
      go_enter Tryd.func5, Tryd.ntmps5
      go_wp2_with (first
        | (go_at_call 15; refine (clos_crystal _ (HC.out _ HB.out)).mono ?_; rintro e w2 ⟨g, rfl, hr, hg, hb2⟩
           have HR := Lib.hid hr
           have HG := Lib.hid hg
           have HB2 := Lib.hid (HB.out.trans (hb2.mono HB.out.size))
           clear hr hg hb2)
        | (go_at_call 11; refine (tables_any _).mono ?_; rintro e w1 ⟨b, rfl, hm, hb⟩
           have hlook := HL.out w1 b hm
           have HB := Lib.hid hb
           clear hm hb)
        | fail)
      go_ret2
      exact ⟨HB2.out, by rw [HT.out]; exact ⟨g, by rfl, HR.out, HG.out⟩⟩
    · have hlk : ∀ (w1 : World) b, MapAt w1 b famMap → (Instr.lookup 44 (.map (some b)) (.string n_supply) true).run Tryd.prog w1 = .ok (.tuple #[.func (.func 17) #[] #[], .bool true]) w1 := fun w1 b h => look_atT (v := fnF 17) h n_supply (by rfl)
      have HL := Lib.hid hlk
      clear hlk hcl hT hl
      go_enter Tryd.func5, Tryd.ntmps5
      go_wp2_with (first
        | (go_at_call 17; refine (clos_supply _ (HC.out _ HB.out)).mono ?_; rintro e w2 ⟨g, rfl, hr, hg, hb2⟩
           have HR := Lib.hid hr
           have HG := Lib.hid hg
           have HB2 := Lib.hid (HB.out.trans (hb2.mono HB.out.size))
           clear hr hg hb2)
        | (go_at_call 11; refine (tables_any _).mono ?_; rintro e w1 ⟨b, rfl, hm, hb⟩
           have hlook := HL.out w1 b hm
           have HB := Lib.hid hb
           clear hm hb)
        | fail)
      go_ret2
      exact ⟨HB2.out, by rw [HT.out]; exact ⟨g, by rfl, HR.out, HG.out⟩⟩
    · have hlk : ∀ (w1 : World) b, MapAt w1 b famMap → (Instr.lookup 44 (.map (some b)) (.string n_bus) true).run Tryd.prog w1 = .ok (.tuple #[.func (.func 19) #[] #[], .bool true]) w1 := fun w1 b h => look_atT (v := fnF 19) h n_bus (by rfl)
      have HL := Lib.hid hlk
      clear hlk hcl hT hl
      go_enter Tryd.func5, Tryd.ntmps5
      go_wp2_with (first
        | (go_at_call 19; refine (clos_bus _ (HC.out _ HB.out)).mono ?_; rintro e w2 ⟨g, rfl, hr, hg, hb2⟩
           have HR := Lib.hid hr
           have HG := Lib.hid hg
           have HB2 := Lib.hid (HB.out.trans (hb2.mono HB.out.size))
           clear hr hg hb2)
        | (go_at_call 11; refine (tables_any _).mono ?_; rintro e w1 ⟨b, rfl, hm, hb⟩
           have hlook := HL.out w1 b hm
           have HB := Lib.hid hb
           clear hm hb)
        | fail)
      go_ret2
      exact ⟨HB2.out, by rw [HT.out]; exact ⟨g, by rfl, HR.out, HG.out⟩⟩
    · have hlk : ∀ (w1 : World) b, MapAt w1 b famMap → (Instr.lookup 44 (.map (some b)) (.string n_sensor) true).run Tryd.prog w1 = .ok (.tuple #[.func (.func 21) #[] #[], .bool true]) w1 := fun w1 b h => look_atT (v := fnF 21) h n_sensor (by rfl)
      have HL := Lib.hid hlk
      clear hlk hcl hT hl
      go_enter Tryd.func5, Tryd.ntmps5
      go_wp2_with (first
        | (go_at_call 21; refine (clos_sensor _ (HC.out _ HB.out)).mono ?_; rintro e w2 ⟨g, rfl, hr, hg, hb2⟩
           have HR := Lib.hid hr
           have HG := Lib.hid hg
           have HB2 := Lib.hid (HB.out.trans (hb2.mono HB.out.size))
           clear hr hg hb2)
        | (go_at_call 11; refine (tables_any _).mono ?_; rintro e w1 ⟨b, rfl, hm, hb⟩
           have hlook := HL.out w1 b hm
           have HB := Lib.hid hb
           clear hm hb)
        | fail)
      go_ret2
      exact ⟨HB2.out, by rw [HT.out]; exact ⟨g, by rfl, HR.out, HG.out⟩⟩
    · have hlk : ∀ (w1 : World) b, MapAt w1 b famMap → (Instr.lookup 44 (.map (some b)) (.string n_radio) true).run Tryd.prog w1 = .ok (.tuple #[.func (.func 23) #[] #[], .bool true]) w1 := fun w1 b h => look_atT (v := fnF 23) h n_radio (by rfl)
      have HL := Lib.hid hlk
      clear hlk hcl hT hl
      go_enter Tryd.func5, Tryd.ntmps5
      go_wp2_with (first
        | (go_at_call 23; refine (clos_radio _ (HC.out _ HB.out)).mono ?_; rintro e w2 ⟨g, rfl, hr, hg, hb2⟩
           have HR := Lib.hid hr
           have HG := Lib.hid hg
           have HB2 := Lib.hid (HB.out.trans (hb2.mono HB.out.size))
           clear hr hg hb2)
        | (go_at_call 11; refine (tables_any _).mono ?_; rintro e w1 ⟨b, rfl, hm, hb⟩
           have hlook := HL.out w1 b hm
           have HB := Lib.hid hb
           clear hm hb)
        | fail)
      go_ret2
      exact ⟨HB2.out, by rw [HT.out]; exact ⟨g, by rfl, HR.out, HG.out⟩⟩
end Go.Proofs.YtiheibcookcbdaaDoor
