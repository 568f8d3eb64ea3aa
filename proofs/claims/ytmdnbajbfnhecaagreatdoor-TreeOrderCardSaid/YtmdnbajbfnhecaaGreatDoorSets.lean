/- Sets: maps to bool that the call made. -/
import Derived.Maps.OwnSet
import Derived.ProofKit
set_option linter.unusedVariables false
namespace Go.Proofs.YtmdnbajbfnhecaaGreatDoor
open Go Go.Maps
/-! A map to bool that the call made and that holds true alone: a set. -/
section
variable {P : Program} {k e : TypeId} {w w' : World} {b n : Nat} {S : Value → Prop}
/-- Block b is a map to bool of at most n entries; at a key it holds true just if S says so. -/
def SetAt (P : Program) (k e : TypeId) (w : World) (b n : Nat) (S : Value → Prop) : Prop :=
  ∃ D : DataW Unit, w.ownsMap P k (plainElem P e) b n D ∧ IsMap D ∧ ∀ v kl, keyOf P k v = some kl → ∃ c, D.atKey kl (.lit (.bool false)) = .lit (.bool c) ∧ (c = true ↔ S v)
theorem set_made (w : World) (P : Program) (k e : TypeId) : SetAt P k e (w.alloc (.map #[] 0)) w.heap.size 0 fun _ => False :=
  ⟨.map [], World.ownsMap_made w P k _, isMap_empty, fun v kl _ => ⟨false, rfl, by simp⟩⟩
theorem SetAt.kept {row : Option Nat} (h : SetAt P k e w b n S) (hg : w.grownBy w' row) (hne : some b ≠ row) : SetAt P k e w' b n S := by
  obtain ⟨D, ho, hr⟩ := h
  exact ⟨D, ho.kept hg hne, hr⟩
theorem SetAt.lt (h : SetAt P k e w b n S) : b < w.heap.size := by
  obtain ⟨D, ho, _⟩ := h
  exact ho.lt
theorem SetAt.block (h : SetAt P k e w b n S) (hk : w'.heap[b]? = w.heap[b]?) : SetAt P k e w' b n S := by
  obtain ⟨D, ⟨es, clock, hb, F, hs, hD⟩, hr⟩ := h
  exact ⟨D, ⟨es, clock, hk.trans hb, F, hs, hD⟩, hr⟩
theorem SetAt.congr {S' : Value → Prop} (h : SetAt P k e w b n S) (hs : ∀ v, S v ↔ S' v) : SetAt P k e w b n S' := by
  obtain ⟨D, ho, hm, hr⟩ := h
  exact ⟨D, ho, hm, fun v kl hv => by obtain ⟨c, h1, h2⟩ := hr v kl hv; exact ⟨c, h1, h2.trans (hs v)⟩⟩
theorem SetAt.mono {n' : Nat} (h : SetAt P k e w b n S) (hn : n ≤ n') : SetAt P k e w b n' S := by
  obtain ⟨D, ho, hr⟩ := h
  exact ⟨D, ho.mono hn, hr⟩
/-- 'm[k]': the run. -/
theorem SetAt.look {t : TypeId} (h : SetAt P k e w b n S) (K : Keyed P k) (ht : P.underlying t = some (.map k e)) (he : P.underlying e = some .bool) (hz : (zeroValue e).run P w = .ok (.bool false) w) {key : Value} {kl : Lit} (hkey : keyOf P k key = some kl) :
    ∃ c : Bool, (Instr.lookup t (.map (some b)) key false).run P w = .ok (.bool c) w ∧ (c = true ↔ S key) := by
  obtain ⟨D, ho, _, hr⟩ := h
  obtain ⟨v, ps, hrun, hv⟩ := ho.lookup K ht hz (plainElem_bool he false) hkey
  obtain ⟨c, h1, h2⟩ := hr _ _ hkey
  rw [h1] at hv
  unfold plainElem at hv
  rw [he] at hv
  cases v <;> simp at hv
  obtain ⟨rfl, _⟩ := hv
  exact ⟨_, hrun, h2⟩
/-- 'm[k] = true': the run. -/
theorem SetAt.add {t : TypeId} (h : SetAt P k e w b n S) (K : Keyed P k) (ht : P.underlying t = some (.map k e)) (he : P.underlying e = some .bool) (hn : n < maxLen) {key : Value} {kl : Lit} (hkey : keyOf P k key = some kl) :
    ∃ w', (Instr.mapUpdate t (.map (some b)) key (.bool true)).run P w = .ok () w' ∧ SetAt P k e w' b (n + 1) (fun v => v = key ∨ S v) ∧ w.grownBy w' (some b) := by
  obtain ⟨D, ho, hm, hr⟩ := h
  obtain ⟨w', hrun, ho', hg⟩ := ho.update K ht hn hkey (plainElem_bool he true)
  refine ⟨w', hrun, ⟨_, ho', hm.put _ _, fun v kl' hv => ?_⟩, hg⟩
  by_cases hkk : kl' = kl
  · subst hkk
    exact ⟨true, atKey_put_same hm (K.key hkey) _ _, by simp [K.inj hv hkey]⟩
  · obtain ⟨c, h1, h2⟩ := hr v kl' hv
    refine ⟨c, by rw [atKey_put_other hkk]; exact h1, h2.trans ⟨.inr, fun h => h.elim (fun e => ?_) id⟩⟩
    subst e
    rw [hkey] at hv
    injection hv with hv
    exact absurd hv.symm hkk
end
/-- 'm[k]' at the operation. -/
theorem wpList_look_set {P : Program} (w : World) {ops : Array Oper} {rest : List Oper} {o : Oper} {a : Act} {Q : Exit → Act → World → Prop}
    (hg : o.guard = none) (m x : Operand) (t : TypeId) (hop : o.op = Op.lookup t m x false)
    (k e : TypeId) (K : Keyed P k) (ht : P.underlying t = some (.map k e)) (he : P.underlying e = some .bool) (hz : (zeroValue e).run P w = .ok (.bool false) w) (b n : Nat) (S : Value → Prop)
    (hm : a.eval m = .map (some b)) (hown : SetAt P k e w b n S) (key : Value) (kl : Lit) (hx : a.eval x = key) (hkey : keyOf P k key = some kl)
    (hK : ∀ c : Bool, (c = true ↔ S key) → wpList P ops Q rest (a.put o.dst (.bool c)) w) :
    wpList P ops Q (o :: rest) a w := by
  refine wpList_plain hg fun K' hK' => ?_
  obtain ⟨c, hrun, hc⟩ := hown.look K ht he hz hkey
  unfold Oper.wp
  simp [execOp, hop, hm, hx, hrun, Result.andThen]
  exact hK' _ _ (hK c hc)
/-- 'm[k] = true' at the operation. -/
theorem wpList_add_set {P : Program} (w : World) {ops : Array Oper} {rest : List Oper} {o : Oper} {a : Act} {Q : Exit → Act → World → Prop}
    (hg : o.guard = none) (m x v : Operand) (t : TypeId) (hop : o.op = Op.mapUpdate t m x v)
    (k e : TypeId) (K : Keyed P k) (ht : P.underlying t = some (.map k e)) (he : P.underlying e = some .bool) (b n : Nat) (S : Value → Prop)
    (hm : a.eval m = .map (some b)) (hown : SetAt P k e w b n S) (hn : n < maxLen) (key : Value) (kl : Lit) (hx : a.eval x = key) (hv : a.eval v = .bool true) (hkey : keyOf P k key = some kl)
    (hK : ∀ w', SetAt P k e w' b (n + 1) (fun v => v = key ∨ S v) → w.grownBy w' (some b) → wpList P ops Q rest (a.put o.dst undef) w') :
    wpList P ops Q (o :: rest) a w := by
  refine wpList_plain hg fun K' hK' => ?_
  obtain ⟨w', hrun, r1, r2⟩ := hown.add K ht he hn hkey
  unfold Oper.wp
  simp [execOp, hop, hm, hx, hv, hrun, Result.andThen]
  exact hK' _ _ (hK w' r1 r2)
end Go.Proofs.YtmdnbajbfnhecaaGreatDoor
