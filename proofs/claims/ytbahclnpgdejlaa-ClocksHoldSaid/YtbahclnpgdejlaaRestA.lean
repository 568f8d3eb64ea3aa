import Derived.Test.YtbahclnpgdejlaaOwn
import Derived.Test.YtbahclnpgdejlaaBal
set_option linter.unusedVariables false
namespace Go.Proofs.Ytbahclnpgdejlaa
open Go.RowKit
/-- A net whose users are those that stand in 'held', and whose holds are in balance. -/
def Rest (w : World) (B nb n : Nat) (Ac Ar : Option Addr) (gu gh cc cr cu ch : Nat) (l : List Clk) (rs : List Int) (held : List Nat) : Prop :=
  ∃ us hs, NetAt w B nb n Ac Ar (some ⟨gu, 0, none⟩) (some ⟨gh, 0, none⟩) cc cr cu ch ⟨l, rs, us, hs⟩ ∧ Bal l (fun j => (held.count j : Int)) hs ∧ (∀ j, 0 ≤ hs.getD j 0) ∧ ∀ j, us.getD j 0 = (held.count j : Int)
section
variable {w : World} {B nb n gu gh cc cr cu ch : Nat} {Ac Ar : Option Addr} {l : List Clk} {rs : List Int} {held : List Nat}
theorem hs_bd {hs : List Int} (hb : Bal l (fun j => (held.count j : Int)) hs) (hl : l.length ≤ 512) (hh : held.length ≤ 1000) (j : Nat) (hj : j < l.length) : hs.getD j 0 ≤ 1512 := by
  have h1 := hb j hj
  have h2 := kids_nonneg l hs j l.length
  have h3 : held.count j ≤ held.length := List.count_le_length
  simp only at h1
  omega
theorem Rest.below {w' : World} (h : Rest w B nb n Ac Ar gu gh cc cr cu ch l rs held) (hb : Below w.heap.size w w') : Rest w' B nb n Ac Ar gu gh cc cr cu ch l rs held := by
  obtain ⟨us, hs, h1, h2⟩ := h
  exact ⟨us, hs, h1.below hb, h2⟩
theorem rest_get (h : Rest w B nb n Ac Ar gu gh cc cr cu ch l rs held) (hg : Good l) (hn5 : n ≤ 512) (hh : held.length ≤ 1000) {k : Nat} (hk : k < n) :
    Calls Try.prog 12 #[.pointer (some ⟨nb, 0, none⟩), .int .i64 k] w fun e w' => ∃ A m c, e = .returned (.tuple #[.slice A m c, .int .i64 0]) ∧
      Rest w' B nb n Ac Ar gu gh cc cr cu ch l rs (held ++ [k]) ∧ Frame (fun j => j = gu ∨ j = gh) w w' := by
  obtain ⟨us, hs, hnet, hbal, hpos, hus⟩ := h
  have hlen := hnet.len
  have hlenh := hnet.lenh
  have hc : held.count k ≤ held.length := List.count_le_length
  have hu := hus k
  simp only at hlen hlenh
  refine (get_ok hnet hg hn5 hk (by simp only; omega) (by simp only; omega) (by simp only; omega) (fun j hj => ⟨hpos j, by have := hs_bd hbal (by omega) hh j (by omega); simp only; omega⟩)).mono ?_
  rintro e w' ⟨A, c, rfl, _, hnet', hf⟩
  obtain ⟨hb1, hb2⟩ := hold_bal hg 513 k hs _ (by omega) (by omega) (by omega) (by omega) hpos hbal
  refine ⟨A, _, c, rfl, ⟨_, _, hnet', ?_, hb2, ?_⟩, hf⟩
  · refine hb1.congr fun j hj => ?_
    unfold bump
    rw [List.count_append, List.count_singleton]
    by_cases e : j = k
    · subst e; simp
    · rw [if_neg (by omega), if_neg (by simpa using fun h => e h.symm)]; simp
  · intro j
    have hlu := hnet.lenu
    simp only at hlu
    show (us.set k (us.getD k 0 + 1)).getD j 0 = _
    rw [getD_set _ _ _ _ (by omega), hus j, hus k, List.count_append, List.count_singleton]
    by_cases e : j = k
    · subst e; simp
    · rw [if_neg e, if_neg (by simpa using fun h => e h.symm)]; simp
theorem rest_on (h : Rest w B nb n Ac Ar gu gh cc cr cu ch l rs held) {k : Nat} (hk : k < n) (hm : k ∈ held) :
    Calls Try.prog 13 #[.pointer (some ⟨nb, 0, none⟩), .int .i64 k] w fun e w' => e = .returned (.bool true) ∧ w = w' := by
  obtain ⟨us, hs, hnet, hbal, hpos, hus⟩ := h
  have hlen := hnet.len
  simp only at hlen
  have := on_ok hnet hk
  simp only at this
  have h1 := hbal k (by omega)
  have h2 := kids_nonneg l hs k l.length
  have h3 : 0 < held.count k := List.count_pos_iff.2 hm
  simp only at h1
  rw [show decide (0 < hs.getD k 0) = true from decide_eq_true (by omega)] at this
  exact this
theorem rest_put (h : Rest w B nb n Ac Ar gu gh cc cr cu ch l rs held) (hg : Good l) (hn5 : n ≤ 512) (hh : held.length ≤ 1000) {k : Nat} (hk : k < n) (hm : k ∈ held) (held' : List Nat) (hc : ∀ j, held.count j = held'.count j + (if j = k then 1 else 0)) :
    Calls Try.prog 14 #[.pointer (some ⟨nb, 0, none⟩), .int .i64 k] w fun e w' => ∃ A m c, e = .returned (.tuple #[.slice A m c, .int .i64 0]) ∧
      Rest w' B nb n Ac Ar gu gh cc cr cu ch l rs held' ∧ Frame (fun j => j = gu ∨ j = gh) w w' := by
  obtain ⟨us, hs, hnet, hbal, hpos, hus⟩ := h
  have hlen := hnet.len
  have hlenh := hnet.lenh
  have hcl : held.count k ≤ held.length := List.count_le_length
  have hcp : 0 < held.count k := List.count_pos_iff.2 hm
  have hu := hus k
  simp only at hlen hlenh
  refine (put_ok hnet hg hn5 hk (by simp only; omega) (by simp only; omega) (by simp only; omega) (fun j hj => ⟨by have := hpos j; simp only; omega, by have := hs_bd hbal (by omega) hh j (by omega); simp only; omega⟩)).mono ?_
  rintro e w' ⟨A, c, rfl, _, hnet', hf⟩
  obtain ⟨hb1, hb2⟩ := drop_bal hg 513 k hs _ (by omega) (by omega) (by omega) (by omega) hpos hbal (fun j => by show (0 : Int) ≤ (held.count j : Int); omega) (fun j e => by
    have e2 : j = k := by omega
    rw [e2]
    show (1 : Int) ≤ (held.count k : Int)
    omega)
  refine ⟨A, _, c, rfl, ⟨_, _, hnet', ?_, hb2, ?_⟩, hf⟩
  · refine hb1.congr fun j hj => ?_
    unfold bump
    simp only [hc j]
    by_cases e : j = k
    · subst e; simp; omega
    · rw [if_neg (by omega), if_neg e]; simp
  · intro j
    have hlu := hnet.lenu
    simp only at hlu
    show (us.set k (us.getD k 0 - 1)).getD j 0 = _
    rw [getD_set _ _ _ _ (by omega), hus j, hus k]
    by_cases e : j = k
    · subst e; have := hc j; rw [if_pos rfl] at this; rw [if_pos rfl]; omega
    · have := hc j; rw [if_neg e] at this; rw [if_neg e]; omega
theorem rest_end_put (h : Rest w B nb n Ac Ar gu gh cc cr cu ch l rs []) {k : Nat} (hk : k < n) :
    Calls Try.prog 14 #[.pointer (some ⟨nb, 0, none⟩), .int .i64 k] w fun e w' => e = .returned (.tuple #[.slice none 0 0, .int .i64 6]) ∧ w = w' := by
  obtain ⟨us, hs, hnet, hbal, hpos, hus⟩ := h
  exact put_none hnet hk (by have := hus k; simpa using this)
theorem rest_end_on (h : Rest w B nb n Ac Ar gu gh cc cr cu ch l rs []) (hg : Good l) {k : Nat} (hk : k < n) :
    Calls Try.prog 13 #[.pointer (some ⟨nb, 0, none⟩), .int .i64 k] w fun e w' => e = .returned (.bool false) ∧ w = w' := by
  obtain ⟨us, hs, hnet, hbal, hpos, hus⟩ := h
  have hlen := hnet.len
  simp only at hlen
  have := on_ok hnet hk
  simp only at this
  have hz := rest_off hg (hbal.congr (u' := fun _ => 0) (fun i _ => by simp)) (l.length - k) k (by omega) (by omega)
  rw [show decide (0 < hs.getD k 0) = false from decide_eq_false (by omega)] at this
  exact this
theorem rest_end_users (h : Rest w B nb n Ac Ar gu gh cc cr cu ch l rs []) {k : Nat} (hk : k < n) :
    Calls Try.prog 15 #[.pointer (some ⟨nb, 0, none⟩), .int .i64 k] w fun e w' => e = .returned (.int .i64 0) ∧ w = w' := by
  obtain ⟨us, hs, hnet, hbal, hpos, hus⟩ := h
  have := users_ok hnet hk
  have h2 := hus k
  simp only at this
  rw [h2] at this
  simpa using this
theorem rest_new (h : IsNet w B nb ⟨l, rs, zeros n, zeros n⟩) (hn : 0 < n) : ∃ Ac Ar gu gh cc cr cu ch, Rest w B nb n Ac Ar gu gh cc cr cu ch l rs [] ∧ B ≤ gu ∧ B ≤ gh ∧ gu < w.heap.size ∧ gh < w.heap.size := by
  obtain ⟨n', Ac, Ar, Au, Ah, cc, cr, cu, ch, hnet⟩ := h
  obtain rfl : n' = n := by have := hnet.lenu; simpa [zeros_len] using this
  obtain ⟨gu, rfl, hu, hru⟩ := hnet.row_u hn
  obtain ⟨gh, rfl, hh, hrh⟩ := hnet.row_h hn
  have hz : ∀ j, (zeros n').getD j 0 = 0 := fun j => by
    unfold zeros
    simp only [List.getD, List.getElem?_replicate]
    split <;> rfl
  refine ⟨Ac, Ar, gu, gh, cc, cr, cu, ch, ⟨_, _, hnet, fun i hi => ?_, fun j => by rw [hz]; omega, fun j => by rw [hz]; simp⟩, hu, hh, hru.lt, hrh.lt⟩
  have hk : ∀ m, kids l (zeros n') i m = 0 := by
    intro m
    induction m with
    | zero => rfl
    | succ m ih =>
      unfold kids
      rw [ih, hz, onI_neg (by omega)]
      simp
  rw [hz, hk]
  simp
end
end Go.Proofs.Ytbahclnpgdejlaa
