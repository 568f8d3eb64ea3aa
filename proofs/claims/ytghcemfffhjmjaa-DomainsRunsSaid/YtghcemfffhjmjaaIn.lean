/- Slices of integers; Clone, Index, Contains; a slice that leads to a row. -/
import Derived.Test.YtghcemfffhjmjaaSmall
set_option linter.unusedVariables false
namespace Go.Proofs.Ytghcemfffhjmjaa
open Go.RowKit
def ints (l : List Int) : List Value := l.map (.int .i64)
theorem ints_len (l : List Int) : (ints l).length = l.length := by simp [ints]
theorem ints_one (l : List Int) : ∀ v ∈ ints l, v.oneCell' = true := fun v hv => by
  obtain ⟨x, _, rfl⟩ := List.mem_map.1 hv
  rfl
theorem ints_nats {l : List Int} (h : ∀ x ∈ l, 0 ≤ x) : ints l = nats (l.map Int.toNat) := by
  unfold ints nats
  rw [List.map_map]
  exact List.map_congr_left fun x hx => by
    have := h x hx
    show Value.int .i64 x = .int .i64 ((x.toNat : Nat) : Int)
    rw [Int.toNat_of_nonneg this]
theorem Seg.ints {w : World} {B : Nat} {a : Option Addr} {zs : List Int} (h : Seg w B a (ints zs)) {k : Nat} (hk : k < zs.length) :
   ∃ b off, a = some ⟨b, off, none⟩ ∧ b < B ∧ w.cell? ⟨b, off + k, none⟩ = some (.int .i64 zs[k]) := by
  obtain ⟨b, off, e, hb, hc⟩ := h (by intro e; have := congrArg List.length e; rw [ints_len] at this; simp at this; subst this; simp at hk)
  exact ⟨b, off, e, hb, hc k _ (by unfold Ytghcemfffhjmjaa.ints; simp [hk])⟩
theorem Try.info3 : (Try.prog.info? 3).map (fun i => (i.zero, i.size, i.bytes)) = some (some (.int .i64 0), 1, 8) := by kernel_rfl
/-- A slice that leads to the head of a row from block B on. -/
def Vec (w : World) (B : Nat) (A : Option Addr) (e : TypeId) (xs : List Value) : Prop := xs ≠ [] → ∃ g, A = some ⟨g, 0, none⟩ ∧ B ≤ g ∧ RowAt w g e xs
theorem Vec.keep {w w' : World} {B : Nat} {A : Option Addr} {e : TypeId} {xs : List Value} (h : Vec w B A e xs) (hk : ∀ g, A = some ⟨g, 0, none⟩ → B ≤ g → g < w.heap.size → w'.heap[g]? = w.heap[g]?) : Vec w' B A e xs := fun hx => by
  obtain ⟨g, ha, hb, hr⟩ := h hx
  exact ⟨g, ha, hb, hr.keep (hk g ha hb hr.lt)⟩
theorem Vec.of_own {w : World} {B n c size : Nat} {A : Option Addr} {e : TypeId} {xs : List Value} (h : w.ownsRow B e size (.slice A n c) n xs) : Vec w B A e xs := fun hx => by
  have hn : 0 < n := by
    rcases Nat.eq_zero_or_pos n with h0 | h0
    · subst h0
      exact absurd (List.eq_nil_of_length_eq_zero (by simpa using h.1)) hx
    · exact h0
  obtain ⟨g, ha, hb, _, hr⟩ := RowAt.of_own h hn
  exact ⟨g, ha, hb, hr⟩
theorem Vec.mono {w : World} {B B' : Nat} {A : Option Addr} {e : TypeId} {xs : List Value} (h : Vec w B A e xs) (hB : B' ≤ B) : Vec w B' A e xs := fun hx => by
  obtain ⟨g, ha, hb, hr⟩ := h hx
  exact ⟨g, ha, by omega, hr⟩
theorem Vec.below {w w' : World} {B : Nat} {A : Option Addr} {e : TypeId} {xs : List Value} (h : Vec w B A e xs) (hb : Below w.heap.size w w') : Vec w' B A e xs := h.keep fun g _ _ hg => hb.block g hg
theorem Vec.seg {w : World} {B B' : Nat} {A : Option Addr} {e : TypeId} {xs : List Value} (h : Vec w B A e xs) (hB : w.heap.size ≤ B') : Seg w B' A xs := fun hx => by
  obtain ⟨g, rfl, hb, hr⟩ := h hx
  exact hr.seg (B := B') (by have := hr.lt; omega) hx
/-- A block of a row of another type is not the block of a row of one's own. -/
theorem own_apart {w : World} {base size n g : Nat} {e e' : TypeId} {v : Value} {xs ys : List Value} (h : w.ownsRow base e size v n xs) (hr : RowAt w g e' ys) (hne : e' ≠ e) : v.ownBlock ≠ some g := by
  intro hv
  rcases h.2 with ⟨rfl, _⟩ | ⟨g', cap, cur, rfl, _, hh, _⟩
  · cases hv
  · have : g' = g := by simpa [Value.ownBlock] using hv
    subst this
    obtain ⟨cur', h', _⟩ := hr
    rw [hh] at h'
    injection h' with h'
    injection h' with _ ht
    exact hne ht.symm
set_option maxRecDepth 100000 in
theorem clone_any (A : Option Addr) (cap : Nat) (l : List Int) (n : Nat) (hn : n = l.length) (w : World) (B : Nat) (hB : B ≤ w.heap.size) (hs : Seg w B A (ints l)) (hl : n ≤ 2513169434843) :
    Calls Try.prog 23 #[.slice A n cap] w fun e w' => ∃ A' c', e = .returned (.slice A' n c') ∧ w'.ownsRow w.heap.size 3 1 (.slice A' n c') n (ints l) ∧ Below w.heap.size w w' := by
  obtain ⟨i0, hi, hz0, hz1, hz2⟩ := info_parts Try.info3
  have Hn := Lib.hid hn
  clear hn
  rcases A with _ | ad
  · have h0 : ints l = [] := hs.none_nil
    have hl0 : l = [] := by
      rcases l with _ | ⟨c, cs⟩
      · rfl
      · simp [ints] at h0
    have hn0 : n = 0 := by rw [Hn.out, hl0]; rfl
    subst hn0
    have hnil := fun w => Lib.run_eql_slice_nil (P := Try.prog) w 43 3 none 0 cap 0 0 Try.underlying43
    clear Hn hs
    go_enter Try.func23, Try.ntmps23
    go_wp2
    go_ret
    exact ⟨none, 0, rfl, by rw [h0]; exact World.ownsRow_nil _ _ _ _, Below.refl _ _⟩
  · have hnil := fun w => Lib.run_eql_slice_nil (P := Try.prog) w 43 3 (some ad) n cap 0 0 Try.underlying43
    have hown0 : (w.alloc (.cells #[] 3)).ownsRow w.heap.size 3 1 (.slice (some ⟨w.heap.size, 0, none⟩) 0 0) 0 [] := World.ownsRow_lit w #[] 0 (Nat.le_refl _) (by unfold maxLen; omega) rfl
    have hs0 := hs.alloc hB (.cells #[] 3)
    have hb0 := (Below.refl w.heap.size w).alloc (Nat.le_refl _) (.cells #[] 3)
    have hlen := ints_len l
    have Hl := Lib.hid hlen
    have HL := Lib.hid hl
    clear hlen hl
    go_enter Try.func23, Try.ntmps23
    go_wp2_with (at_builtin; refine wpList_append_seg _ rfl (.tmp 5) (.tmp 6) 43 rfl w.heap.size 3 i0 _ 1 8 Try.underlying43 hi hz0 hz1 hz2 rfl (by decide) _ 0 [] rfl hown0 B (some ad) n cap (ints l) rfl ?c1 hs0 ?c2 ?c3 ?c4 ?c5 ?_)
    case c1 => rw [Hl.out, Nat.mul_one]; exact Hn.out.symm
    case c2 => exact ints_one l
    case c3 => unfold maxLen; have := HL.out; omega
    case c4 => have := HL.out; omega
    case c5 => simp
    intro v1 w1 hown1 hg1 hnil1
    have hb1 : Below w.heap.size w w1 := hb0.grown hg1 (by simp) (by simp [Value.ownBlock])
    obtain ⟨A1, c1, rfl⟩ := own_shape hown1
    go_wp2
    go_ret
    exact ⟨A1, c1, rfl, hown1, hb1⟩
theorem index_any (A : Option Addr) (cap : Nat) (l : List Int) (n : Nat) (hn : n = l.length) (hl : n ≤ 2513169434843) (v : Int) (w : World) (B : Nat) (hs : Seg w B A (ints l)) :
    Calls Try.prog 34 #[.slice A n cap, .int .i64 v] w fun e w' => ∃ r : Int, e = .returned (.int .i64 r) ∧ (0 ≤ r ↔ v ∈ l) ∧ w = w' := by
  have Hn := Lib.hid hn
  have HS := Lib.hid hs
  clear hn hs
  go_enter Try.func34, Try.ntmps34
  go_wp2
  go_loopw [8] (fun i wr => ∃ k : Nat, k ≤ n ∧ i = .int .i64 k ∧ v ∉ l.take k ∧ wr = w) (fun i _ => n - (intOf i).toNat)
  case atStart => exact ⟨0, by omega, rfl, by simp, rfl⟩
  case round =>
    obtain ⟨k, hk, rfl, hno, rfl⟩ := hrel
    have HNO := Lib.hid hno
    clear hno
    by_cases hkn : k < n
    · have hkl : k < l.length := by rw [← Hn.out]; exact hkn
      have hki : (k : Int) < (n : Int) := by omega
      obtain ⟨b, off, rfl, _, c0⟩ := HS.out.ints hkl
      obtain ⟨x, hx⟩ : ∃ x, x = l[k] := ⟨_, rfl⟩
      rw [← hx] at c0
      have HX := Lib.hid hx
      clear hx
      by_cases he : v = x
      · go_wp2_with fail
        go_ret
        refine ⟨k, rfl, ?_, by first | rfl | trivial⟩
        have hm : v ∈ l := by rw [he, HX.out]; exact List.getElem_mem hkl
        simp [hm]
      · go_wp2_with fail
        refine ⟨⟨k + 1, by omega, by go_num, ?_, by first | rfl | trivial⟩, by simp [intOf]; omega⟩
        rw [List.take_succ_eq_append_getElem hkl, List.mem_append, List.mem_singleton, ← HX.out]
        exact fun h => h.elim HNO.out he
    · obtain rfl : k = n := by omega
      go_wp2_with fail
      go_ret
      refine ⟨-1, rfl, ⟨fun h => by omega, fun h => ?_⟩, by first | rfl | trivial⟩
      have := HNO.out
      rw [Hn.out, List.take_length] at this
      exact absurd h this
theorem contains_any (A : Option Addr) (cap : Nat) (l : List Int) (n : Nat) (hn : n = l.length) (hl : n ≤ 2513169434843) (v : Int) (w : World) (B : Nat) (hs : Seg w B A (ints l)) :
    Calls Try.prog 22 #[.slice A n cap, .int .i64 v] w fun e w' => e = .returned (.bool (decide (v ∈ l))) ∧ w = w' := by
  have hi := index_any A cap l n hn hl v w B hs
  clear hs hn
  go_enter Try.func22, Try.ntmps22
  go_wp2_with (go_at_call 34; refine hi.mono ?_; rintro e w1 ⟨r, rfl, hr, rfl⟩)
  go_ret
  exact ⟨rfl, by first | rfl | trivial⟩
end Go.Proofs.Ytghcemfffhjmjaa
