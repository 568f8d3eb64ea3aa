/- words.Show: the contract. -/
import Derived.Test.YtfipljhlponcoaaDoorShown
import Derived.Laws.BytesString
set_option linter.unusedVariables false
namespace Go.Proofs.YtfipljhlponcoaaDoor
open Go.RowKit
theorem push_nl : ∀ (l : List Nat) (s : ByteArray), (∀ x ∈ l, x < 256) → nl ((l.map fun (n : Nat) => (n : Int)).foldl (fun r n => r.push (UInt8.ofNat n.toNat)) s) = nl s ++ l
  | [], s, _ => by simp
  | a :: t, s, h => by
    have ha := h a (by simp)
    simp only [List.map_cons, List.foldl_cons]
    rw [push_nl t _ fun x hx => h x (by simp [hx])]
    have : nl (s.push (UInt8.ofNat (a : Int).toNat)) = nl s ++ [a] := by
      simp only [nl, ByteArray.push, Array.toList_push, List.map_append, List.map_cons, List.map_nil, Int.toNat_natCast]
      rw [UInt8.toNat_ofNat_of_lt' (by simpa using ha)]
    rw [this]
    simp
theorem str_row {w : World} {B n c : Nat} {A : Option Addr} {l : List Nat} (hn : n = l.length) (h : Seg w B A (bV l)) (hl : ∀ x ∈ l, x < 256) : ∃ t, (convert 72 9 (.slice A n c)).run Tryd.prog w = .ok (.string t) w ∧ nl t = l := by
  rw [run_convert_bytes_string w 72 9 5 A n c Tryd.underlying72 Tryd.underlying5 Tryd.underlying9]
  rcases A with _ | ad
  · have : l = [] := by
      cases l with
      | nil => rfl
      | cons a t => obtain ⟨_, _, h, _⟩ := h (by simp [bV]); cases h
    subst this
    exact ⟨ByteArray.empty, rfl, rfl⟩
  · refine ⟨_, run_bytesToString w ad n c (l.map fun (n : Nat) => (n : Int)) ?_, ?_⟩
    · have := run_loadCells_list (P := Tryd.prog) w ad (bV l) fun j v hj => by
        have hne : bV l ≠ [] := by rintro e; rw [e] at hj; simp at hj
        obtain ⟨b, off, h1, _, h3⟩ := h hne
        injection h1 with h1
        subst h1
        rw [addr_add]
        exact h3 j v hj
      rw [bV_len] at this
      rw [hn, List.map_map]
      exact this
    · rw [push_nl l _ hl]
      simp [nl]
theorem shows_lt (q : Nat) (l : List Nat) (hl : ∀ x ∈ l, x < 256) : ∀ x ∈ (shows (q : Int) l).flatten, x < 256 := fun x hx => by
  obtain ⟨e, he, hx⟩ := List.mem_flatten.1 hx
  obtain ⟨r, hr, rfl⟩ := all_rune _ _ _ hl e he
  unfold okR at hr
  unfold encN at hx
  repeat' split at hx
  all_goals simp at hx; omega
set_option maxRecDepth 100000 in
set_option maxHeartbeats 16000000 in
theorem show_any (s : ByteArray) (w : World) (hz : s.size ≤ 1048576) :
    Calls Tryd.prog 27 #[.string s] w fun e w' => ∃ t, e = .returned (.string t) ∧ nl t = (shows 92 (nl s)).flatten ∧ Below w.heap.size w w' := by
  have hs := Lib.hid (shown_any s 92 (by omega) (by omega) w hz)
  go_enter Tryd.func27, Tryd.ntmps27
  go_wp2_with (first
    | (go_at_call 51; refine hs.out.mono ?_; rintro e w1 ⟨A1, n1, c1, rfl, hown, hb⟩
       obtain ⟨t, ht, hnl⟩ := str_row (c := c1) hown.1 (own_seg hown.2) (shows_lt 92 (nl s) (nl_lt s))
       have HN := Lib.hid hnl; have HB := Lib.hid hb; clear hnl hb hown)
    | (fail))
  go_ret
  exact ⟨t, rfl, HN.out, HB.out⟩
end Go.Proofs.YtfipljhlponcoaaDoor
