/- shown: the contract. words.Show: the contract. -/
import Derived.Test.YtfipljhlponcoaaDoorPutE
import Derived.LoopTactic
import Derived.Laws.BytesString
set_option linter.unusedVariables false
namespace Go.Proofs.YtfipljhlponcoaaDoor
open Go.RowKit
theorem elems_len (q : Int) {l : List Nat} (hl : ∀ x ∈ l, x < 256) (h : l ≠ []) : (elemsOf q (cutN l)).flatten.length ≤ 4 * (cutN l).2.length := by
  have hc := cut_len hl h
  unfold elemsOf
  split
  · rw [esc_len]; exact Nat.le_refl _
  · split
    · simp; omega
    · simp; omega
theorem dec_cut (s : ByteArray) (pos : Nat) (hp : pos < s.size) : (Utf8.decode s pos).2 = (cutN ((nl s).drop pos)).2.length := by
  rcases cut_cases s pos hp with ⟨r, h1, h2, h3, h4, h5, h6, h7, h8⟩ | ⟨h1, h2, h3, h4, h5⟩ | ⟨h1, h2, h3, h4⟩
  · rw [h4, h6, h8]
  · rw [h3, h4]; simp [nl_len]; omega
  · rw [h3, h4]; simp [nl_len]; omega
set_option maxRecDepth 100000 in
set_option maxHeartbeats 16000000 in
theorem shown_any (s : ByteArray) (q : Nat) (hq1 : 32 ≤ q) (hq : q < 127) (w : World) (hz : s.size ≤ 1048576) :
    Calls Tryd.prog 51 #[.string s, .int .u8 q] w fun e w' => ∃ A' n' c', e = .returned (.slice A' n' c') ∧ Own w' w.heap.size A' n' c' (shows q (nl s)).flatten ∧ Below w.heap.size w w' := by
  obtain ⟨i0, fi, fz0, fz1, fz2⟩ := info_parts Tryd.info5
  obtain ⟨W1, hW1, own1, g1⟩ := run_make_own (P := Tryd.prog) w w.heap.size 72 5 i0 _ 1 Tryd.underlying72 fi fz0 fz1 .i64 .i64 (s.size + 2) (by rw [fz2]; omega) (by unfold maxLen; omega) (Nat.le_refl _)
  rw [Int.natCast_add, show ((2 : Nat) : Int) = 2 from rfl] at hW1
  have hb1 : Below w.heap.size w W1 := (Below.refl _ w).grown g1 (Nat.le_refl _) (fun g hg => by cases hg)
  have O1 := Lib.hid (show Own W1 w.heap.size (some ⟨w.heap.size, 0, none⟩) 0 (s.size + 2) [] from ⟨rfl, own1⟩)
  have B1 := Lib.hid hb1
  have hs : (s.size : Int) ≤ 1048576 := by omega
  clear own1 g1 hb1
  go_enter Tryd.func51, Tryd.ntmps51
  go_wp2_with (fail)
  go_loopw [5] (fun v wx => ∃ (pos : Nat) (A' : Option Addr) (n' c' : Nat) (l' : List Nat), v = .slice A' n' c' ∧ wx.heap[W1.heap.size]? = some (.stringIter s pos) ∧ Own wx w.heap.size A' n' c' l' ∧ Below w.heap.size w wx ∧ l' ++ (shows q ((nl s).drop pos)).flatten = (shows q (nl s)).flatten ∧ l'.length ≤ 4 * pos ∧ pos ≤ s.size) (fun _ wx => s.size - wx.iterPos W1.heap.size)
  case atStart => exact ⟨0, _, _, _, [], rfl, World.iter_heap W1 s 0, ⟨rfl, O1.out.2.alloc _⟩, B1.out.alloc B1.out.size _, rfl, by simp, by omega⟩
  case round =>
    obtain ⟨pos, A', n', c', l', rfl, hit, ho, hb, hl, hn, hps⟩ := hrel
    by_cases hp : pos < s.size
    · have hnx : ∀ ty, (Instr.next (.pointer (some ⟨W1.heap.size, 0, none⟩)) true ty).run Tryd.prog wr = _ := fun ty => Lib.run_next_any_at wr W1.heap.size s pos ty hit hp
      have hit2 := Lib.iterAt_heap wr W1.heap.size s pos (pos + (Utf8.decode s pos).2) hit
      have hb2 := Lib.below_iterAt hb (k := W1.heap.size) B1.out.size s (pos + (Utf8.decode s pos).2)
      have ho2 : Own (wr.iterAt W1.heap.size s (pos + (Utf8.decode s pos).2)) w.heap.size A' n' c' l' := ⟨ho.1, own_keep2 ho.2 fun g hg hlt => Lib.iterAt_other wr _ _ s _ fun e => by
        obtain ⟨cc, fz, hcc⟩ := own_kind ho.2 g hg
        rw [e, hit] at hcc
        cases hcc⟩
      have hip : wr.iterPos W1.heap.size = pos := by unfold World.iterPos; rw [hit]
      have hpc := put_any s pos hp q hq1 hq A' n' c' l' _ w.heap.size hb2.size ho2 (by rw [ho.1]; omega) (by omega)
      obtain ⟨W, hWd⟩ : ∃ W, wr.iterAt W1.heap.size s (pos + (Utf8.decode s pos).2) = W := ⟨_, rfl⟩
      rw [hWd] at hnx hit2 hb2 hpc
      obtain ⟨R, hR⟩ : ∃ R, (Utf8.decode s pos).1 = R := ⟨_, rfl⟩
      rw [hR] at hnx hpc
      have hne : (nl s).drop pos ≠ [] := fun e => by
        have := congrArg List.length e
        rw [List.length_drop, nl_len] at this
        simp at this
        omega
      have DC := Lib.hid (dec_cut s pos hp)
      have EL := Lib.hid (elems_len q (drop_lt (nl_lt s) pos) hne)
      have CL := Lib.hid (show 1 ≤ (cutN ((nl s).drop pos)).2.length ∧ pos + (cutN ((nl s).drop pos)).2.length ≤ s.size from by
        have := cut_len (drop_lt (nl_lt s) pos) hne
        rw [List.length_drop, nl_len] at this
        omega)
      have HNE := Lib.hid hne
      clear hne
      have PC := Lib.hid hpc
      have IT := Lib.hid hit2
      have HB := Lib.hid hb2
      have HL := Lib.hid hl
      have HIP := Lib.hid hip
      clear hpc hit2 hb2 hit hb ho ho2 hl hip hR hWd
      go_wp2_with (first
        | (go_at_call 74; refine PC.out.mono ?_; rintro e W2 ⟨A3, n3, c3, rfl, hown3, hb3, hk3⟩; have O3 := Lib.hid hown3; have B3 := Lib.hid hb3; have K3 := Lib.hid hk3; clear hown3 hb3 hk3)
        | (fail))
      have hit4 := K3.out _ _ IT.out (by simp) (fun _ _ h => by cases h)
      refine ⟨⟨pos + (Utf8.decode s pos).2, A3, n3, c3, _, rfl, hit4, O3.out, HB.out.trans B3.out, ?_, ?_, ?_⟩, ?_⟩
      · rw [← HL.out, shows_cons q (drop_lt (nl_lt s) pos) HNE.out, ← DC.out, List.drop_drop]
        simp
      · rw [List.length_append, DC.out]
        have := EL.out
        omega
      · have := CL.out
        have := DC.out
        omega
      · rw [HIP.out]
        have : W2.iterPos W1.heap.size = pos + (Utf8.decode s pos).2 := by unfold World.iterPos; rw [hit4]
        rw [this]
        have := CL.out
        have := DC.out
        omega
    · have hnx : ∀ ty, (Instr.next (.pointer (some ⟨W1.heap.size, 0, none⟩)) true ty).run Tryd.prog wr = _ := fun ty => Lib.run_next_end_at wr W1.heap.size s pos ty hit hp
      obtain rfl : pos = s.size := by omega
      have O3 := Lib.hid ho
      have HB := Lib.hid hb
      have HL := Lib.hid hl
      clear ho hb hl hit
      go_wp2
      go_ret
      refine ⟨A', n', c', rfl, ?_, HB.out⟩
      have := HL.out
      rw [List.drop_of_length_le (by rw [nl_len]; exact Nat.le_refl _), shows_nil] at this
      rw [← this]
      simpa using O3.out
end Go.Proofs.YtfipljhlponcoaaDoor

set_option linter.unusedVariables false
namespace Go.Proofs.YtfipljhlponcoaaDoor
open Go.RowKit
theorem push_nl : ∀ (l : List Nat) (s : ByteArray), (∀ x ∈ l, x < 256) → nl ((l.map fun (n : Nat) => (n : Int)).foldl (fun r n => r.push (UInt8.ofNat n.toNat)) s) = nl s ++ l
  | [], s, _ => by simp
  | a :: t, s, h => by
    have ha := h a (by simp)
    simp only [List.map_cons, List.foldl_cons]
    rw [push_nl t _ fun x hx => h x (by simp [hx])]
    have : nl (s.push (UInt8.ofNat (a : Int).toNat)) = nl s ++ [a] := by
      simp only [nl, ByteArray.push, Array.toList_push, List.map_append, List.map_cons, List.map_nil, Int.toNat_natCast]
      rw [UInt8.toNat_ofNat_of_lt' (by simpa using ha)]
    rw [this]
    simp
theorem str_row {w : World} {B n c : Nat} {A : Option Addr} {l : List Nat} (hn : n = l.length) (h : Seg w B A (bV l)) (hl : ∀ x ∈ l, x < 256) : ∃ t, (convert 72 9 (.slice A n c)).run Tryd.prog w = .ok (.string t) w ∧ nl t = l := by
  rw [run_convert_bytes_string w 72 9 5 A n c Tryd.underlying72 Tryd.underlying5 Tryd.underlying9]
  rcases A with _ | ad
  · have : l = [] := by
      cases l with
      | nil => rfl
      | cons a t => obtain ⟨_, _, h, _⟩ := h (by simp [bV]); cases h
    subst this
    exact ⟨ByteArray.empty, rfl, rfl⟩
  · refine ⟨_, run_bytesToString w ad n c (l.map fun (n : Nat) => (n : Int)) ?_, ?_⟩
    · have := run_loadCells_list (P := Tryd.prog) w ad (bV l) fun j v hj => by
        have hne : bV l ≠ [] := by rintro e; rw [e] at hj; simp at hj
        obtain ⟨b, off, h1, _, h3⟩ := h hne
        injection h1 with h1
        subst h1
        rw [addr_add]
        exact h3 j v hj
      rw [bV_len] at this
      rw [hn, List.map_map]
      exact this
    · rw [push_nl l _ hl]
      simp [nl]
theorem shows_lt (q : Nat) (l : List Nat) (hl : ∀ x ∈ l, x < 256) : ∀ x ∈ (shows (q : Int) l).flatten, x < 256 := fun x hx => by
  obtain ⟨e, he, hx⟩ := List.mem_flatten.1 hx
  obtain ⟨r, hr, rfl⟩ := all_rune _ _ _ hl e he
  unfold okR at hr
  unfold encN at hx
  repeat' split at hx
  all_goals simp at hx; omega
set_option maxRecDepth 100000 in
set_option maxHeartbeats 16000000 in
theorem show_any (s : ByteArray) (w : World) (hz : s.size ≤ 1048576) :
    Calls Tryd.prog 27 #[.string s] w fun e w' => ∃ t, e = .returned (.string t) ∧ nl t = (shows 92 (nl s)).flatten ∧ Below w.heap.size w w' := by
  have hs := Lib.hid (shown_any s 92 (by omega) (by omega) w hz)
  go_enter Tryd.func27, Tryd.ntmps27
  go_wp2_with (first
    | (go_at_call 51; refine hs.out.mono ?_; rintro e w1 ⟨A1, n1, c1, rfl, hown, hb⟩
       obtain ⟨t, ht, hnl⟩ := str_row (c := c1) hown.1 (own_seg hown.2) (shows_lt 92 (nl s) (nl_lt s))
       have HN := Lib.hid hnl; have HB := Lib.hid hb; clear hnl hb hown)
    | (fail))
  go_ret
  exact ⟨t, rfl, HN.out, HB.out⟩
end Go.Proofs.YtfipljhlponcoaaDoor
