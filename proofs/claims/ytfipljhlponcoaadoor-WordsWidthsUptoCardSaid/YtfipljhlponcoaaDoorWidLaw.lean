/- pick and count: contracts; what is fitted: plain law. -/
import Derived.Test.YtfipljhlponcoaaDoorBackLaw
set_option linter.unusedVariables false
namespace Go.Proofs.YtfipljhlponcoaaDoor
open Go.RowKit
/-- A number from 0 to 59. -/
def Pk (w : World) (e : Ending) (w' : World) : Prop := ∃ r : Nat, r < 60 ∧ e = .returned (.int .i64 (r : Int)) ∧ w = w'
theorem pick_any (k : Int) (w : World) (h1 : -9223372036854775808 ≤ k) (h2 : k ≤ 9223372036854775807) : Calls Tryd.prog 28 #[.int .i64 k, .int .i64 60] w (Pk w) := by
  have b1 := Int.lt_tmod_of_pos k (show (0 : Int) < 60 by omega)
  have b2 := Int.tmod_lt_of_pos k (show (0 : Int) < 60 by omega)
  go_enter Tryd.func28, Tryd.ntmps28
  go_wp2
  all_goals go_ret
  · exact ⟨(k.tmod 60 + 60).toNat, by omega, by rw [Int.toNat_of_nonneg (by omega)]; rfl, rfl⟩
  · exact ⟨(k.tmod 60).toNat, by omega, by rw [Int.toNat_of_nonneg (by omega)]; rfl, rfl⟩
set_option maxRecDepth 100000 in
set_option maxHeartbeats 16000000 in
theorem cnt30 (t : ByteArray) (es : List (List Nat)) (hr : ∀ e ∈ es, isRune e) (ht : nl t = es.flatten) (hz : t.size ≤ 16777216) (w : World) :
    Calls Tryd.prog 30 #[.string t] w fun e w' => e = .returned (.int .i64 (es.length : Int)) ∧ Below w.heap.size w w' := by
  have HR := Lib.hid hr
  have HT := Lib.hid ht
  have hb0 : Below w.heap.size w (w.alloc (.stringIter t 0)) := (Below.refl _ w).alloc (Nat.le_refl _) _
  have HB0 := Lib.hid hb0
  have hel : es.length ≤ 16777216 := by
    have : ∀ es : List (List Nat), (∀ e ∈ es, isRune e) → es.length ≤ es.flatten.length := fun es => by
      induction es with
      | nil => simp
      | cons a t ih =>
        intro h
        have := ih (fun e he => h e (by simp [he]))
        obtain ⟨r, _, hr⟩ := h a (by simp)
        have := (enc_len r).1
        rw [List.flatten_cons, List.length_append, List.length_cons, hr]
        omega
    have := this es hr
    rw [← ht, nl_len] at this
    omega
  clear hr ht hb0
  go_enter Tryd.func30, Tryd.ntmps30
  go_wp2_with fail
  go_loopw [3] (fun nv wx => ∃ j : Nat, nv = .int .i64 j ∧ j ≤ es.length ∧ wx.heap[w.heap.size]? = some (.stringIter t (es.take j).flatten.length) ∧ Below w.heap.size w wx) (fun _ wx => t.size - wx.iterPos w.heap.size)
  case atStart => exact ⟨0, rfl, Nat.zero_le _, World.iter_heap w t 0, HB0.out⟩
  case round =>
    obtain ⟨j, rfl, hj, hit, hb⟩ := hrel
    by_cases hlt : j < es.length
    · have hrn := run_dec HR.out HT.out hlt
      obtain ⟨hp, hd⟩ := hrn
      have hnx : ∀ ty, (Instr.next (.pointer (some ⟨w.heap.size, 0, none⟩)) true ty).run Tryd.prog wr = _ := fun ty => Lib.run_next_any_at wr w.heap.size t (es.take j).flatten.length ty hit hp
      have hdl : 1 ≤ (Utf8.decode t (es.take j).flatten.length).2 := by
        have h3 := dec_cut t _ hp
        have h4 := cut_len (drop_lt (nl_lt t) (es.take j).flatten.length) (dropn_ne hp)
        omega
      have hip : wr.iterPos w.heap.size = (es.take j).flatten.length := by unfold World.iterPos; rw [hit]
      rw [show (es.take j).flatten.length + (Utf8.decode t (es.take j).flatten.length).2 = (es.take (j + 1)).flatten.length from by omega] at hnx
      have hit2 := Lib.iterAt_heap wr w.heap.size t (es.take j).flatten.length (es.take (j + 1)).flatten.length hit
      have hb2 := Lib.below_iterAt hb (k := w.heap.size) (Nat.le_refl _) t (es.take (j + 1)).flatten.length
      have hlt2 : (es.take j).flatten.length < (es.take (j + 1)).flatten.length := by omega
      obtain ⟨q, hq⟩ : ∃ q, (es.take (j + 1)).flatten.length = q := ⟨_, rfl⟩
      rw [hq] at hnx hit2 hb2 hlt2
      have HQ := Lib.hid hq
      have IT := Lib.hid hit2
      have HB2 := Lib.hid hb2
      have HIP := Lib.hid hip
      have H2 := Lib.hid hlt2
      have HP := Lib.hid hp
      generalize (Utf8.decode t (es.take j).flatten.length).1 = R at hnx
      obtain ⟨W, hW⟩ : ∃ W, wr.iterAt w.heap.size t q = W := ⟨_, rfl⟩
      rw [hW] at hnx IT HB2
      generalize (es.take j).flatten.length = p at hnx HIP H2 HP
      have hji : (j : Int) < (es.length : Int) := by omega
      clear hit hb hd hdl hip hit2 hb2 hlt2 hp hW hq
      go_wp2_with fail
      refine ⟨⟨j + 1, by go_num, hlt, by rw [HQ.out]; exact IT.out, HB2.out⟩, ?_⟩
      rw [HIP.out]
      have : W.iterPos w.heap.size = q := by unfold World.iterPos; rw [IT.out]
      rw [this]
      have := H2.out
      have := HP.out
      omega
    · obtain rfl : j = es.length := by omega
      rw [List.take_length, ← HT.out, nl_len] at hit
      have hnx : ∀ ty, (Instr.next (.pointer (some ⟨w.heap.size, 0, none⟩)) true ty).run Tryd.prog wr = _ := fun ty => Lib.run_next_end_at wr w.heap.size t t.size ty hit (by omega)
      have HBE := Lib.hid hb
      clear hit hb
      go_wp2_with fail
      go_ret
      exact ⟨rfl, HBE.out⟩
/-- What is fitted, rune by rune. -/
def fitE (l : List Nat) (n : Nat) : List (List Nat) := if (shows 92 l).length ≤ n then shows 92 l ++ List.replicate (n - (shows 92 l).length) [32] else (shows 92 l).take (n - 1) ++ [[126]]
theorem fitE_is (l : List Nat) (hl : ∀ x ∈ l, x < 256) (n : Nat) (h1 : 1 ≤ n) (h2 : n ≤ 4096) : fitF l n = ((fitE l n).flatten, 0) ∧ (fitE l n).length = n ∧ ∀ e ∈ fitE l n, isRune e := by
  have hr := all_rune 92 l.length l hl
  unfold fitF fitE
  rw [if_neg (by omega)]
  by_cases h : (shows 92 l).length ≤ n
  · rw [if_pos (by omega), if_pos h]
    refine ⟨by rw [List.flatten_append, flat_rep]; simp, by simp; omega, fun e he => ?_⟩
    rcases List.mem_append.1 he with he | he
    · exact hr e he
    · rw [List.eq_of_mem_replicate he]
      exact rune_small (by omega)
  · rw [if_neg (by omega), if_neg h]
    refine ⟨by rw [List.flatten_append]; simp, by simp; omega, fun e he => ?_⟩
    rcases List.mem_append.1 he with he | he
    · exact hr e (List.mem_of_mem_take he)
    · rw [List.mem_singleton] at he
      subst he
      exact rune_small (by omega)
/-- What the statement asks of what is fitted: where the text is short. -/
theorem fit_short {s a u : ByteArray} {n : Nat} (ha : nl a = (fitE (nl s) n).flatten) (hu : nl u = (shows 92 (nl s)).flatten) (h : (shows 92 (nl s)).length ≤ n) : u.size ≤ a.size ∧ a.extract 0 u.size = u := by
  unfold fitE at ha
  rw [if_pos h, List.flatten_append, ← hu] at ha
  have hs := congrArg List.length ha
  rw [List.length_append, nl_len, nl_len] at hs
  refine ⟨by omega, nl_inj ?_⟩
  rw [nl_extract, ha, List.drop_zero, Nat.sub_zero, ← nl_len u, List.take_left]
/-- .. where it is long. -/
theorem fit_long {s a u : ByteArray} {n : Nat} (hn : 1 ≤ n) (ha : nl a = (fitE (nl s) n).flatten) (hu : nl u = (shows 92 (nl s)).flatten) (h : n < (shows 92 (nl s)).length) : 1 ≤ a.size ∧ a.size - 1 ≤ u.size ∧ u.extract 0 (a.size - 1) = a.extract 0 (a.size - 1) ∧ ∀ h : a.size - 1 < a.size, (a[a.size - 1]'h).toNat = 126 := by
  unfold fitE at ha
  rw [if_neg (by omega), List.flatten_append] at ha
  have hX : (shows 92 (nl s)).flatten = ((shows 92 (nl s)).take (n - 1)).flatten ++ ((shows 92 (nl s)).drop (n - 1)).flatten := by rw [← List.flatten_append, List.take_append_drop]
  rw [hX] at hu
  generalize ((shows 92 (nl s)).take (n - 1)).flatten = X at ha hu
  generalize ((shows 92 (nl s)).drop (n - 1)).flatten = Y at hu
  have hs := congrArg List.length ha
  have hs2 := congrArg List.length hu
  simp only [List.flatten_cons, List.flatten_nil, List.append_nil] at ha
  rw [nl_len] at hs hs2
  simp only [List.length_append, List.flatten_cons, List.flatten_nil, List.length_cons, List.length_nil] at hs hs2
  have ez : a.size - 1 = X.length := by omega
  refine ⟨by omega, by omega, nl_inj ?_, fun h => ?_⟩
  · rw [nl_extract, nl_extract, ha, hu, ez]
    simp
  · have h0 := nl_getD a (a.size - 1) 0 h
    have : ((nl a).drop (a.size - 1)).getD 0 0 = 126 := by rw [ha, ez, List.drop_left]; rfl
    rw [this] at h0
    exact h0.symm
theorem trimN_snoc (l : List Nat) : trimN (l ++ [32]) = trimN l := by unfold trimN; simp
theorem trimN_stop {l : List Nat} (h : ∀ x ∈ l.getLast?, x ≠ 32) : trimN l = l := by
  unfold trimN
  cases hr : l.reverse with
  | nil =>
    have : l = [] := by simpa using hr
    rw [this]; rfl
  | cons a t =>
    have hl : l = t.reverse ++ [a] := by rw [← List.reverse_reverse l, hr]; simp
    have ha : a ≠ 32 := h a (by rw [hl]; simp)
    rw [List.dropWhile_cons, if_neg (by simpa using ha), ← hr, List.reverse_reverse]
end Go.Proofs.YtfipljhlponcoaaDoor
