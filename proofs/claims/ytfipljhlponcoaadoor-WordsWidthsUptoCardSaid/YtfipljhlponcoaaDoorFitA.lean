/- Fit: plain law. words.Fit: the contract. -/
import Derived.Test.YtfipljhlponcoaaDoorWidthW
set_option linter.unusedVariables false
namespace Go.Proofs.YtfipljhlponcoaaDoor
open Go.RowKit
/-- What Fit gives: the text's bytes and the refusal. -/
def fitF (l : List Nat) (n : Int) : List Nat × Int :=
  if n < 1 ∨ 4096 < n then ([], 1)
  else if ((shows 92 l).length : Int) ≤ n then ((shows 92 l).flatten ++ List.replicate (n.toNat - (shows 92 l).length) 32, 0)
  else (((shows 92 l).take (n.toNat - 1)).flatten ++ [126], 0)
theorem run_dec {es : List (List Nat)} (h : ∀ e ∈ es, isRune e) {t : ByteArray} (ht : nl t = es.flatten) {k : Nat} (hk : k < es.length) : ((es.take k).flatten.length < t.size) ∧ (Utf8.decode t (es.take k).flatten.length).2 + (es.take k).flatten.length = (es.take (k + 1)).flatten.length := by
  obtain ⟨r, hr, he⟩ := h es[k] (List.getElem_mem hk)
  have hd : es.drop k = es[k] :: es.drop (k + 1) := List.drop_eq_getElem_cons hk
  have h1 : es.flatten = (es.take k).flatten ++ (es[k] ++ (es.drop (k + 1)).flatten) := by
    rw [← List.flatten_cons, ← hd, ← List.flatten_append, List.take_append_drop]
  have hl := enc_len r
  have h2 : (nl t).drop (es.take k).flatten.length = es[k] ++ (es.drop (k + 1)).flatten := by rw [ht, h1, List.drop_left']; rfl
  have h3 : (es.take k).flatten.length < t.size := by
    have := congrArg List.length h2
    rw [List.length_drop, nl_len, List.length_append, he] at this
    omega
  refine ⟨h3, ?_⟩
  rw [dec_pc t _ h3, h2, he, pc_enc r hr, List.take_succ_eq_append_getElem hk, List.flatten_append, List.length_append]
  simp [he]
  omega
end Go.Proofs.YtfipljhlponcoaaDoor

set_option linter.unusedVariables false
namespace Go.Proofs.YtfipljhlponcoaaDoor
open Go.RowKit
theorem nl_app (a b : ByteArray) : nl (a ++ b) = nl a ++ nl b := by simp [nl]
theorem nl_rep (c : Nat) : nl ⟨(Lib.repeatL [32] c).toArray⟩ = List.replicate c 32 := by
  unfold nl
  induction c with
  | zero => rfl
  | succ c ih => simp [Lib.repeatL, List.replicate_succ]; simpa using ih
set_option maxRecDepth 100000 in
set_option maxHeartbeats 16000000 in
theorem fit_any (s : ByteArray) (m : Int) (w : World) (hz : s.size ≤ 1048576) :
    Calls Tryd.prog 29 #[.string s, .int .i64 m] w fun e w' => ∃ t, e = .returned (.tuple #[.string t, .int .i64 (fitF (nl s) m).2]) ∧ nl t = (fitF (nl s) m).1 ∧ Below w.heap.size w w' := by
  have hsh := Lib.hid (show_any s w hz)
  have hbd := Lib.hid (shows_bd 92 (nl s) (nl_lt s))
  by_cases h1 : m < 1
  · have e : fitF (nl s) m = ([], 1) := by unfold fitF; rw [if_pos (.inl h1)]
    rw [e]
    have h1d : decide (m < 1) = true := by simp [h1]
    go_enter Tryd.func29, Tryd.ntmps29
    go_wp2_with (fail)
    go_ret2
    exact ⟨_, rfl, rfl, Below.refl _ _⟩
  have h1d : decide (m < 1) = false := by simp [h1]
  by_cases h2 : 4096 < m
  · have e : fitF (nl s) m = ([], 1) := by unfold fitF; rw [if_pos (.inr h2)]
    rw [e]
    have h2d : decide (4096 < m) = true := by simp [h2]
    go_enter Tryd.func29, Tryd.ntmps29
    go_wp2_with (fail)
    go_ret2
    exact ⟨_, rfl, rfl, Below.refl _ _⟩
  have h2d : decide (4096 < m) = false := by simp [h2]
  obtain ⟨n, rfl⟩ : ∃ n : Nat, m = n := ⟨m.toNat, by omega⟩
  obtain ⟨es, hes⟩ : ∃ es, es = shows 92 (nl s) := ⟨_, rfl⟩
  have hru : ∀ e ∈ es, isRune e := by rw [hes]; exact all_rune _ _ _ (nl_lt s)
  have hcn : ∀ t, nl t = es.flatten → Lib.runeCount t = es.length := fun t ht => by
    rw [cnt_str, ht, ← nl_len, ht, hes]; exact shows_cnt 92 _ (nl_lt s)
  have hlen : ∀ t, nl t = es.flatten → t.size ≤ 4194304 := fun t ht => by
    have := congrArg List.length ht
    rw [nl_len] at this
    have h := hbd.out
    rw [← hes, nl_len] at h
    omega
  rw [← hes] at hsh
  have HCN := Lib.hid hcn
  have HLN := Lib.hid hlen
  have HRU := Lib.hid hru
  clear hcn hlen hru
  by_cases h3 : es.length ≤ n
  · have e : fitF (nl s) n = (es.flatten ++ List.replicate (n - es.length) 32, 0) := by
      unfold fitF
      rw [if_neg (by omega), ← hes, if_pos (by omega)]
      simp
    rw [e]
    have h3d : ((es.length : Nat) : Int) ≤ (n : Int) := by omega
    have hsub := Lib.hid (show (n : Int) - (es.length : Int) = ((n - es.length : Nat) : Int) by omega)
    have hni : (n : Int) ≤ 4096 := by omega
    have hrep : ∀ w1, Calls Tryd.prog 60 #[.string ⟨#[32]⟩, .int .i64 ((n - es.length : Nat) : Int)] w1 fun e w' => e = .returned (.string ⟨(Lib.repeatL [32] (n - es.length)).toArray⟩) ∧ Below w1.heap.size w1 w' := fun w1 => Tryd.strings_Repeat ⟨#[32]⟩ (n - es.length) w1 (by omega) (by show 1 * _ ≤ _; omega)
    have HR := Lib.hid hrep
    have hln : (⟨(Lib.repeatL [32] (n - es.length)).toArray⟩ : ByteArray).size = n - es.length := by rw [← nl_len, nl_rep, List.length_replicate]
    have hne := nl_rep (n - es.length)
    obtain ⟨T, hT⟩ : ∃ T : ByteArray, T = ⟨(Lib.repeatL [32] (n - es.length)).toArray⟩ := ⟨_, rfl⟩
    rw [← hT] at hln hne HR
    have HT := Lib.hid hne
    clear hrep e hes hne hT
    go_enter Tryd.func29, Tryd.ntmps29
    go_wp2_with (first
      | (go_at_call 27; refine hsh.out.mono ?_; rintro e w1 ⟨t, rfl, ht, hb⟩; have HT1 := Lib.hid ht; have HB1 := Lib.hid hb; have hts := HLN.out _ ht; clear ht hb)
      | (go_at_call 59; refine (Tryd.utf8_RuneCountInString t _ (by have := HLN.out _ HT1.out; omega)).mono ?_; rintro e w2 ⟨rfl, pos, rfl⟩; rw [HCN.out _ HT1.out])
      | (go_at_call 60; rw [hsub.out]; refine (HR.out _).mono ?_; rintro e w3 ⟨rfl, hb3⟩; have HB3 := Lib.hid hb3; clear hb3)
      | (fail))
    go_ret2
    refine ⟨_, rfl, ?_, ?_⟩
    · rw [nl_app, HT1.out, HT.out]
    · exact HB1.out.trans (((Below.refl _ _).alloc (Nat.le_refl _) _ |>.mono HB1.out.size).trans (HB3.out.mono (Nat.le_trans HB1.out.size (by simp [World.iter]))))
  · have e : fitF (nl s) n = ((es.take (n - 1)).flatten ++ [126], 0) := by
      unfold fitF
      rw [if_neg (by omega), ← hes, if_neg (by omega)]
      simp
    rw [e]
    have h3d : ¬ ((es.length : Nat) : Int) ≤ (n : Int) := by omega
    have hni : (n : Int) ≤ 4096 := by omega
    have hn1 : (1 : Int) ≤ (n : Int) := by omega
    clear e hes
    go_enter Tryd.func29, Tryd.ntmps29
    go_wp2_with (first
      | (go_at_call 27; refine hsh.out.mono ?_; rintro e w1 ⟨t, rfl, ht, hb⟩; have HT1 := Lib.hid ht; have HB1 := Lib.hid hb; have hts := HLN.out _ ht; clear ht hb)
      | (go_at_call 59; refine (Tryd.utf8_RuneCountInString t _ (by have := HLN.out _ HT1.out; omega)).mono ?_; rintro e w2 ⟨rfl, pos, rfl⟩; rw [HCN.out _ HT1.out])
      | (fail))
    obtain ⟨W, hW⟩ : ∃ W, W = w1.iter t pos := ⟨_, rfl⟩
    have hbW : Below w.heap.size w W := by rw [hW]; exact HB1.out.trans ((Below.refl _ _).alloc (Nat.le_refl _) _ |>.mono HB1.out.size)
    rw [← hW]
    have HBW := Lib.hid hbW
    clear hW hbW
    go_loopw [8] (fun v wx => ∃ (k : Nat), v = .int .i64 k ∧ k + 1 ≤ n ∧ wx.heap[W.heap.size]? = some (.stringIter t (es.take k).flatten.length) ∧ Below w.heap.size w wx) (fun v _ => n - (intOf v).toNat)
    case atStart => exact ⟨0, rfl, by omega, World.iter_heap W t 0, HBW.out.alloc HBW.out.size _⟩
    case round =>
      obtain ⟨k, rfl, hk, hit, hb⟩ := hrel
      have hke : k < es.length := by omega
      obtain ⟨hp, hnext⟩ := run_dec HRU.out HT1.out hke
      have hple : ((es.take k).flatten.length : Int) ≤ t.size := by omega
      have hnx : ∀ ty, (Instr.next (.pointer (some ⟨W.heap.size, 0, none⟩)) true ty).run Tryd.prog wr = _ := fun ty => Lib.run_next_any_at wr W.heap.size t _ ty hit hp
      have hit2 := Lib.iterAt_heap wr W.heap.size t _ ((es.take k).flatten.length + (Utf8.decode t (es.take k).flatten.length).2) hit
      have hb2 := Lib.below_iterAt hb (k := W.heap.size) HBW.out.size t ((es.take k).flatten.length + (Utf8.decode t (es.take k).flatten.length).2)
      obtain ⟨W2, hW2⟩ : ∃ W2, wr.iterAt W.heap.size t ((es.take k).flatten.length + (Utf8.decode t (es.take k).flatten.length).2) = W2 := ⟨_, rfl⟩
      rw [hW2] at hnx hit2 hb2
      rw [Nat.add_comm, hnext] at hit2
      obtain ⟨R, hR⟩ : ∃ R, (Utf8.decode t (es.take k).flatten.length).1 = R := ⟨_, rfl⟩
      rw [hR] at hnx
      have hcut : nl (t.extract 0 (es.take k).flatten.length) = (es.take k).flatten := by
        rw [nl_extract, HT1.out, List.drop_zero, Nat.sub_zero]
        conv => lhs; rw [← List.take_append_drop k es, List.flatten_append]
        rw [List.take_left']
        · simp
      have HC := Lib.hid hcut
      have HI := Lib.hid hit2
      have HB2 := Lib.hid hb2
      obtain ⟨P, hP⟩ : ∃ P, (es.take k).flatten.length = P := ⟨_, rfl⟩
      rw [hP] at hnx hple
      have HP := Lib.hid hP
      clear hcut hit2 hb2 hit hb hW2 hR hnext hp hP
      by_cases hkn : k + 1 = n
      · have hki : ((k : Int) == (n : Int) - 1) = true := by simp; omega
        go_wp2
        go_ret2
        have hk2 : n - 1 = k := by omega
        exact ⟨_, rfl, by rw [nl_app, ← HP.out, HC.out, hk2]; rfl, HB2.out⟩
      · have hki : ((k : Int) == (n : Int) - 1) = false := by simp; omega
        go_wp2
        exact ⟨⟨k + 1, by go_num, by omega, HI.out, HB2.out⟩, by simp [intOf]; omega⟩
end Go.Proofs.YtfipljhlponcoaaDoor
