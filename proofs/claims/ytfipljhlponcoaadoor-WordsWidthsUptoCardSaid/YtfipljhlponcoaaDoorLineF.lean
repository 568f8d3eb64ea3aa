/- ref01.Fields: the contract. -/
import Derived.Test.YtfipljhlponcoaaDoorLinePq
set_option linter.unusedVariables false
namespace Go.Proofs.YtfipljhlponcoaaDoor
open Go.RowKit
/-- What Fields answers: the words, in memory of its own; or that it is no line. -/
def FRet (base : Nat) (R : Option (List (List Nat))) (e : Ending) (w' : World) : Prop := match R with
  | none => e = .returned (.tuple #[.slice none 0 0, .int .i64 4])
  | some ls => ∃ A c ts, e = .returned (.tuple #[.slice A ts.length c, .int .i64 0]) ∧ w'.ownsRow base 9 1 (.slice A ts.length c) ts.length (sV ts) ∧ ts.map nl = ls
theorem slice_from (s : ByteArray) (a : Nat) (ha : a ≤ s.size) (W : World) : (Instr.slice 9 (.string s) (some (.int .i64 (a : Int))) none none).run Tryd.prog W = .ok (.string (s.extract a s.size)) W := by
  have h1 : (a : Int) ≤ (s.size : Int) := by omega
  have h3 : (0 : Int) ≤ (a : Int) := by omega
  go_simp
theorem nl_from (s : ByteArray) (a : Nat) : nl (s.extract a s.size) = (nl s).drop a := by
  rw [nl_extract, List.take_of_length_le (by rw [List.length_drop, nl_len]; omega)]
theorem flat_snoc (ts : List ByteArray) (t : ByteArray) : ((ts ++ [t]).map nl).flatten.length = (ts.map nl).flatten.length + t.size := by simp [nl_len]
theorem lsz_of {ts : List ByteArray} {N : Nat} (hN : N ≤ 1048576) (h1 : ∀ t ∈ ts, t.size ≤ N) (h2 : (ts.map nl).flatten.length + ts.length ≤ N + 1) : LSz ts := ⟨fun t ht => Nat.le_trans (h1 t ht) hN, by omega⟩
theorem own_bel {w w' : World} {base e size n : Nat} {v : Value} {xs : List Value} (h : w.ownsRow base e size v n xs) (hb : Below w.heap.size w w') : w'.ownsRow base e size v n xs := own_keep2 h fun g _ hlt => hb.block g hlt
theorem fld_yes {s : ByteArray} {ts : List ByteArray} (h : ts.map nl = rf (nl s)) (hl : lineN (ts.map nl) = nl s) : fldN (nl s) = some (ts.map nl) := by
  unfold fldN
  rw [← h, if_pos hl]
theorem fld_no {s : ByteArray} {ts : List ByteArray} (h : ts.map nl = rf (nl s)) (hl : lineN (ts.map nl) ≠ nl s) : fldN (nl s) = none := by
  unfold fldN
  rw [← h, if_neg hl]
theorem fret_yes {w' : World} {base n c : Nat} {A : Option Addr} {ts : List ByteArray} (hn : n = ts.length) (h : w'.ownsRow base 9 1 (.slice A n c) n (sV ts)) : FRet base (some (ts.map nl)) (.returned (.tuple #[.slice A n c, .int .i64 0])) w' := by
  subst hn
  exact ⟨A, c, ts, rfl, h, rfl⟩
set_option maxRecDepth 100000 in
set_option maxHeartbeats 16000000 in
theorem rfields_any (s : ByteArray) (w : World) (hs : s.size ≤ 1048576) :
    Calls Tryd.prog 24 #[.string s] w fun e w' => FRet w.heap.size (fldN (nl s)) e w' ∧ Below w.heap.size w w' := by
  obtain ⟨i0, fi, fz0, fz1, fz2⟩ := info_parts info9
  go_enter Tryd.func24, Tryd.ntmps24
  go_wp2_with fail
  go_loopw [4, 5] (fun v i wx => ∃ (k n c : Nat) (A : Option Addr) (ts : List ByteArray), v = .slice A n c ∧ i = .int .i64 k ∧ k ≤ s.size + 1 ∧ n = ts.length ∧ wx.ownsRow w.heap.size 9 1 (.slice A n c) n (sV ts) ∧ ts.map nl ++ rf ((nl s).drop k) = rf (nl s) ∧ (∀ t ∈ ts, t.size ≤ s.size) ∧ (ts.map nl).flatten.length + ts.length ≤ k ∧ Below w.heap.size w wx) (fun _ i _ => s.size - (intOf i).toNat)
  case atStart => exact ⟨0, 0, 0, none, [], rfl, rfl, by omega, rfl, World.ownsRow_nil _ _ _ _, rfl, by simp, by simp, Below.refl _ _⟩
  case round =>
    obtain ⟨k, n, c, A, ts, rfl, rfl, hk, hn, hown, hrf, h1, h2, hb⟩ := hrel
    have HO := Lib.hid hown
    have HB := Lib.hid hb
    have HR := Lib.hid hrf
    have HN := Lib.hid hn
    have H1 := Lib.hid h1
    have hnn : n ≤ 1048577 := by omega
    have hsz := HB.out.size
    clear hown hrf hb hn h1
    by_cases hlt : k < s.size
    · have hki : (k : Int) < (s.size : Int) := by omega
      have SF := slice_from s k (by omega) wr
      have WD := rword_any (s.extract k s.size) wr (by rw [ByteArray.size_extract]; omega)
      rw [nl_from] at WD
      have hstep := rf_step (dropn_ne hlt)
      have hwl := rword_len ((nl s).drop k)
      rw [List.drop_drop] at hstep
      rw [nl_dlen] at hwl
      obtain ⟨P, hP⟩ : ∃ P, P = rword ((nl s).drop k) := ⟨_, rfl⟩
      rw [← hP] at WD hstep hwl
      obtain ⟨W, m⟩ := P
      simp only at WD hstep hwl
      have HW := Lib.hid WD
      have HS := Lib.hid hstep
      have HWL := Lib.hid hwl.1
      have hm := hwl.2
      have m1 := Lib.hid (show n + 1 ≤ maxLen from by unfold maxLen; omega)
      have m2 := Lib.hid (show (n + 1) * 16 ≤ 140737488355328 from by omega)
      clear WD hstep hwl hP
      go_wp2_with (first
        | (go_at_call 54; refine HW.out.mono ?_; rintro e w1 ⟨t, rfl, ht, hb1⟩
           have HT := Lib.hid ht; have B1 := Lib.hid (HB.out.trans (hb1.mono hsz)); have O1 := Lib.hid (own_bel HO.out hb1); have hsz1 := B1.out.size; clear ht hb1)
        | (at_builtin; refine wpList_append_seg _ rfl (.tmp 19) (.tmp 21) 33 rfl w.heap.size 9 i0 _ 1 16 Tryd.underlying33 fi fz0 fz1 fz2 rfl (by decide) (.slice A n c) n (sV ts) rfl (World.ownsRow.alloc O1.out _) (w1.heap.size + 1) (some ⟨w1.heap.size, 0, none⟩) 1 1 [.string t] rfl rfl (seg_new (e := 9) (cs := #[.string t])) (by simp [Value.oneCell']) m1.out m2.out (by rw [World.size_alloc]; omega) ?_
           intro v3 w3 hown3 hg3 _
           have hb3 : Below w.heap.size w w3 := (B1.out.alloc hsz1 _).grown hg3 (by rw [World.size_alloc]; omega) (fun g hg => (O1.out.lt g hg).1)
           obtain ⟨A3, c3, rfl⟩ := own_shape hown3
           have HO3 := Lib.hid hown3; have HB3 := Lib.hid hb3; clear hown3 hg3 hb3)
        | fail)
      have hts : t.size ≤ m := by rw [← nl_len, HT.out]; exact HWL.out
      refine ⟨⟨k + m + 1, n + 1, c3, A3, ts ++ [t], rfl, by go_num, by omega, by rw [List.length_append, ← HN.out]; rfl, by rw [sV_app]; exact HO3.out, ?_, ?_, ?_, HB3.out⟩, by simp [intOf]; omega⟩
      · rw [← HR.out, HS.out, List.map_append, List.append_assoc, ← HT.out, Nat.add_assoc]
        rfl
      · intro u hu
        rcases List.mem_append.1 hu with hu | hu
        · exact H1.out u hu
        · obtain rfl : u = t := by simpa using hu
          omega
      · rw [flat_snoc, List.length_append]
        simp only [List.length_cons, List.length_nil]
        omega
    · have hki : ¬ (k : Int) < (s.size : Int) := by omega
      have hrf := HR.out
      rw [List.drop_of_length_le (by rw [nl_len]; omega), rf_nil, List.append_nil] at hrf
      have HZ : LSz ts := lsz_of hs H1.out (by omega)
      have RL := Lib.hid (rline_any A c n ts HN.out HZ wr wr.heap.size (Nat.le_refl _) (own_seg HO.out))
      have HRF := Lib.hid hrf
      clear hrf HZ h2
      have hLL := Lib.hid (line_len (ts.map nl) (map_lt ts))
      by_cases hl : lineN (ts.map nl) = nl s
      · have HF := Lib.hid (fld_yes HRF.out hl)
        have HLN := Lib.hid hl
        clear hl
        go_wp2_with (first
          | (go_at_call 21; refine RL.out.mono ?_; rintro e w1 ⟨t, rfl, ht, hb1⟩
             have hcmp : (t.toList == s.toList) = true := beq_iff_eq.2 (by rw [show t = s from nl_inj (by rw [ht, HLN.out])])
             have B1 := Lib.hid (HB.out.trans (hb1.mono hsz)); have O1 := Lib.hid (own_bel HO.out hb1); clear ht hb1)
          | fail)
        go_ret2
        refine ⟨?_, B1.out⟩
        rw [HF.out]
        exact fret_yes HN.out O1.out
      · have HF := Lib.hid (fld_no HRF.out hl)
        have HLN := Lib.hid hl
        clear hl
        go_wp2_with (first
          | (go_at_call 21; refine RL.out.mono ?_; rintro e w1 ⟨t, rfl, ht, hb1⟩
             have hcmp : (t.toList == s.toList) = false := (by
               rw [beq_eq_false_iff_ne]
               intro h
               rw [ByteArray.toList_eq, ByteArray.toList_eq] at h
               exact HLN.out (by rw [← ht]; unfold nl; rw [h]))
             have B1 := Lib.hid (HB.out.trans (hb1.mono hsz)); clear ht hb1)
          | fail)
        go_ret2
        refine ⟨?_, B1.out⟩
        rw [HF.out]
        rfl
end Go.Proofs.YtfipljhlponcoaaDoor
