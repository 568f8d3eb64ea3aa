/- Quote, both: contracts. -/
import Derived.Test.YtfipljhlponcoaaDoorRFit
import Derived.Test.YtfipljhlponcoaaDoorLineB
set_option linter.unusedVariables false
namespace Go.Proofs.YtfipljhlponcoaaDoor
open Go.RowKit
theorem qt_nl {t : ByteArray} {l : List Nat} (h : nl t = (shows 34 l).flatten) : nl ((⟨#[34]⟩ : ByteArray) ++ t ++ ⟨#[34]⟩) = qtN l := by
  rw [nl_app, nl_app, h]
  rfl
theorem qt_len (l : List Nat) (hl : ∀ x ∈ l, x < 256) : (qtN l).length ≤ 4 * l.length + 2 := by
  unfold qtN
  have := shows_bd 34 l hl
  simp only [List.length_cons, List.length_append, List.length_nil]
  omega
theorem shows34_len (s : ByteArray) : (shows 34 (nl s)).flatten.length ≤ 4 * s.size := by
  have := shows_bd 34 (nl s) (nl_lt s)
  rwa [nl_len] at this
set_option maxRecDepth 100000 in
set_option maxHeartbeats 16000000 in
theorem pquote_any (s : ByteArray) (w : World) (hz : s.size ≤ 1048576) :
    Calls Tryd.prog 22 #[.string s] w fun e w' => ∃ t, e = .returned (.string t) ∧ nl t = qtN (nl s) ∧ Below w.heap.size w w' := by
  have hs := Lib.hid (shown_any s 34 (by omega) (by omega) w hz)
  have hbd := Lib.hid (shows34_len s)
  go_enter Tryd.func22, Tryd.ntmps22
  go_wp2_with (first
    | (go_at_call 51; refine hs.out.mono ?_; rintro e w1 ⟨A1, n1, c1, rfl, hown, hb⟩
       obtain ⟨t, ht, hnl⟩ := str_row (c := c1) hown.1 (own_seg hown.2) (shows_lt 34 (nl s) (nl_lt s))
       have hnl2 : nl t = (shows 34 (nl s)).flatten := hnl
       clear hnl
       have hts : t.size ≤ 4194304 := by rw [← nl_len, hnl2]; have := hbd.out; omega
       have HN := Lib.hid hnl2; have HB := Lib.hid hb; clear hnl2 hb hown)
    | (fail))
  go_ret
  exact ⟨_, rfl, qt_nl HN.out, HB.out⟩
theorem runes_qt (s : ByteArray) (hz : s.size ≤ 1048576) (w : World) :
    Calls Tryd.prog 53 #[.string s, .bool true] w fun e w' => ∃ A c ts, e = .returned (.slice A ts.length c) ∧ w'.ownsRow w.heap.size 9 1 (.slice A ts.length c) ts.length (sV ts) ∧ ts.map nl = shows 34 (nl s) ∧ (ts.length ≤ 4194304 ∧ ((ts.map nl).flatten.length ≤ 4194304)) ∧ Below w.heap.size w w' :=
  (runes_any s true hz w).mono fun e w' ⟨A, c, ts, h1, h2, h3, h4⟩ => ⟨A, c, ts, h1, h2, h3, by
    have hbd := shows_bd 34 (nl s) (nl_lt s)
    have h3' : ts.map nl = shows 34 (nl s) := h3
    have hl := nl_len s
    refine ⟨?_, by rw [h3']; omega⟩
    have hru : ∀ e ∈ ts.map nl, 1 ≤ e.length := fun e he => by
      rw [h3'] at he
      obtain ⟨r, _, rfl⟩ := all_rune _ _ _ (nl_lt s) e he
      exact (enc_len r).1
    have : ∀ es : List (List Nat), (∀ e ∈ es, 1 ≤ e.length) → es.length ≤ es.flatten.length := fun es => by
      induction es with
      | nil => simp
      | cons a t ih => intro h; have := ih (fun e he => h e (by simp [he])); have := h a (by simp); rw [List.flatten_cons, List.length_append, List.length_cons]; omega
    have := this _ hru
    rw [h3'] at this
    have e2 := congrArg List.length h3'
    rw [List.length_map] at e2
    omega, h4⟩
set_option maxRecDepth 100000 in
set_option maxHeartbeats 16000000 in
theorem rquote_any (s : ByteArray) (w : World) (hz : s.size ≤ 1048576) :
    Calls Tryd.prog 23 #[.string s] w fun e w' => ∃ t, e = .returned (.string t) ∧ nl t = qtN (nl s) ∧ Below w.heap.size w w' := by
  have HR := Lib.hid (runes_qt s hz w)
  go_enter Tryd.func23, Tryd.ntmps23
  go_wp2_with (first
    | (go_at_call 53; refine HR.out.mono ?_; rintro e w1 ⟨A1, c1, ts, rfl, hown, hnl, ⟨hl1, hl2⟩, hb⟩; have J := Lib.hid (joined_any A1 c1 ts.length ts rfl (by omega) (by omega) w1 (own_seg hown)); have HL := Lib.hid hl2; have HN := Lib.hid hnl; have HB := Lib.hid hb; clear hown hnl hl1 hl2 hb)
    | (go_at_call 52; refine J.out.mono ?_; rintro e w2 ⟨t, rfl, hnt, hb2⟩; have hts : t.size ≤ 4194304 := (by rw [← nl_len, hnt]; have := HL.out; omega); have HT := Lib.hid hnt; have HB3 := Lib.hid hb2; clear hnt hb2)
    | (fail))
  go_ret
  refine ⟨_, rfl, qt_nl ?_, HB.out.trans (HB3.out.mono HB.out.size)⟩
  rw [HT.out, HN.out]
end Go.Proofs.YtfipljhlponcoaaDoor
