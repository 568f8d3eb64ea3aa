/- ref01.Show, ref01.Width, ref01.Fit: contracts. -/
import Derived.Test.YtfipljhlponcoaaDoorRJ
set_option linter.unusedVariables false
namespace Go.Proofs.YtfipljhlponcoaaDoor
open Go.RowKit
theorem flat_nl {ts : List ByteArray} {q : Int} {l : List Nat} (h : ts.map nl = shows q l) : (ts.map nl).flatten = (shows q l).flatten := by rw [h]
theorem runes_no (s : ByteArray) (hz : s.size ≤ 1048576) (w : World) :
    Calls Tryd.prog 53 #[.string s, .bool false] w fun e w' => ∃ A c ts, e = .returned (.slice A ts.length c) ∧ w'.ownsRow w.heap.size 9 1 (.slice A ts.length c) ts.length (sV ts) ∧ ts.map nl = shows 92 (nl s) ∧ (ts.length ≤ 4194304 ∧ ((ts.map nl).flatten.length ≤ 4194304)) ∧ Below w.heap.size w w' :=
  (runes_any s false hz w).mono fun e w' ⟨A, c, ts, h1, h2, h3, h4⟩ => ⟨A, c, ts, h1, h2, h3, by
    have hbd := shows_bd 92 (nl s) (nl_lt s)
    have h3' : ts.map nl = shows 92 (nl s) := h3
    have hl := nl_len s
    refine ⟨?_, by rw [h3']; omega⟩
    have hru : ∀ e ∈ ts.map nl, 1 ≤ e.length := fun e he => by
      rw [h3'] at he
      obtain ⟨r, _, rfl⟩ := all_rune _ _ _ (nl_lt s) e he
      exact (enc_len r).1
    have : ∀ es : List (List Nat), (∀ e ∈ es, 1 ≤ e.length) → es.length ≤ es.flatten.length := fun es => by
      induction es with
      | nil => simp
      | cons a t ih => intro h; have := ih (fun e he => h e (by simp [he])); have := h a (by simp); rw [List.flatten_cons, List.length_append, List.length_cons]; omega
    have := this _ hru
    rw [h3'] at this
    have e2 := congrArg List.length h3'
    rw [List.length_map] at e2
    omega, h4⟩
theorem sV_take (ts : List ByteArray) (k : Nat) : sV (ts.take k) = (sV ts).take k := by simp [sV]
theorem Seg.take {w : World} {B : Nat} {A : Option Addr} {xs : List Value} (h : Seg w B A xs) (k : Nat) : Seg w B A (xs.take k) := fun hx => by
  obtain ⟨b, off, e, hb, hc⟩ := h (fun e => hx (by rw [e]; simp))
  refine ⟨b, off, e, hb, fun j u hu => hc j u ?_⟩
  rcases Nat.lt_or_ge j k with hj | hj
  · rwa [List.getElem?_take_of_lt hj] at hu
  · rw [List.getElem?_eq_none (by rw [List.length_take]; omega)] at hu; cases hu
theorem flat_rep (j : Nat) : (List.replicate j [32]).flatten = List.replicate j 32 := by
  induction j with
  | zero => rfl
  | succ j ih => rw [List.replicate_succ, List.flatten_cons, ih, List.replicate_succ]; rfl
def lenV : Value → Nat
  | .slice _ k _ => k
  | _ => 0
theorem own_cap {w : World} {base size n : Nat} {e : TypeId} {A : Option Addr} {c : Nat} {xs : List Value} (h : w.ownsRow base e size (.slice A n c) n xs) : n ≤ c ∧ c ≤ maxLen := by
  rcases h.2 with ⟨h2, _⟩ | ⟨g, cap, cur, h2, _, _, h3, h4, _⟩
  · injection h2 with _ h3 h4; subst h3; subst h4; exact ⟨Nat.le_refl _, by unfold maxLen; omega⟩
  · injection h2 with _ _ h5; subst h5; exact ⟨h3, h4⟩
set_option maxRecDepth 100000 in
set_option maxHeartbeats 16000000 in
theorem rfit_any (s : ByteArray) (m : Int) (w : World) (hz : s.size ≤ 1048576) :
    Calls Tryd.prog 43 #[.string s, .int .i64 m] w fun e w' => ∃ t, e = .returned (.tuple #[.string t, .int .i64 (fitF (nl s) m).2]) ∧ nl t = (fitF (nl s) m).1 ∧ Below w.heap.size w w' := by
  have HR := Lib.hid (runes_no s hz w)
  by_cases h1 : m < 1
  · have e : fitF (nl s) m = ([], 1) := by unfold fitF; rw [if_pos (.inl h1)]
    rw [e]
    have h1d : decide (m < 1) = true := by simp [h1]
    go_enter Tryd.func43, Tryd.ntmps43
    go_wp2_with (fail)
    go_ret2
    exact ⟨_, rfl, rfl, Below.refl _ _⟩
  have h1d : decide (m < 1) = false := by simp [h1]
  by_cases h2 : 4096 < m
  · have e : fitF (nl s) m = ([], 1) := by unfold fitF; rw [if_pos (.inr h2)]
    rw [e]
    have h2d : decide (4096 < m) = true := by simp [h2]
    go_enter Tryd.func43, Tryd.ntmps43
    go_wp2_with (fail)
    go_ret2
    exact ⟨_, rfl, rfl, Below.refl _ _⟩
  have h2d : decide (4096 < m) = false := by simp [h2]
  obtain ⟨n, rfl⟩ : ∃ n : Nat, m = n := ⟨m.toNat, by omega⟩
  obtain ⟨i0, fi, fz0, fz1, fz2⟩ := info_parts info9
  by_cases h3 : (shows 92 (nl s)).length ≤ n
  · have e : fitF (nl s) n = ((shows 92 (nl s)).flatten ++ List.replicate (n - (shows 92 (nl s)).length) 32, 0) := by
      unfold fitF
      rw [if_neg (by omega), if_pos (by omega)]
      simp
    rw [e]
    have hni : (n : Int) ≤ 4096 := by omega
    have H3 := Lib.hid h3
    clear e h3
    go_enter Tryd.func43, Tryd.ntmps43
    go_wp2_with (first
      | (go_at_call 53; refine HR.out.mono ?_; rintro e w1 ⟨A1, c1, ts, rfl, hown, hnl, ⟨hl1, hl2⟩, hb⟩; have h3n := H3.out; rw [← hnl, List.length_map] at h3n; have h3d : decide (n < ts.length) = false := (by simp; omega); have h3e : ¬ ((n : Int) < (ts.length : Int)) := (by omega); have HO := Lib.hid hown; have HL := Lib.hid hl2; have HN := Lib.hid hnl; have HB := Lib.hid hb; clear hown hnl hl1 hl2 hb)
      | (fail))
    go_loopw [6] (fun v wx => ∃ (k j : Nat) (A : Option Addr) (c : Nat), k = ts.length + j ∧ k ≤ n ∧ v = .slice A k c ∧ wx.ownsRow w.heap.size 9 1 (.slice A k c) k (sV (ts ++ List.replicate j (⟨#[32]⟩ : ByteArray))) ∧ Below w.heap.size w wx) (fun v _ => n - lenV v)
    case atStart => exact ⟨ts.length, 0, A1, c1, rfl, h3n, rfl, by simpa using HO.out, HB.out⟩
    case round =>
      obtain ⟨k, j, A, c, hkj, hkn, rfl, hown, hb⟩ := hrel
      have HK := Lib.hid hkj
      have HO2 := Lib.hid hown
      have HB2 := Lib.hid hb
      have hbs := hb.size
      have m1 : k + 1 ≤ maxLen := by unfold maxLen; omega
      have m2 : (k + 1) * 16 ≤ 140737488355328 := by omega
      by_cases hlt : k < n
      · have hli : (k : Int) < (n : Int) := by omega
        clear hkj hown hb
        go_wp2_with (first
          | (at_builtin; refine wpList_append_seg _ rfl (.tmp 29) (.tmp 30) 33 rfl w.heap.size 9 i0 _ 1 16 Tryd.underlying33 fi fz0 fz1 fz2 rfl (by decide) (.slice A k c) k (sV (ts ++ List.replicate j (⟨#[32]⟩ : ByteArray))) rfl (World.ownsRow.alloc HO2.out _) (wr.heap.size + 1) (some ⟨wr.heap.size, 0, none⟩) 1 1 [.string ⟨#[32]⟩] rfl rfl (seg_new (e := 9) (cs := #[.string ⟨#[32]⟩])) (by simp [Value.oneCell']) m1 m2 (by rw [World.size_alloc]; omega) ?_
             intro v3 w3 hown3 hg3 _
             have hb3 : Below w.heap.size w w3 := (HB2.out.alloc hbs _).grown hg3 (by rw [World.size_alloc]; omega) (fun g hg => (HO2.out.lt g hg).1)
             obtain ⟨A3, c3, rfl⟩ := own_shape hown3
             have HO3 := Lib.hid hown3; have HB3 := Lib.hid hb3; clear hown3 hg3 hb3)
          | (fail))
        refine ⟨⟨k + 1, j + 1, A3, c3, by have := HK.out; omega, hlt, rfl, ?_, HB3.out⟩, by simp [lenV]; omega⟩
        have e : sV (ts ++ List.replicate (j + 1) (⟨#[32]⟩ : ByteArray)) = sV (ts ++ List.replicate j (⟨#[32]⟩ : ByteArray)) ++ [.string ⟨#[32]⟩] := by
          rw [List.replicate_succ', ← List.append_assoc, sV_app]; rfl
        rw [e]
        exact HO3.out
      · have hli : ¬ (k : Int) < (n : Int) := by omega
        obtain rfl : k = n := by omega
        have hfl : ((ts ++ List.replicate j (⟨#[32]⟩ : ByteArray)).map nl).flatten = (shows 92 (nl s)).flatten ++ List.replicate (k - (shows 92 (nl s)).length) 32 := by
          have hj : k - (shows 92 (nl s)).length = j := by rw [← HN.out, List.length_map]; omega
          rw [hj, List.map_append, List.flatten_append, HN.out, List.map_replicate]
          congr 1
          have : nl (⟨#[32]⟩ : ByteArray) = [32] := by decide
          rw [this]
          exact flat_rep j
        have J := Lib.hid (joined_any A c k (ts ++ List.replicate j (⟨#[32]⟩ : ByteArray)) (by simp; omega) (by omega) (by
          have := HL.out
          have e2 := HN.out
          rw [hfl, List.length_append, List.length_replicate]
          rw [e2] at this
          omega) wr (own_seg hown))
        have HFL := Lib.hid hfl
        clear hkj hown hb hfl
        go_wp2_with (first
          | (go_at_call 52; refine J.out.mono ?_; rintro e w2 ⟨t, rfl, hnt, hb2⟩; have HT := Lib.hid hnt; have HB3 := Lib.hid hb2; clear hnt hb2)
          | (fail))
        go_ret2
        exact ⟨t, rfl, by rw [HT.out, HFL.out], HB2.out.trans (HB3.out.mono HB2.out.size)⟩
  · have e : fitF (nl s) n = (((shows 92 (nl s)).take (n - 1)).flatten ++ [126], 0) := by
      unfold fitF
      rw [if_neg (by omega), if_neg (by omega)]
      simp
    rw [e]
    have hni : (n : Int) ≤ 4096 := by omega
    have hn1 : (1 : Int) ≤ (n : Int) := by omega
    have H3 := Lib.hid h3
    clear e h3
    go_enter Tryd.func43, Tryd.ntmps43
    go_wp2_with (first
      | (go_at_call 53; refine HR.out.mono ?_; rintro e w1 ⟨A1, c1, ts, rfl, hown, hnl, ⟨hl1, hl2⟩, hb⟩; have h3d : ((n : Int) < (ts.length : Int)) := (by have := H3.out; rw [← hnl, List.length_map] at this; omega); have hc := own_cap hown; have J := Lib.hid (joined_any A1 c1 (n - 1) (ts.take (n - 1)) (by rw [List.length_take]; omega) (by omega) (by have := flat_le (ts := ts) (n - 1); omega) w1 (by rw [sV_take]; exact (own_seg hown).take _)); have HO := Lib.hid hown; have HL := Lib.hid hl2; have HN := Lib.hid hnl; have HB := Lib.hid hb; clear hown hnl hl1 hl2 hb)
      | (go_at_call 52; refine J.out.mono ?_; rintro e w2 ⟨t, rfl, hnt, hb2⟩; have hts : t.size ≤ 4194304 := (by rw [← nl_len, hnt]; have := flat_le (ts := ts) (n - 1); have := HL.out; omega); have HT := Lib.hid hnt; have HB3 := Lib.hid hb2; clear hnt hb2)
      | (fail))
    go_ret2
    refine ⟨_, rfl, ?_, HB.out.trans (HB3.out.mono HB.out.size)⟩
    rw [nl_app, HT.out, List.map_take, HN.out]
    rfl
end Go.Proofs.YtfipljhlponcoaaDoor
