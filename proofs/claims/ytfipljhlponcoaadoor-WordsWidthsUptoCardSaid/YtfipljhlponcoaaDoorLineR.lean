/- ref01.Line: the contract. -/
import Derived.Test.YtfipljhlponcoaaDoorLineL
set_option linter.unusedVariables false
namespace Go.Proofs.YtfipljhlponcoaaDoor
open Go.RowKit
theorem Own.below {w w' : World} {base n c : Nat} {A : Option Addr} {l : List Nat} (h : Own w base A n c l) (hb : Below w.heap.size w w') : Own w' base A n c l :=
  ⟨h.1, own_keep2 h.2 fun g _ hlt => hb.block g hlt⟩
set_option maxRecDepth 100000 in
set_option maxHeartbeats 16000000 in
theorem rline_any (A : Option Addr) (c n : Nat) (ts : List ByteArray) (hn : n = ts.length) (hz : LSz ts) (w : World) (B : Nat) (hB : B ≤ w.heap.size) (hs : Seg w B A (sV ts)) :
    Calls Tryd.prog 21 #[.slice A n c] w fun e w' => ∃ t, e = .returned (.string t) ∧ nl t = lineN (ts.map nl) ∧ Below w.heap.size w w' := by
  obtain ⟨i0, fi, fz0, fz1, fz2⟩ := info_parts Tryd.info5
  have HS := Lib.hid hs
  have HN := Lib.hid hn
  have HZ := Lib.hid hz
  have hni : (n : Int) ≤ 4194304 := by have := hz.all; omega
  clear hs hn hz
  go_enter Tryd.func21, Tryd.ntmps21
  go_wp2_with (fail)
  go_loopw [3, 4] (fun v iv wx => ∃ (k : Nat) (A' : Option Addr) (n' c' : Nat), iv = .int .i64 k ∧ k ≤ n ∧ v = .slice A' n' c' ∧ Own wx w.heap.size A' n' c' (lineN ((ts.take k).map nl)) ∧ Below w.heap.size w wx) (fun _ iv _ => n - (intOf iv).toNat)
  case atStart => exact ⟨0, none, 0, 0, rfl, by omega, rfl, ⟨rfl, World.ownsRow_nil _ _ _ _⟩, Below.refl _ _⟩
  case round =>
    obtain ⟨k, A', n', c', rfl, hk, rfl, hown, hb⟩ := hrel
    have HB := Lib.hid hb
    have HL := Lib.hid hown
    by_cases hlt : k < n
    · have hli : (k : Int) < (n : Int) := by omega
      have hkl : k < ts.length := by rw [← HN.out]; exact hlt
      obtain ⟨b, off, hA, x0⟩ := seg_str (HS.out.below (hb.mono hB)) hkl
      obtain ⟨_, _, hA', hBb, _⟩ := (HS.out.below (hb.mono hB)) (fun e => by have := sV_len ts; rw [e] at this; simp at this; omega)
      have hbB : b < B := by rw [hA] at hA'; injection hA' with hA'; injection hA' with h1; omega
      have XX := Lib.hid fun (W : World) (h : Below w.heap.size w W) => (by
        obtain ⟨b', off', hA2, x2⟩ := seg_str (HS.out.below (h.mono hB)) hkl
        rw [hA] at hA2
        injection hA2 with hA2
        injection hA2 with h1 h2
        subst h1
        subst h2
        exact x2 : W.cell? ⟨b, off + k, none⟩ = some (.string ts[k]))
      have h1 := HZ.out.one ts[k] (List.getElem_mem hkl)
      have l0 := line_zero hkl
      have l1 := line_more hkl
      have t1 := HZ.out.take (k + 1)
      have t0 := HZ.out.take k
      obtain ⟨t, ht⟩ : ∃ t, t = ts[k] := ⟨_, rfl⟩
      rw [← ht] at x0 h1 l0 l1 XX
      obtain ⟨L1, hL1⟩ : ∃ L1, L1 = lineN ((ts.take (k + 1)).map nl) := ⟨_, rfl⟩
      obtain ⟨L0, hL0⟩ : ∃ L0, L0 = lineN ((ts.take k).map nl) := ⟨_, rfl⟩
      rw [← hL0, ← hL1] at l0 l1
      rw [← hL1] at t1
      rw [← hL0] at t0 hown
      have HO := Lib.hid hown
      have HE := Lib.hid hL1
      have hbs := HB.out.size
      have hn' : n' ≤ 16777216 := by have := hown.1; omega
      have M := Lib.hid (show L1.length ≤ 16777216 from t1)
      have QT := Lib.hid fun W => rquote_any t W h1
      subst hA
      clear hb hown ht hL1 hL0 HL t1 t0 hA' hBb
      rcases Nat.eq_zero_or_pos k with h0 | h0
      · have L := Lib.hid (l0 h0)
        have hkd : decide (0 < k) = false := by simp; omega
        clear l0 l1 h0
        cases hp : plainN (nl t)
        · have PL := Lib.hid fun W => rplain_is t false hp W h1
          have L2 := Lib.hid (show L1 = L0 ++ qtN (nl t) from by rw [L.out, wN_no hp])
          clear hp
          go_wp2_with (first
            | (go_at_call 50; refine (PL.out _).mono ?_; rintro e w1 ⟨rfl, rfl⟩)
            | (go_at_call 23; refine (QT.out _).mono ?_; rintro e w2 ⟨u, rfl, hu, hb2⟩
               have B2 := Lib.hid (HB.out.trans (hb2.mono hbs)); have O2 := Lib.hid (HO.out.below hb2); have HU := Lib.hid hu
               have hus : n' + u.size ≤ 16777216 := (by have := M.out; rw [L2.out, List.length_append, ← hu, nl_len, ← HO.out.1] at this; exact this)
               have hbs2 := B2.out.size; clear hb2 hu)
            | (at_builtin; refine Lib.wpList_append_own_string _ rfl (.tmp 27) (.tmp 32) 72 9 rfl w.heap.size 5 i0 Tryd.underlying72 Tryd.underlying9 fi fz0 fz1 fz2 (.slice A' n' c') n' (bV L0) (by first | rfl | simp [Act.eval, Act.put]) O2.out.2 u (by first | rfl | simp [Act.eval, Act.put]) (by unfold maxLen; omega) (by omega) hbs2 ?_
               intro v' w3 h1 h2 _
               have hb3 : Below w.heap.size w w3 := B2.out.grown h2 hbs2 (fun g hg => (O2.out.2.lt g hg).1)
               rw [str_bV, ← nl_len u] at h1
               obtain ⟨A3, c3, rfl, hown3⟩ := own_more O2.out.1 rfl h1
               rw [show _ ++ nl u = L1 from (by rw [HU.out, ← L2.out])] at hown3
               have HO3 := Lib.hid hown3; have HB3 := Lib.hid hb3; clear h1 h2 hown3 hb3)
            | fail)
          exact ⟨⟨k + 1, A3, _, c3, by go_num, hlt, rfl, by rw [← HE.out]; exact HO3.out, HB3.out⟩, by simp [intOf]; omega⟩
        · have PL := Lib.hid fun W => rplain_is t true hp W h1
          have L2 := Lib.hid (show L1 = L0 ++ nl t from by rw [L.out, wN_yes hp])
          clear hp
          have hus : n' + t.size ≤ 16777216 := (by have := M.out; rw [L2.out, List.length_append, nl_len, ← HO.out.1] at this; exact this)
          go_wp2_with (first
            | (go_at_call 50; refine (PL.out _).mono ?_; rintro e w1 ⟨rfl, rfl⟩)
            | (at_builtin; refine Lib.wpList_append_own_string _ rfl (.tmp 21) (.tmp 25) 72 9 rfl w.heap.size 5 i0 Tryd.underlying72 Tryd.underlying9 fi fz0 fz1 fz2 (.slice A' n' c') n' (bV L0) (by first | rfl | simp [Act.eval, Act.put]) HO.out.2 t (by first | rfl | simp [Act.eval, Act.put]) (by unfold maxLen; omega) (by omega) hbs ?_
               intro v' w3 h1 h2 _
               have hb3 : Below w.heap.size w w3 := HB.out.grown h2 hbs (fun g hg => (HO.out.2.lt g hg).1)
               rw [str_bV, ← nl_len t] at h1
               obtain ⟨A3, c3, rfl, hown3⟩ := own_more HO.out.1 rfl h1
               rw [← L2.out] at hown3
               have HO3 := Lib.hid hown3; have HB3 := Lib.hid hb3; clear h1 h2 hown3 hb3)
            | fail)
          exact ⟨⟨k + 1, A3, _, c3, by go_num, hlt, rfl, by rw [← HE.out]; exact HO3.out, HB3.out⟩, by simp [intOf]; omega⟩
      · have L := Lib.hid (l1 (by omega))
        have hkd : decide (0 < k) = true := by simpa using h0
        clear l0 l1
        have m1 := Lib.hid (show n' + 1 ≤ maxLen from by unfold maxLen; omega)
        have m2 := Lib.hid (show (n' + 1) * 1 ≤ 140737488355328 from by omega)
        cases hp : plainN (nl t)
        · have PL := Lib.hid fun W => rplain_is t false hp W h1
          have L2 := Lib.hid (show L1 = (L0 ++ [32]) ++ qtN (nl t) from by rw [L.out, wN_no hp])
          clear hp
          go_wp2_with (first
            | (at_builtin; refine wpList_append_seg _ rfl (.tmp 13) (.tmp 14) 72 rfl w.heap.size 5 i0 _ 1 1 Tryd.underlying72 fi fz0 fz1 fz2 rfl (by decide) (.slice A' n' c') n' (bV L0) rfl (HO.out.2.alloc _) (wr.heap.size + 1) (some ⟨wr.heap.size, 0, none⟩) 1 1 [.int .u8 ((32 : Nat) : Int)] rfl rfl (seg_new (e := 5) (cs := #[.int .u8 ((32 : Nat) : Int)])) (by simp [Value.oneCell']) m1.out m2.out (by rw [World.size_alloc]; omega) ?_
               intro v0 w0 hown0 hg0 _
               have hb0 : Below w.heap.size w w0 := (HB.out.alloc hbs _).grown hg0 (by rw [World.size_alloc]; omega) (fun g hg => (HO.out.2.lt g hg).1)
               obtain ⟨A0, c0, rfl, ho0⟩ := own_snoc HO.out.1 hown0
               have x0' := XX.out w0 hb0
               have O0 := Lib.hid ho0; have B0 := Lib.hid hb0; have hbs0 := hb0.size; clear hown0 hg0 hb0 ho0)
            | (go_at_call 50; refine (PL.out _).mono ?_; rintro e w1 ⟨rfl, rfl⟩)
            | (go_at_call 23; refine (QT.out _).mono ?_; rintro e w2 ⟨u, rfl, hu, hb2⟩
               have B2 := Lib.hid (B0.out.trans (hb2.mono hbs0)); have O2 := Lib.hid (O0.out.below hb2); have HU := Lib.hid hu
               have hus : n' + 1 + u.size ≤ 16777216 := (by have := M.out; rw [L2.out, List.length_append, ← hu, nl_len, ← O0.out.1] at this; exact this)
               have hbs2 := B2.out.size; clear hb2 hu)
            | (at_builtin; refine Lib.wpList_append_own_string _ rfl (.tmp 27) (.tmp 32) 72 9 rfl w.heap.size 5 i0 Tryd.underlying72 Tryd.underlying9 fi fz0 fz1 fz2 (.slice A0 (n' + 1) c0) (n' + 1) (bV (L0 ++ [32])) (by first | rfl | simp [Act.eval, Act.put]) O2.out.2 u (by first | rfl | simp [Act.eval, Act.put]) (by unfold maxLen; omega) (by omega) hbs2 ?_
               intro v' w3 h1 h2 _
               have hb3 : Below w.heap.size w w3 := B2.out.grown h2 hbs2 (fun g hg => (O2.out.2.lt g hg).1)
               rw [str_bV, ← nl_len u] at h1
               obtain ⟨A3, c3, rfl, hown3⟩ := own_more O2.out.1 rfl h1
               rw [show _ ++ nl u = L1 from (by rw [HU.out, ← L2.out])] at hown3
               have HO3 := Lib.hid hown3; have HB3 := Lib.hid hb3; clear h1 h2 hown3 hb3)
            | fail)
          exact ⟨⟨k + 1, A3, _, c3, by go_num, hlt, rfl, by rw [← HE.out]; exact HO3.out, HB3.out⟩, by simp [intOf]; omega⟩
        · have PL := Lib.hid fun W => rplain_is t true hp W h1
          have L2 := Lib.hid (show L1 = (L0 ++ [32]) ++ nl t from by rw [L.out, wN_yes hp])
          clear hp
          have hus : n' + 1 + t.size ≤ 16777216 := (by have := M.out; rw [L2.out, List.length_append, List.length_append, nl_len, ← HO.out.1] at this; exact this)
          go_wp2_with (first
            | (at_builtin; refine wpList_append_seg _ rfl (.tmp 13) (.tmp 14) 72 rfl w.heap.size 5 i0 _ 1 1 Tryd.underlying72 fi fz0 fz1 fz2 rfl (by decide) (.slice A' n' c') n' (bV L0) rfl (HO.out.2.alloc _) (wr.heap.size + 1) (some ⟨wr.heap.size, 0, none⟩) 1 1 [.int .u8 ((32 : Nat) : Int)] rfl rfl (seg_new (e := 5) (cs := #[.int .u8 ((32 : Nat) : Int)])) (by simp [Value.oneCell']) m1.out m2.out (by rw [World.size_alloc]; omega) ?_
               intro v0 w0 hown0 hg0 _
               have hb0 : Below w.heap.size w w0 := (HB.out.alloc hbs _).grown hg0 (by rw [World.size_alloc]; omega) (fun g hg => (HO.out.2.lt g hg).1)
               obtain ⟨A0, c0, rfl, ho0⟩ := own_snoc HO.out.1 hown0
               have x0' := XX.out w0 hb0
               have O0 := Lib.hid ho0; have B0 := Lib.hid hb0; have hbs0 := hb0.size; clear hown0 hg0 hb0 ho0)
            | (go_at_call 50; refine (PL.out _).mono ?_; rintro e w1 ⟨rfl, rfl⟩)
            | (at_builtin; refine Lib.wpList_append_own_string _ rfl (.tmp 21) (.tmp 25) 72 9 rfl w.heap.size 5 i0 Tryd.underlying72 Tryd.underlying9 fi fz0 fz1 fz2 (.slice A0 (n' + 1) c0) (n' + 1) (bV (L0 ++ [32])) (by first | rfl | simp [Act.eval, Act.put]) O0.out.2 t (by first | rfl | simp [Act.eval, Act.put]) (by unfold maxLen; omega) (by omega) hbs0 ?_
               intro v' w3 h1 h2 _
               have hb3 : Below w.heap.size w w3 := B0.out.grown h2 hbs0 (fun g hg => (O0.out.2.lt g hg).1)
               rw [str_bV, ← nl_len t] at h1
               obtain ⟨A3, c3, rfl, hown3⟩ := own_more O0.out.1 rfl h1
               rw [← L2.out] at hown3
               have HO3 := Lib.hid hown3; have HB3 := Lib.hid hb3; clear h1 h2 hown3 hb3)
            | fail)
          exact ⟨⟨k + 1, A3, _, c3, by go_num, hlt, rfl, by rw [← HE.out]; exact HO3.out, HB3.out⟩, by simp [intOf]; omega⟩
    · have hli : ¬ (k : Int) < (n : Int) := by omega
      obtain rfl : k = n := by omega
      have hfin : (ts.take k) = ts := List.take_of_length_le (by rw [HN.out]; exact Nat.le_refl _)
      rw [hfin] at hown
      obtain ⟨t, ht, hnt⟩ := str_row (c := c') hown.1 (own_seg hown.2) (line_lt _ (map_lt ts))
      have HNT := Lib.hid hnt
      clear hb hown hfin hnt HL
      go_wp2
      go_ret
      exact ⟨t, rfl, HNT.out, HB.out⟩
end Go.Proofs.YtfipljhlponcoaaDoor
