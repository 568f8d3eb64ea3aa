/- Line, both: contracts. -/
import Derived.Test.YtfipljhlponcoaaDoorLineQ
import Derived.Test.YtfipljhlponcoaaDoorLineBd
import Derived.Test.YtfipljhlponcoaaDoorLineW
set_option linter.unusedVariables false
namespace Go.Proofs.YtfipljhlponcoaaDoor
open Go.RowKit
theorem wN_len (l : List Nat) (hl : ∀ x ∈ l, x < 256) : (wN l).length ≤ 4 * l.length + 2 := by
  unfold wN
  split
  · omega
  · exact qt_len l hl
theorem wN_lt (l : List Nat) (hl : ∀ x ∈ l, x < 256) : ∀ x ∈ wN l, x < 256 := by
  unfold wN
  split
  · exact hl
  · intro x hx
    unfold qtN at hx
    rcases List.mem_cons.1 hx with rfl | hx
    · omega
    rcases List.mem_append.1 hx with hx | hx
    · exact shows_lt 34 l hl x hx
    · simp at hx; omega
theorem line_len : ∀ ls : List (List Nat), (∀ a ∈ ls, ∀ x ∈ a, x < 256) → (lineN ls).length ≤ 4 * ls.flatten.length + 3 * ls.length
  | [], _ => by simp [lineN]
  | a :: r, h => by
    have ht : ∀ r : List (List Nat), (∀ a ∈ r, ∀ x ∈ a, x < 256) → (tailN r).length ≤ 4 * r.flatten.length + 3 * r.length := fun r => by
      induction r with
      | nil => intro _; simp [tailN]
      | cons b t ih =>
        intro h
        have := ih fun x hx => h x (by simp [hx])
        have h1 := wN_len b (h b (by simp))
        have e : tailN (b :: t) = 32 :: wN b ++ tailN t := by simp [tailN]
        rw [e]
        simp only [List.flatten_cons, List.length_append, List.length_cons]
        omega
    have := ht r fun x hx => h x (by simp [hx])
    have h1 := wN_len a (h a (by simp))
    unfold lineN
    simp only [List.flatten_cons, List.length_append, List.length_cons]
    omega
theorem line_lt (ls : List (List Nat)) (h : ∀ a ∈ ls, ∀ x ∈ a, x < 256) : ∀ x ∈ lineN ls, x < 256 := by
  cases ls with
  | nil => simp [lineN]
  | cons a r =>
    intro x hx
    unfold lineN at hx
    rcases List.mem_append.1 hx with hx | hx
    · exact wN_lt a (h a (by simp)) x hx
    · unfold tailN at hx
      obtain ⟨e, he, hx⟩ := List.mem_flatten.1 hx
      obtain ⟨b, hb, rfl⟩ := List.mem_map.1 he
      rcases List.mem_cons.1 hx with rfl | hx
      · omega
      · exact wN_lt b (h b (by simp [hb])) x hx
/-- Texts of a size that all fits. -/
structure LSz (ts : List ByteArray) : Prop where
  one : ∀ t ∈ ts, t.size ≤ 1048576
  all : (ts.map nl).flatten.length + ts.length ≤ 4194304
theorem map_lt (ts : List ByteArray) : ∀ a ∈ ts.map nl, ∀ x ∈ a, x < 256 := fun a ha => by
  obtain ⟨t, _, rfl⟩ := List.mem_map.1 ha
  exact nl_lt t
theorem LSz.take {ts : List ByteArray} (h : LSz ts) (k : Nat) : (lineN ((ts.take k).map nl)).length ≤ 16777216 := by
  have h1 := line_len ((ts.take k).map nl) (map_lt _)
  have h2 := flat_le (ts := ts) k
  have h3 := h.all
  rw [List.length_map, List.length_take] at h1
  omega
theorem line_step {ts : List ByteArray} {k : Nat} (hk : k < ts.length) : lineN ((ts.take (k + 1)).map nl) = lineN ((ts.take k).map nl) ++ ((if k = 0 then [] else [32]) ++ wN (nl ts[k])) := by
  rw [List.take_succ_eq_append_getElem hk, List.map_append, List.map_cons, List.map_nil, lineN_snoc]
  congr 2
  rw [List.length_map, List.length_take, Nat.min_eq_left (by omega)]
theorem line_zero {ts : List ByteArray} {k : Nat} (hk : k < ts.length) (h0 : k = 0) : lineN ((ts.take (k + 1)).map nl) = lineN ((ts.take k).map nl) ++ wN (nl ts[k]) := by
  rw [line_step hk, if_pos h0, List.nil_append]
theorem line_more {ts : List ByteArray} {k : Nat} (hk : k < ts.length) (h0 : ¬ k = 0) : lineN ((ts.take (k + 1)).map nl) = (lineN ((ts.take k).map nl) ++ [32]) ++ wN (nl ts[k]) := by
  rw [line_step hk, if_neg h0, List.append_assoc]
theorem wN_yes {l : List Nat} (h : plainN l = true) : wN l = l := by unfold wN; rw [if_pos h]
theorem wN_no {l : List Nat} (h : plainN l = false) : wN l = qtN l := by unfold wN; rw [if_neg (by rw [h]; simp)]
theorem pplain_is (s : ByteArray) (b : Bool) (h : plainN (nl s) = b) (w : World) (hs : s.size ≤ 1048576) : Calls Tryd.prog 47 #[.string s] w fun e w' => e = .returned (.bool b) ∧ Below w.heap.size w w' := by
  rw [← h]
  exact pplain_any s w (by omega)
theorem rplain_is (s : ByteArray) (b : Bool) (h : plainN (nl s) = b) (w : World) (hs : s.size ≤ 1048576) : Calls Tryd.prog 50 #[.string s] w fun e w' => e = .returned (.bool b) ∧ w = w' := by
  rw [← h]
  exact rplain_any s w (by omega)
set_option maxRecDepth 100000 in
set_option maxHeartbeats 16000000 in
theorem pline_any (A : Option Addr) (c n : Nat) (ts : List ByteArray) (hn : n = ts.length) (hz : LSz ts) (w : World) (B : Nat) (hB : B ≤ w.heap.size) (hs : Seg w B A (sV ts)) :
    Calls Tryd.prog 20 #[.slice A n c] w fun e w' => ∃ t, e = .returned (.string t) ∧ nl t = lineN (ts.map nl) ∧ Below w.heap.size w w' := by
  have HS := Lib.hid hs
  have HN := Lib.hid hn
  have HZ := Lib.hid hz
  have hni : (n : Int) ≤ 4194304 := by have := hz.all; omega
  have bn := Lib.hid (bld_new w)
  have hb0 : Below w.heap.size w (w.alloc (.cells #[.pointer none, .slice none 0 0] 74)) := (Below.refl _ w).alloc (Nat.le_refl _) _
  have HB0 := Lib.hid hb0
  clear hs hn hz hb0
  go_enter Tryd.func20, Tryd.ntmps20
  go_wp2_with (fail)
  go_loopw [8] (fun iv wx => ∃ k : Nat, iv = .int .i64 k ∧ k ≤ n ∧ Bld w.heap.size w.heap.size (lineN ((ts.take k).map nl)) wx ∧ Below w.heap.size w wx) (fun iv _ => n - (intOf iv).toNat)
  case atStart => exact ⟨0, rfl, by omega, bn.out, HB0.out⟩
  case round =>
    obtain ⟨k, rfl, hk, hbl, hb⟩ := hrel
    have HB := Lib.hid hb
    have HL := Lib.hid hbl
    by_cases hlt : k < n
    · have hli : (k : Int) < (n : Int) := by omega
      have hkl : k < ts.length := by rw [← HN.out]; exact hlt
      obtain ⟨b, off, hA, x0⟩ := seg_str (HS.out.below (hb.mono hB)) hkl
      have h1 := HZ.out.one ts[k] (List.getElem_mem hkl)
      have l0 := line_zero hkl
      have l1 := line_more hkl
      have t1 := HZ.out.take (k + 1)
      have t0 := HZ.out.take k
      obtain ⟨t, ht⟩ : ∃ t, t = ts[k] := ⟨_, rfl⟩
      rw [← ht] at x0 h1 l0 l1
      obtain ⟨L1, hL1⟩ : ∃ L1, L1 = lineN ((ts.take (k + 1)).map nl) := ⟨_, rfl⟩
      obtain ⟨L0, hL0⟩ : ∃ L0, L0 = lineN ((ts.take k).map nl) := ⟨_, rfl⟩
      rw [← hL0, ← hL1] at l0 l1
      rw [← hL1] at t1
      rw [← hL0] at t0 hbl
      have HL0 := Lib.hid hbl
      have HE := Lib.hid hL1
      have hbs := HB.out.size
      have QT := Lib.hid fun W => pquote_any t W h1
      subst hA
      clear hbl hb ht hL1 hL0
      rcases Nat.eq_zero_or_pos k with h0 | h0
      · have L := Lib.hid (l0 h0)
        have WS := Lib.hid fun (u : ByteArray) (W : World) (hu : nl u = wN (nl t)) (h : Bld w.heap.size w.heap.size L0 W) (hB : w.heap.size ≤ W.heap.size) => wstr_any w.heap.size w.heap.size L0 u W h (by have := congrArg List.length L.out; rw [List.length_append, ← hu, nl_len] at this; omega) hB
        have hkd : decide (0 < k) = false := by simp; omega
        have HK0 := Lib.hid h0
        clear l0 l1 h0
        cases hp : plainN (nl t)
        · have PL := Lib.hid fun W => pplain_is t false hp W h1
          have WN := Lib.hid (wN_no hp)
          clear hp
          go_wp2_with (first
            | (go_at_call 47; refine (PL.out _).mono ?_; rintro e w1 ⟨rfl, hb1⟩
               have B1 := Lib.hid (HB.out.trans (hb1.mono hbs)); have L1' := Lib.hid (HL0.out.below hb1); clear hb1)
            | (go_at_call 22; refine (QT.out _).mono ?_; rintro e w2 ⟨u, rfl, hu, hb2⟩
               have B2 := Lib.hid (B1.out.trans (hb2.mono B1.out.size)); have L2' := Lib.hid (L1'.out.below hb2); have HU := Lib.hid hu; clear hb2 hu)
            | (go_at_call 48; refine (WS.out _ _ (by rw [WN.out]; exact HU.out) L2'.out B2.out.size).mono ?_; rintro e w3 ⟨rfl, hl3, hb3⟩
               have B3 := Lib.hid (B2.out.trans (hb3.mono (Nat.le_refl _))); have L3' := Lib.hid hl3; clear hb3 hl3)
            | fail)
          exact ⟨⟨k + 1, by go_num, hlt, by rw [← HE.out, L.out, WN.out, ← HU.out]; exact L3'.out, B3.out⟩, by simp [intOf]; omega⟩
        · have PL := Lib.hid fun W => pplain_is t true hp W h1
          have WN := Lib.hid (wN_yes hp)
          clear hp
          go_wp2_with (first
            | (go_at_call 47; refine (PL.out _).mono ?_; rintro e w1 ⟨rfl, hb1⟩
               have B1 := Lib.hid (HB.out.trans (hb1.mono hbs)); have L1' := Lib.hid (HL0.out.below hb1); clear hb1)
            | (go_at_call 48; refine (WS.out _ _ (by rw [WN.out]) L1'.out B1.out.size).mono ?_; rintro e w3 ⟨rfl, hl3, hb3⟩
               have B3 := Lib.hid (B1.out.trans (hb3.mono (Nat.le_refl _))); have L3' := Lib.hid hl3; clear hb3 hl3)
            | fail)
          exact ⟨⟨k + 1, by go_num, hlt, by rw [← HE.out, L.out, WN.out]; exact L3'.out, B3.out⟩, by simp [intOf]; omega⟩
      · have L := Lib.hid (l1 (by omega))
        have WS := Lib.hid fun (u : ByteArray) (W : World) (hu : nl u = wN (nl t)) (h : Bld w.heap.size w.heap.size (L0 ++ [32]) W) (hB : w.heap.size ≤ W.heap.size) => wstr_any w.heap.size w.heap.size (L0 ++ [32]) u W h (by have := congrArg List.length L.out; rw [List.length_append, ← hu, nl_len] at this; omega) hB
        have WB := Lib.hid fun (W : World) (h : Bld w.heap.size w.heap.size L0 W) (hB : w.heap.size ≤ W.heap.size) => wbyte_any w.heap.size w.heap.size L0 32 W h (by omega) hB
        have hkd : decide (0 < k) = true := by simpa using h0
        clear l0 l1
        cases hp : plainN (nl t)
        · have PL := Lib.hid fun W => pplain_is t false hp W h1
          have WN := Lib.hid (wN_no hp)
          clear hp
          go_wp2_with (first
            | (go_at_call 46; refine (WB.out _ HL0.out hbs).mono ?_; rintro e w0 ⟨rfl, hl0, hb0⟩
               have B0 := Lib.hid (HB.out.trans (hb0.mono (Nat.le_refl _))); have L0' := Lib.hid hl0; clear hb0 hl0)
            | (go_at_call 47; refine (PL.out _).mono ?_; rintro e w1 ⟨rfl, hb1⟩
               have B1 := Lib.hid (B0.out.trans (hb1.mono B0.out.size)); have L1' := Lib.hid (L0'.out.below hb1); clear hb1)
            | (go_at_call 22; refine (QT.out _).mono ?_; rintro e w2 ⟨u, rfl, hu, hb2⟩
               have B2 := Lib.hid (B1.out.trans (hb2.mono B1.out.size)); have L2' := Lib.hid (L1'.out.below hb2); have HU := Lib.hid hu; clear hb2 hu)
            | (go_at_call 48; refine (WS.out _ _ (by rw [WN.out]; exact HU.out) L2'.out B2.out.size).mono ?_; rintro e w3 ⟨rfl, hl3, hb3⟩
               have B3 := Lib.hid (B2.out.trans (hb3.mono (Nat.le_refl _))); have L3' := Lib.hid hl3; clear hb3 hl3)
            | fail)
          exact ⟨⟨k + 1, by go_num, hlt, by rw [← HE.out, L.out, WN.out, ← HU.out]; exact L3'.out, B3.out⟩, by simp [intOf]; omega⟩
        · have PL := Lib.hid fun W => pplain_is t true hp W h1
          have WN := Lib.hid (wN_yes hp)
          clear hp
          go_wp2_with (first
            | (go_at_call 46; refine (WB.out _ HL0.out hbs).mono ?_; rintro e w0 ⟨rfl, hl0, hb0⟩
               have B0 := Lib.hid (HB.out.trans (hb0.mono (Nat.le_refl _))); have L0' := Lib.hid hl0; clear hb0 hl0)
            | (go_at_call 47; refine (PL.out _).mono ?_; rintro e w1 ⟨rfl, hb1⟩
               have B1 := Lib.hid (B0.out.trans (hb1.mono B0.out.size)); have L1' := Lib.hid (L0'.out.below hb1); clear hb1)
            | (go_at_call 48; refine (WS.out _ _ (by rw [WN.out]) L1'.out B1.out.size).mono ?_; rintro e w3 ⟨rfl, hl3, hb3⟩
               have B3 := Lib.hid (B1.out.trans (hb3.mono (Nat.le_refl _))); have L3' := Lib.hid hl3; clear hb3 hl3)
            | fail)
          exact ⟨⟨k + 1, by go_num, hlt, by rw [← HE.out, L.out, WN.out]; exact L3'.out, B3.out⟩, by simp [intOf]; omega⟩
    · have hli : ¬ (k : Int) < (n : Int) := by omega
      obtain rfl : k = n := by omega
      have hfin : (ts.take k) = ts := List.take_of_length_le (by rw [HN.out]; exact Nat.le_refl _)
      rw [hfin] at hbl
      have BS := Lib.hid (bstr_any w.heap.size w.heap.size _ wr (line_lt _ (map_lt ts)) hbl HB.out.size)
      clear hb hfin hbl
      go_wp2_with (first
        | (go_at_call 49; refine BS.out.mono ?_; rintro e w1 ⟨t, rfl, ht, hb1⟩
           have B1 := Lib.hid (HB.out.trans hb1); have HT := Lib.hid ht; clear hb1 ht)
        | fail)
      go_ret
      exact ⟨t, rfl, HT.out, B1.out⟩
end Go.Proofs.YtfipljhlponcoaaDoor
