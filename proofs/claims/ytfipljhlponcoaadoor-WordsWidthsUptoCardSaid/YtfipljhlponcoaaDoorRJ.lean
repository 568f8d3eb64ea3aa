/- ref01.runes, ref01.joined: contracts. -/
import Derived.Test.YtfipljhlponcoaaDoorRSh
set_option linter.unusedVariables false
namespace Go.Proofs.YtfipljhlponcoaaDoor
open Go.RowKit
theorem pc_cell {ps : List (ByteArray × Int)} {k : Nat} (h : k < ps.length) : (pcCells ps)[k * 2]? = some (.string ps[k].1) ∧ (pcCells ps)[k * 2 + 1]? = some (.int .i32 ps[k].2) := by
  induction ps generalizing k with
  | nil => simp at h
  | cons p t ih =>
    have e : pcCells (p :: t) = .string p.1 :: .int .i32 p.2 :: pcCells t := rfl
    rw [e]
    cases k with
    | zero => exact ⟨rfl, rfl⟩
    | succ k =>
      have := ih (k := k) (by simp at h; omega)
      rw [show (k + 1) * 2 = k * 2 + 2 by omega]
      exact this
theorem seg_pc {w : World} {B : Nat} {A : Option Addr} {ps : List (ByteArray × Int)} (h : Seg w B A (pcCells ps)) {k : Nat} (hk : k < ps.length) : ∃ b off, A = some ⟨b, off, none⟩ ∧ w.cell? ⟨b, off + k * 2, none⟩ = some (.string ps[k].1) ∧ w.cell? ⟨b, off + k * 2 + 1, none⟩ = some (.int .i32 ps[k].2) := by
  obtain ⟨b, off, e, hb, hc⟩ := h (fun e => by have := pcCells_len ps; rw [e] at this; simp at this; omega)
  exact ⟨b, off, e, hc _ _ (pc_cell hk).1, by rw [Nat.add_assoc]; exact hc _ _ (pc_cell hk).2⟩
theorem pieces_sz (s : ByteArray) (pos : Nat) : ∀ p ∈ pieces s pos, p.1.size ≤ 4 := by
  induction h : s.size - pos using Nat.strongRecOn generalizing pos with
  | ind k ih =>
    by_cases hlt : pos < s.size
    · have hc := cut_pos hlt
      have hcl := cut_len (drop_lt (nl_lt s) pos) (drop_ne hlt)
      intro p hp
      rw [pieces_cons hlt] at hp
      rcases List.mem_cons.1 hp with rfl | hp
      · show (s.extract _ _).size ≤ 4
        rw [ByteArray.size_extract]; omega
      · exact ih _ (by omega) _ rfl p hp
    · rw [pieces_nil hlt]; simp
theorem elems_bd16 (q : Int) (p : ByteArray × Int) (h : p.1.size ≤ 4) : (elemsOf q (p.2, nl p.1)).length ≤ 16 := by
  unfold elemsOf
  have : ((nl p.1).flatMap escB).length = 4 * (nl p.1).length := by
    induction (nl p.1) with
    | nil => rfl
    | cons a t ih => rw [List.flatMap_cons, List.length_append, ih]; simp [escB]; omega
  have := nl_len p.1
  split
  · simp only; omega
  · split <;> simp
theorem own_mono {w : World} {base base' size n : Nat} {e : TypeId} {v : Value} {xs : List Value} (h : w.ownsRow base e size v n xs) (hb : base' ≤ base) : w.ownsRow base' e size v n xs := by
  refine ⟨h.1, ?_⟩
  rcases h.2 with h2 | ⟨g, cap, cur, a1, a2, a3, a4⟩
  · exact .inl h2
  · exact .inr ⟨g, cap, cur, a1, Nat.le_trans hb a2, a3, a4⟩
theorem sV_app (a b : List ByteArray) : sV (a ++ b) = sV a ++ sV b := by simp [sV]
theorem own_str {w : World} {base : Nat} {v : Value} {ts us : List ByteArray} (h : w.ownsRow base 9 1 v (ts.length + us.length) (sV ts ++ sV us)) : ∃ A c, v = .slice A (ts ++ us).length c ∧ w.ownsRow base 9 1 (.slice A (ts ++ us).length c) (ts ++ us).length (sV (ts ++ us)) := by
  obtain ⟨A, c, rfl⟩ := own_shape h
  rw [List.length_append, sV_app]
  exact ⟨A, c, rfl, h⟩
set_option maxRecDepth 100000 in
set_option maxHeartbeats 16000000 in
theorem runes_any (s : ByteArray) (qb : Bool) (hz : s.size ≤ 1048576) (w : World) :
    Calls Tryd.prog 53 #[.string s, .bool qb] w fun e w' => ∃ A c ts, e = .returned (.slice A ts.length c) ∧ w'.ownsRow w.heap.size 9 1 (.slice A ts.length c) ts.length (sV ts) ∧ ts.map nl = shows (qOf qb) (nl s) ∧ Below w.heap.size w w' := by
  obtain ⟨i0, fi, fz0, fz1, fz2⟩ := info_parts info9
  have HPC := Lib.hid (pieces_any s hz w)
  have hpl := pieces_len s 0
  rw [Nat.sub_zero] at hpl
  have HSH := Lib.hid (pieces_shows (qOf qb) s 0 (by omega))
  have HSZ := Lib.hid (pieces_sz s 0)
  obtain ⟨ps, hps⟩ : ∃ ps, pieces s 0 = ps := ⟨_, rfl⟩
  rw [hps] at HPC hpl HSH HSZ
  have hpn : (ps.length : Int) ≤ 1048576 := by omega
  clear hps
  go_enter Tryd.func53, Tryd.ntmps53
  go_wp2_with (first
    | (go_at_call 75; refine HPC.out.mono ?_; rintro e W1 ⟨A1, c1, rfl, hown, hb⟩; have hseg := own_seg hown; have S1 := Lib.hid hseg; have B1 := Lib.hid hb; clear hown hb hseg)
    | (fail))
  go_loopw [5, 7] (fun v iv wx => ∃ (k : Nat) (A : Option Addr) (c : Nat) (ts : List ByteArray), iv = .int .i64 k ∧ k ≤ ps.length ∧ v = .slice A ts.length c ∧ ts.length ≤ 16 * k ∧ wx.ownsRow W1.heap.size 9 1 (.slice A ts.length c) ts.length (sV ts) ∧ ts.map nl = (ps.take k).flatMap (fun p => elemsOf (qOf qb) (p.2, nl p.1)) ∧ Below W1.heap.size W1 wx) (fun _ iv _ => ps.length - (intOf iv).toNat)
  case atStart => exact ⟨0, none, 0, [], rfl, by omega, rfl, by simp, World.ownsRow_nil _ _ _ _, rfl, Below.refl _ _⟩
  case round =>
    obtain ⟨k, A, c, ts, rfl, hk, rfl, hts, hown, hnl, hb⟩ := hrel
    have HB := Lib.hid hb
    have HO := Lib.hid hown
    have HN := Lib.hid hnl
    have HT := Lib.hid hts
    by_cases hlt : k < ps.length
    · have hli : (k : Int) < (ps.length : Int) := by omega
      obtain ⟨b, off, hA, x0, x1⟩ := seg_pc (S1.out.below hb) hlt
      obtain ⟨P, hP⟩ : ∃ P, P = ps[k] := ⟨_, rfl⟩
      rw [← hP] at x0 x1
      have hsz4 : P.1.size ≤ 4 := HSZ.out P (by rw [hP]; exact List.getElem_mem _)
      obtain ⟨p, r⟩ := P
      have HPK := Lib.hid hP
      have hbd := elems_bd16 (qOf qb) (p, r) hsz4
      have HSN := Lib.hid (fun W => rshown_any p r qb hsz4 W)
      subst hA
      clear hb hown hnl hts hP
      go_wp2_with (first
        | (go_at_call 76; refine (HSN.out _).mono ?_; rintro e w2 ⟨A2, c2, us, rfl, hseg2, hun, hb2⟩
           have hul : us.length ≤ 16 := by have := congrArg List.length hun; rw [List.length_map] at this; omega
           have HS2 := Lib.hid hseg2; have HU := Lib.hid hun; have HB2 := Lib.hid hb2; have HO2 := Lib.hid (own_below HO.out hb2)
           have m1 : ts.length + us.length ≤ maxLen := by have := HT.out; unfold maxLen; omega
           have m2 : (ts.length + us.length) * 16 ≤ 140737488355328 := by have := HT.out; omega
           have m3 : W1.heap.size ≤ w2.heap.size := Nat.le_trans HB.out.size hb2.size
           clear hseg2 hun hb2)
        | (at_builtin; refine wpList_append_seg _ rfl (.tmp 16) (.tmp 22) 33 rfl W1.heap.size 9 i0 _ 1 16 Tryd.underlying33 fi fz0 fz1 fz2 rfl (by decide) (.slice A ts.length c) ts.length (sV ts) rfl HO2.out w2.heap.size A2 us.length c2 (sV us) rfl (by rw [sV_len, Nat.mul_one]) HS2.out (sV_one us) m1 m2 m3 ?_
           intro v3 w3 hown3 hg3 _
           have hb3 : Below W1.heap.size W1 w3 := (HB.out.trans (HB2.out.mono HB.out.size)).grown hg3 m3 (fun g hg => (HO2.out.lt g hg).1)
           obtain ⟨A3, c3, rfl, hown4⟩ := own_str hown3
           have HO3 := Lib.hid hown4; have HB3 := Lib.hid hb3; clear hown3 hg3 hb3 hown4)
        | (fail))
      refine ⟨⟨k + 1, A3, c3, ts ++ us, by go_num, hlt, by simp, ?_, HO3.out, ?_, HB3.out⟩, by simp [intOf]; omega⟩
      · rw [List.length_append]; have := HT.out; omega
      · rw [List.map_append, HN.out, HU.out, List.take_succ_eq_append_getElem hlt, ← HPK.out, List.flatMap_append]
        simp
    · have hli : ¬ (k : Int) < (ps.length : Int) := by omega
      obtain rfl : k = ps.length := by omega
      clear hb hown hnl hts
      go_wp2
      go_ret
      refine ⟨A, c, ts, rfl, own_mono HO.out B1.out.size, ?_, B1.out.trans (HB.out.mono B1.out.size)⟩
      rw [HN.out, List.take_of_length_le (Nat.le_refl _), HSH.out]; rfl
theorem seg_str {w : World} {B : Nat} {A : Option Addr} {ts : List ByteArray} (h : Seg w B A (sV ts)) {k : Nat} (hk : k < ts.length) : ∃ b off, A = some ⟨b, off, none⟩ ∧ w.cell? ⟨b, off + k, none⟩ = some (.string ts[k]) := by
  obtain ⟨b, off, e, hb, hc⟩ := h (fun e => by have := sV_len ts; rw [e] at this; simp at this; omega)
  exact ⟨b, off, e, hc _ _ (by simp [sV, hk])⟩
theorem flat_take {ts : List ByteArray} {k : Nat} (h : k < ts.length) : ((ts.take (k + 1)).map nl).flatten = ((ts.take k).map nl).flatten ++ nl ts[k] := by
  rw [List.take_succ_eq_append_getElem h, List.map_append, List.flatten_append]
  simp
theorem flat_le {ts : List ByteArray} (k : Nat) : ((ts.take k).map nl).flatten.length ≤ (ts.map nl).flatten.length := by
  conv => rhs; rw [← List.take_append_drop k ts, List.map_append, List.flatten_append, List.length_append]
  omega
theorem flat_lt (ts : List ByteArray) : ∀ x ∈ (ts.map nl).flatten, x < 256 := fun x hx => by
  obtain ⟨l, hl, hx⟩ := List.mem_flatten.1 hx
  obtain ⟨t, _, rfl⟩ := List.mem_map.1 hl
  exact nl_lt t x hx
set_option maxRecDepth 100000 in
set_option maxHeartbeats 16000000 in
theorem joined_any (A : Option Addr) (c n : Nat) (ts : List ByteArray) (hn : n = ts.length) (hn2 : n ≤ 100000000) (hz : (ts.map nl).flatten.length ≤ 100000000) (w : World) (hs : Seg w w.heap.size A (sV ts)) :
    Calls Tryd.prog 52 #[.slice A n c] w fun e w' => ∃ t, e = .returned (.string t) ∧ nl t = (ts.map nl).flatten ∧ Below w.heap.size w w' := by
  obtain ⟨i0, fi, fz0, fz1, fz2⟩ := info_parts Tryd.info5
  have S1 := Lib.hid hs
  have HN := Lib.hid hn
  have HZ := Lib.hid hz
  have hni : (n : Int) ≤ 100000000 := by omega
  clear hs hn hz
  go_enter Tryd.func52, Tryd.ntmps52
  go_wp2_with (fail)
  go_loopw [3, 4] (fun v iv wx => ∃ (k : Nat) (A' : Option Addr) (n' c' : Nat), iv = .int .i64 k ∧ k ≤ n ∧ v = .slice A' n' c' ∧ Own wx w.heap.size A' n' c' ((ts.take k).map nl).flatten ∧ Below w.heap.size w wx) (fun _ iv _ => n - (intOf iv).toNat)
  case atStart => exact ⟨0, none, 0, 0, rfl, by omega, rfl, ⟨rfl, World.ownsRow_nil _ _ _ _⟩, Below.refl _ _⟩
  case round =>
    obtain ⟨k, A', n', c', rfl, hk, rfl, hown, hb⟩ := hrel
    have HB := Lib.hid hb
    have HO := Lib.hid hown
    by_cases hlt : k < n
    · have hli : (k : Int) < (n : Int) := by omega
      obtain ⟨b, off, hA, x0⟩ := seg_str (S1.out.below hb) (k := k) (by rw [← HN.out]; exact hlt)
      obtain ⟨t, ht⟩ : ∃ t, t = ts[k]'(by rw [← HN.out]; exact hlt) := ⟨_, rfl⟩
      rw [← ht] at x0
      have hft := flat_take (ts := ts) (k := k) (by rw [← HN.out]; exact hlt)
      rw [← ht] at hft
      have hle := flat_le (ts := ts) (k + 1)
      rw [hft, List.length_append, nl_len] at hle
      have hn' := hown.1
      have hbd : n' + t.size ≤ 100000000 := by have := HZ.out; omega
      have hbs := HB.out.size
      have HF := Lib.hid hft
      subst hA
      clear hb hown ht hft hle hn'
      go_wp2_with (first
        | (at_builtin; refine Lib.wpList_append_own_string _ rfl (.tmp 11) (.tmp 15) 72 9 rfl w.heap.size 5 i0 Tryd.underlying72 Tryd.underlying9 fi fz0 fz1 fz2 (.slice A' n' c') n' (bV ((ts.take k).map nl).flatten) (by first | rfl | simp [Act.eval, Act.put]) HO.out.2 t (by first | rfl | simp [Act.eval, Act.put]) (by unfold maxLen; omega) (by omega) hbs ?_
           intro v' w3 h1 h2 _
           have hb3 : Below w.heap.size w w3 := HB.out.grown h2 hbs (fun g hg => (HO.out.2.lt g hg).1)
           rw [str_bV, ← nl_len t] at h1
           obtain ⟨A3, c3, rfl, hown3⟩ := own_more HO.out.1 rfl h1
           rw [← HF.out] at hown3
           have HO3 := Lib.hid hown3; have HB3 := Lib.hid hb3; clear h1 h2 hown3 hb3)
        | (fail))
      exact ⟨⟨k + 1, A3, _, c3, by go_num, hlt, rfl, HO3.out, HB3.out⟩, by simp [intOf]; omega⟩
    · have hli : ¬ (k : Int) < (n : Int) := by omega
      obtain rfl : k = n := by omega
      have hfin : ((ts.take k).map nl).flatten = (ts.map nl).flatten := by rw [List.take_of_length_le (by rw [HN.out]; exact Nat.le_refl _)]
      rw [hfin] at hown
      obtain ⟨t, ht, hnt⟩ := str_row (c := c') hown.1 (own_seg hown.2) (flat_lt ts)
      have HNT := Lib.hid hnt
      clear hb hown hfin hnt
      go_wp2
      go_ret
      exact ⟨t, rfl, HNT.out, HB.out⟩
end Go.Proofs.YtfipljhlponcoaaDoor
