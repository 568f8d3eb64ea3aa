/- What a node says that it is; lists compared: the contracts. -/
import Derived.Test.YtmdnbajbfnhecaaDoorAV
import Derived.Test.YtmdnbajbfnhecaaDoorAK
set_option linter.unusedVariables false
namespace Go.Proofs.YtmdnbajbfnhecaaDoor
open Go.RowKit
/-- What a node says that it is. -/
def saysL (ps : List Pr) : List (List UInt8) := (textsL (valS ps kCo).data.toList).getD []
def compL (l : List Nd) (i : Int) : List (List UInt8) := if wrongF l i = 0 then saysL (holdF.propsAt l i.toNat) else []
/-- A list of texts, as it lies. -/
def TxAt (w : World) (A : Option Addr) (m : Nat) (ts : List (List UInt8)) : Prop := ∃ bs : List ByteArray, m = bs.length ∧ Seg w w.heap.size A (strV bs) ∧ bs.map (·.data.toList) = ts
theorem TxAt.nil (w : World) (A : Option Addr) : TxAt w A 0 [] := ⟨[], rfl, Seg.nil, rfl⟩
theorem TxAt.below {w w' : World} {A : Option Addr} {m : Nat} {ts : List (List UInt8)} (h : TxAt w A m ts) (hb : Below w.heap.size w w') : TxAt w' A m ts := by
  obtain ⟨bs, h1, h2, h3⟩ := h
  exact ⟨bs, h1, (h2.below hb).more hb.size, h3⟩
theorem bytes_inj : ∀ {a b : List ByteArray}, a.map (·.data.toList) = b.map (·.data.toList) → a = b
  | [], [], _ => rfl
  | [], _ :: _, h => by simp at h
  | _ :: _, [], h => by simp at h
  | x :: a, y :: b, h => by
    simp only [List.map_cons, List.cons.injEq] at h
    rw [bytes_eq h.1, bytes_inj h.2]
theorem texts_none {v : ByteArray} {F : Nat} {w : World} (hT : textsL v.data.toList = none) (H : Calls Tryd.prog F #[.string v] w fun e w' => TextsR v e w' ∧ Below w.heap.size w w') :
    Calls Tryd.prog F #[.string v] w fun e w' => e = .returned (.tuple #[.slice none 0 0, .int .i64 4]) ∧ Below w.heap.size w w' := by
  unfold TextsR at H
  rw [hT] at H
  exact H
theorem texts_some {v : ByteArray} {F : Nat} {w : World} {ts : List (List UInt8)} (hT : textsL v.data.toList = some ts) (H : Calls Tryd.prog F #[.string v] w fun e w' => TextsR v e w' ∧ Below w.heap.size w w') :
    Calls Tryd.prog F #[.string v] w fun e w' => (∃ (A : Option Addr) (c m : Nat), e = .returned (.tuple #[.slice A m c, .int .i64 0]) ∧ TxAt w' A m ts) ∧ Below w.heap.size w w' := by
  unfold TextsR at H
  rw [hT] at H
  refine H.mono fun e w' h => ?_
  obtain ⟨⟨A, c, m, bs, he, hm, hs, hd⟩, hb⟩ := h
  exact ⟨⟨A, c, m, he, bs, hm, hs, hd⟩, hb⟩
theorem val_no {ps : List Pr} {k : ByteArray} (h : valB ps k = false) : valS ps k = ByteArray.empty := by
  unfold valB at h
  unfold valS
  cases hv : valF ps k with
  | none => rfl
  | some x => rw [hv] at h; cases h
set_option maxRecDepth 100000 in
set_option maxHeartbeats 4000000 in
theorem says_any (p : Int) (s : ByteArray) (A : Option Addr) (c m : Nat) (ps : List Pr) (hm : m = ps.length) (hz : m * 32 ≤ 140737488355328) (hv : ∀ y ∈ ps, y.v.size ≤ 1048576) (w : World) (B : Nat) (hB : B ≤ w.heap.size) (hs : Seg w B A (prCells ps)) :
    Calls Tryd.prog 76 #[.agg #[.int .i64 p, .string s, .slice A m c]] w fun e w' => (∃ (A' : Option Addr) (c' m' : Nat), e = .returned (.slice A' m' c') ∧ TxAt w' A' m' (saysL ps)) ∧ Below w.heap.size w w' := by
  have hb0 : Below w.heap.size w (w.alloc (.cells #[.int .i64 p, .string s, .slice A m c] 43)) := (Below.refl _ w).alloc (Nat.le_refl _) _
  have V := rvalue_any p s A c m ps hm hz kCo _ B (Nat.le_trans hB hb0.size) (hs.below (hb0.mono hB))
  have T := fun w1 => rtexts_any (valS ps kCo) (val_le hv) w1
  have hno := @val_no ps kCo
  have e0 : saysL ps = (textsL (valS ps kCo).data.toList).getD [] := rfl
  rw [e0]
  generalize valS ps kCo = vs at *
  generalize valB ps kCo = vb at *
  have hvb : vb = false → textsL vs.data.toList = some [] := fun h => by rw [hno h]; rfl
  have HV := Lib.hid V
  have HB0 := Lib.hid hb0
  have hs0 := hb0.size
  clear V hb0 hm hs e0 hno
  cases hT : textsL vs.data.toList with
  | none =>
    have ht := fun w1 => texts_none hT (T w1)
    have HT := Lib.hid ht
    clear ht T hT hvb
    show Calls _ _ _ _ fun e w' => (∃ (A' : Option Addr) (c' m' : Nat), e = .returned (.slice A' m' c') ∧ TxAt w' A' m' []) ∧ _
    rcases vb with _ | _
    · go_enter Tryd.func76, Tryd.ntmps76
      go_wp2_with (first
        | (go_at_call 38; refine HV.out.mono ?_; rintro e w1 ⟨rfl, hb1⟩; have HB1 := Lib.hid (HB0.out.trans (hb1.mono hs0)); clear hb1)
        | (go_at_call 69; refine (HT.out _).mono ?_; rintro e w2 ⟨rfl, hb2⟩; have HB2 := Lib.hid (below_next HB1.out hb2); clear hb2))
      go_ret
      exact ⟨⟨none, 0, 0, rfl, TxAt.nil _ _⟩, HB2.out⟩
    · go_enter Tryd.func76, Tryd.ntmps76
      go_wp2_with (first
        | (go_at_call 38; refine HV.out.mono ?_; rintro e w1 ⟨rfl, hb1⟩; have HB1 := Lib.hid (HB0.out.trans (hb1.mono hs0)); clear hb1)
        | (go_at_call 69; refine (HT.out _).mono ?_; rintro e w2 ⟨rfl, hb2⟩; have HB2 := Lib.hid (below_next HB1.out hb2); clear hb2))
      go_ret
      exact ⟨⟨none, 0, 0, rfl, TxAt.nil _ _⟩, HB2.out⟩
  | some ts =>
    have ht := fun w1 => texts_some hT (T w1)
    have hts : vb = false → ts = [] := fun h => by have := hvb h; rw [hT] at this; injection this
    have HT := Lib.hid ht
    clear ht T hT hvb
    show Calls _ _ _ _ fun e w' => (∃ (A' : Option Addr) (c' m' : Nat), e = .returned (.slice A' m' c') ∧ TxAt w' A' m' ts) ∧ _
    rcases vb with _ | _
    · obtain rfl : ts = [] := hts rfl
      go_enter Tryd.func76, Tryd.ntmps76
      go_wp2_with (first
        | (go_at_call 38; refine HV.out.mono ?_; rintro e w1 ⟨rfl, hb1⟩; have HB1 := Lib.hid (HB0.out.trans (hb1.mono hs0)); clear hb1)
        | (go_at_call 69; refine (HT.out _).mono ?_; rintro e w2 ⟨⟨A', c', m', rfl, htx⟩, hb2⟩; have HB2 := Lib.hid (below_next HB1.out hb2); have HTX := Lib.hid htx; clear hb2 htx))
      go_ret
      exact ⟨⟨none, 0, 0, rfl, TxAt.nil _ _⟩, HB2.out⟩
    · go_enter Tryd.func76, Tryd.ntmps76
      go_wp2_with (first
        | (go_at_call 38; refine HV.out.mono ?_; rintro e w1 ⟨rfl, hb1⟩; have HB1 := Lib.hid (HB0.out.trans (hb1.mono hs0)); clear hb1)
        | (go_at_call 69; refine (HT.out _).mono ?_; rintro e w2 ⟨⟨A', c', m', rfl, htx⟩, hb2⟩; have HB2 := Lib.hid (below_next HB1.out hb2); have HTX := Lib.hid htx; clear hb2 htx))
      go_ret
      exact ⟨⟨A', c', m', rfl, HTX.out⟩, HB2.out⟩
set_option maxRecDepth 100000 in
set_option maxHeartbeats 4000000 in
theorem rcompat_any (A : Option Addr) (cap n : Nat) (l : List Nm) (hn : n = l.length) (hz : Sized l) (i : Int) (w : World) (B : Nat) (hB : B ≤ w.heap.size) (hs : Nodes w B A l) :
    Calls Tryd.prog 56 #[.slice A n cap, .int .i64 i] w fun e w' => (∃ (A' : Option Addr) (c' m' : Nat), e = .returned (.tuple #[.slice A' m' c', .int .i64 (wrongF (dat l) i)]) ∧ TxAt w' A' m' (compL (dat l) i)) ∧ Below w.heap.size w w' := by
  have hp := wrong_any A cap n l hn hz i w B hB hs
  by_cases h0 : wrongF (dat l) i = 0
  · obtain ⟨hf, h5, k, rfl, hk⟩ := wrong_zero h0
    have hkd := hk
    rw [dat_len, ← hn] at h5 hk
    have hv := fine_vals hf
    have hkl : k < l.length := by rw [← hn]; exact hk
    have hki : (k : Int) < (n : Int) := by omega
    obtain ⟨b, off, eA, _, _⟩ := hs.at_ hkl
    subst eA
    have hna : ∀ w1, Below w.heap.size w w1 → w1.cell? ⟨b, off + k * 3, none⟩ = some (.int .i64 l[k].d.p) ∧ w1.cell? ⟨b, off + k * 3 + 1, none⟩ = some (.string l[k].d.n) ∧ w1.cell? ⟨b, off + k * 3 + 2, none⟩ = some (.slice l[k].A l[k].d.ps.length l[k].c) := fun w1 hb => by
      obtain ⟨b', off', eA, _, x0, x1, x2, hseg⟩ := (hs.below (hb.mono hB)).at_ hkl
      injection eA with eA
      injection eA with e1 e2 e3
      subst e1; subst e2
      exact ⟨x0, x1, x2⟩
    have hva := fun w1 (hb : Below w.heap.size w w1) => says_any l[k].d.p l[k].d.n l[k].A l[k].c _ l[k].d.ps rfl (hz.props _ (List.getElem_mem hkl)) (hv _ (List.getElem_mem hkl)) w1 B (Nat.le_trans hB hb.size) ((hs.below (hb.mono hB)).props _ (List.getElem_mem hkl))
    have e0 : compL (dat l) (k : Int) = saysL l[k].d.ps := by unfold compL; rw [if_pos h0, Int.toNat_natCast, props_dat hkl]
    rw [e0, h0]
    rw [h0] at hp
    generalize saysL l[k].d.ps = X at *
    generalize l[k].d.ps.length = m at *
    generalize l[k].d.p = P at *
    generalize l[k].d.n = nm at *
    generalize l[k].A = xA at *
    generalize l[k].c = xc at *
    have HP := Lib.hid hp
    have HVA := Lib.hid hva
    have HNA := Lib.hid hna
    clear hp hva hna hn hs hz hf h0 e0 hv
    go_enter Tryd.func56, Tryd.ntmps56
    go_wp2_with (first
      | (go_at_call 42; refine HP.out.mono ?_; rintro e w1 ⟨rfl, hb1⟩; have HB1 := Lib.hid hb1; obtain ⟨x0, x1, x2⟩ := HNA.out w1 HB1.out; clear hb1)
      | (go_at_call 76; refine (HVA.out w1 HB1.out).mono ?_; rintro e w2 ⟨⟨A', c', m', rfl, htx⟩, hb2⟩; have HB2 := Lib.hid (below_next HB1.out hb2); have HTX := Lib.hid htx; clear hb2 htx))
    go_ret2
    exact ⟨⟨A', c', m', rfl, HTX.out⟩, HB2.out⟩
  · have e0 : compL (dat l) i = [] := by unfold compL; rw [if_neg h0]
    rw [e0]
    clear e0
    generalize wrongF (dat l) i = E at *
    have hE : (E != 0) = true := by simpa using h0
    have hE2 : (E == 0) = false := by simpa using h0
    have HP := Lib.hid hp
    clear hp hn hs hz
    go_enter Tryd.func56, Tryd.ntmps56
    go_wp2_with (first
      | (go_at_call 42; refine HP.out.mono ?_; rintro e w1 ⟨rfl, hb1⟩; have HB1 := Lib.hid hb1; clear hb1))
    go_ret2
    exact ⟨⟨none, 0, 0, rfl, TxAt.nil _ _⟩, HB1.out⟩
set_option maxRecDepth 100000 in
set_option maxHeartbeats 4000000 in
theorem pcompat_any (A : Option Addr) (cap n : Nat) (l : List Nm) (hn : n = l.length) (hz : Sized l) (i : Int) (w : World) (hv0 : Var0 w) (hw0 : 0 < w.heap.size) (B : Nat) (hB : B ≤ w.heap.size) (hs : Nodes w B A l) :
    Calls Tryd.prog 55 #[.slice A n cap, .int .i64 i] w fun e w' => (∃ (A' : Option Addr) (c' m' : Nat), e = .returned (.tuple #[.slice A' m' c', .int .i64 (wrongF (dat l) i)]) ∧ TxAt w' A' m' (compL (dat l) i)) ∧ Below w.heap.size w w' := by
  have hp := place_any A cap n l hn hz i w B hB hs
  by_cases h0 : wrongF (dat l) i = 0
  · obtain ⟨hf, h5, k, rfl, hk⟩ := wrong_zero h0
    have hkd := hk
    rw [dat_len, ← hn] at h5 hk
    have hv := fine_vals hf
    have hkl : k < l.length := by rw [← hn]; exact hk
    have hki : (k : Int) < (n : Int) := by omega
    obtain ⟨b, off, eA, _, _⟩ := hs.at_ hkl
    subst eA
    have hna : ∀ w1, Below w.heap.size w w1 → w1.cell? ⟨b, off + k * 3, none⟩ = some (.int .i64 l[k].d.p) ∧ w1.cell? ⟨b, off + k * 3 + 1, none⟩ = some (.string l[k].d.n) ∧ w1.cell? ⟨b, off + k * 3 + 2, none⟩ = some (.slice l[k].A l[k].d.ps.length l[k].c) := fun w1 hb => by
      obtain ⟨b', off', eA, _, x0, x1, x2, hseg⟩ := (hs.below (hb.mono hB)).at_ hkl
      injection eA with eA
      injection eA with e1 e2 e3
      subst e1; subst e2
      exact ⟨x0, x1, x2⟩
    have hva := fun w1 (hb : Below w.heap.size w w1) => value_any l[k].d.p l[k].d.n l[k].A l[k].c _ l[k].d.ps rfl (hz.props _ (List.getElem_mem hkl)) kCo w1 B (Nat.le_trans hB hb.size) ((hs.below (hb.mono hB)).props _ (List.getElem_mem hkl))
    have htt := fun w1 (hb : Below w.heap.size w w1) => ptexts_any (valS l[k].d.ps kCo) (val_le (hv _ (List.getElem_mem hkl))) w1 (hv0.below hb hw0)
    have e0 : compL (dat l) (k : Int) = (textsL (valS l[k].d.ps kCo).data.toList).getD [] := by unfold compL; rw [if_pos h0, Int.toNat_natCast, props_dat hkl]; rfl
    rw [e0, h0]
    rw [h0] at hp
    generalize valS l[k].d.ps kCo = vs at *
    generalize valB l[k].d.ps kCo = vb at *
    generalize l[k].d.ps.length = m at *
    generalize l[k].d.p = P at *
    generalize l[k].d.n = nm at *
    generalize l[k].A = xA at *
    generalize l[k].c = xc at *
    have HP := Lib.hid hp
    have HVA := Lib.hid hva
    have HNA := Lib.hid hna
    clear hp hva hna hn hs hz hf h0 e0 hv hv0
    cases hT : textsL vs.data.toList with
    | none =>
      have ht := fun w1 (hb : Below w.heap.size w w1) => texts_none hT (htt w1 hb)
      have HT := Lib.hid ht
      clear ht htt hT
      show Calls _ _ _ _ fun e w' => (∃ (A' : Option Addr) (c' m' : Nat), e = .returned (.tuple #[.slice A' m' c', .int .i64 0]) ∧ TxAt w' A' m' []) ∧ _
      go_enter Tryd.func55, Tryd.ntmps55
      go_wp2_with (first
        | (go_at_call 40; refine HP.out.mono ?_; rintro e w1 ⟨rfl, hb1⟩; have HB1 := Lib.hid hb1; obtain ⟨x0, x1, x2⟩ := HNA.out w1 HB1.out; clear hb1)
        | (go_at_call 36; refine (HVA.out w1 HB1.out).mono ?_; rintro e w2 ⟨rfl, hb2⟩; have HB2 := Lib.hid (below_next HB1.out hb2); clear hb2)
        | (go_at_call 68; refine (HT.out w2 HB2.out).mono ?_; rintro e w3 ⟨rfl, hb3⟩; have HB3 := Lib.hid (below_next HB2.out hb3); clear hb3))
      go_ret2
      exact ⟨⟨none, 0, 0, rfl, TxAt.nil _ _⟩, HB3.out⟩
    | some ts =>
      have ht := fun w1 (hb : Below w.heap.size w w1) => texts_some hT (htt w1 hb)
      have HT := Lib.hid ht
      clear ht htt hT
      show Calls _ _ _ _ fun e w' => (∃ (A' : Option Addr) (c' m' : Nat), e = .returned (.tuple #[.slice A' m' c', .int .i64 0]) ∧ TxAt w' A' m' ts) ∧ _
      go_enter Tryd.func55, Tryd.ntmps55
      go_wp2_with (first
        | (go_at_call 40; refine HP.out.mono ?_; rintro e w1 ⟨rfl, hb1⟩; have HB1 := Lib.hid hb1; obtain ⟨x0, x1, x2⟩ := HNA.out w1 HB1.out; clear hb1)
        | (go_at_call 36; refine (HVA.out w1 HB1.out).mono ?_; rintro e w2 ⟨rfl, hb2⟩; have HB2 := Lib.hid (below_next HB1.out hb2); clear hb2)
        | (go_at_call 68; refine (HT.out w2 HB2.out).mono ?_; rintro e w3 ⟨⟨A', c', m', rfl, htx⟩, hb3⟩; have HB3 := Lib.hid (below_next HB2.out hb3); have HTX := Lib.hid htx; clear hb3 htx))
      go_ret2
      exact ⟨⟨A', c', m', rfl, HTX.out⟩, HB3.out⟩
  · have e0 : compL (dat l) i = [] := by unfold compL; rw [if_neg h0]
    rw [e0]
    clear e0
    generalize wrongF (dat l) i = E at *
    have hE : (E != 0) = true := by simpa using h0
    have hE2 : (E == 0) = false := by simpa using h0
    have HP := Lib.hid hp
    clear hp hn hs hz
    go_enter Tryd.func55, Tryd.ntmps55
    go_wp2_with (first
      | (go_at_call 40; refine HP.out.mono ?_; rintro e w1 ⟨rfl, hb1⟩; have HB1 := Lib.hid hb1; clear hb1))
    go_ret2
    exact ⟨⟨none, 0, 0, rfl, TxAt.nil _ _⟩, HB1.out⟩
theorem Seg.str {w : World} {B : Nat} {a : Option Addr} {zs : List ByteArray} (h : Seg w B a (strV zs)) {k : Nat} (hk : k < zs.length) :
   ∃ b off, a = some ⟨b, off, none⟩ ∧ b < B ∧ w.cell? ⟨b, off + k, none⟩ = some (.string zs[k]) := by
  obtain ⟨b, off, e, hb, hc⟩ := h (by unfold strV; intro e; simp at e; subst e; simp at hk)
  exact ⟨b, off, e, hb, hc k _ (by unfold strV; simp [hk])⟩
theorem Seg.nat {w : World} {B : Nat} {a : Option Addr} {zs : List Nat} (h : Seg w B a (natsV zs)) {k : Nat} (hk : k < zs.length) :
   ∃ b off, a = some ⟨b, off, none⟩ ∧ b < B ∧ w.cell? ⟨b, off + k, none⟩ = some (.int .i64 (zs[k] : Nat)) := by
  obtain ⟨b, off, e, hb, hc⟩ := h (by unfold natsV; intro e; simp at e; subst e; simp at hk)
  exact ⟨b, off, e, hb, hc k _ (by unfold natsV; simp [hk])⟩
set_option maxRecDepth 100000 in
set_option maxHeartbeats 4000000 in
theorem sametexts_any (A : Option Addr) (c : Nat) (A' : Option Addr) (c' m : Nat) (xs : List ByteArray) (hm : m = xs.length) (h5 : m ≤ 281474976710656) (w : World) (B : Nat) (hB : B ≤ w.heap.size) (hs : Seg w B A (strV xs)) (hs' : Seg w B A' (strV xs)) :
    Calls Tryd.prog 57 #[.slice A m c, .slice A' m c'] w fun e w' => e = .returned (.bool true) ∧ Below w.heap.size w w' := by
  have HM := Lib.hid hm
  have HS := Lib.hid hs
  have HS' := Lib.hid hs'
  clear hm hs hs'
  go_enter Tryd.func57, Tryd.ntmps57
  go_wp2_with fail
  go_loopw [5] (fun iv wx => ∃ j : Nat, j ≤ m ∧ iv = .int .i64 j ∧ Below w.heap.size w wx) (fun iv _ => m - (intOf iv).toNat)
  case atStart => exact ⟨0, by omega, rfl, Below.refl _ _⟩
  case round =>
    obtain ⟨j, hj, rfl, hb⟩ := hrel
    have HB := Lib.hid hb
    by_cases hlt : j < m
    · have hji : (j : Int) < (m : Int) := by omega
      have hjx : j < xs.length := by rw [← HM.out]; exact hlt
      obtain ⟨b, off, eA, _, x0⟩ := Seg.str (HS.out.below (hb.mono hB)) hjx
      subst eA
      obtain ⟨b', off', eA, _, y0⟩ := Seg.str (HS'.out.below (hb.mono hB)) hjx
      subst eA
      generalize xs[j] = x at *
      have hxx : (x.toList == x.toList) = true := by simp
      have hx2 : (x.toList != x.toList) = false := by simp
      clear hb
      go_wp2_with fail
      go_quiet (fail)
      go_wp2_with fail
      exact ⟨⟨j + 1, by omega, by go_num, below_drewN HB.out _⟩, by simp [intOf]; omega⟩
    · obtain rfl : j = m := by omega
      have hf0 : ¬ (j : Int) < (j : Int) := by omega
      clear hb
      go_wp2_with fail
      go_ret
      exact ⟨rfl, HB.out⟩
set_option maxRecDepth 100000 in
set_option maxHeartbeats 4000000 in
theorem sameints_any (A : Option Addr) (c : Nat) (A' : Option Addr) (c' m : Nat) (xs : List Nat) (hm : m = xs.length) (h5 : m ≤ 281474976710656) (w : World) (B : Nat) (hB : B ≤ w.heap.size) (hs : Seg w B A (natsV xs)) (hs' : Seg w B A' (natsV xs)) :
    Calls Tryd.prog 24 #[.slice A m c, .slice A' m c'] w fun e w' => e = .returned (.bool true) ∧ Below w.heap.size w w' := by
  have HM := Lib.hid hm
  have HS := Lib.hid hs
  have HS' := Lib.hid hs'
  clear hm hs hs'
  go_enter Tryd.func24, Tryd.ntmps24
  go_wp2_with fail
  go_loopw [5] (fun iv wx => ∃ j : Nat, j ≤ m ∧ iv = .int .i64 j ∧ Below w.heap.size w wx) (fun iv _ => m - (intOf iv).toNat)
  case atStart => exact ⟨0, by omega, rfl, Below.refl _ _⟩
  case round =>
    obtain ⟨j, hj, rfl, hb⟩ := hrel
    have HB := Lib.hid hb
    by_cases hlt : j < m
    · have hji : (j : Int) < (m : Int) := by omega
      have hjx : j < xs.length := by rw [← HM.out]; exact hlt
      obtain ⟨b, off, eA, _, x0⟩ := Seg.nat (HS.out.below (hb.mono hB)) hjx
      subst eA
      obtain ⟨b', off', eA, _, y0⟩ := Seg.nat (HS'.out.below (hb.mono hB)) hjx
      subst eA
      generalize xs[j] = x at *
      have hxx : ((x : Int) != (x : Int)) = false := by simp
      clear hb
      go_wp2_with fail
      go_quiet (fail)
      go_wp2_with fail
      exact ⟨⟨j + 1, by omega, by go_num, below_drewN HB.out _⟩, by simp [intOf]; omega⟩
    · obtain rfl : j = m := by omega
      have hf0 : ¬ (j : Int) < (j : Int) := by omega
      clear hb
      go_wp2_with fail
      go_ret
      exact ⟨rfl, HB.out⟩
/-- Two lists of one stock of texts. -/
theorem sametx_any (A : Option Addr) (c m : Nat) (A' : Option Addr) (c' m' : Nat) (ts : List (List UInt8)) (w : World) (h : TxAt w A m ts) (h' : TxAt w A' m' ts) (h5 : m ≤ 281474976710656) :
    Calls Tryd.prog 57 #[.slice A m c, .slice A' m' c'] w fun e w' => e = .returned (.bool true) ∧ Below w.heap.size w w' := by
  obtain ⟨bs, hm, hs, hd⟩ := h
  obtain ⟨bs', hm', hs', hd'⟩ := h'
  obtain rfl := bytes_inj (hd.trans hd'.symm)
  obtain rfl : m' = m := hm'.trans hm.symm
  exact sametexts_any A c A' c' m' bs hm h5 w _ (Nat.le_refl _) hs hs'
end Go.Proofs.YtmdnbajbfnhecaaDoor
