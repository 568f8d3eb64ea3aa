/- A place's props asked: the contracts of both sides. -/
import Derived.Test.YtmdnbajbfnhecaaDoorAN
set_option linter.unusedVariables false
namespace Go.Proofs.YtmdnbajbfnhecaaDoor
open Go.RowKit
set_option maxRecDepth 100000 in
set_option maxHeartbeats 4000000 in
theorem pvalue_any (A : Option Addr) (cap n : Nat) (l : List Nm) (hn : n = l.length) (hz : Sized l) (i : Int) (key : ByteArray) (w : World) (B : Nat) (hB : B ≤ w.heap.size) (hs : Nodes w B A l) :
    Calls Tryd.prog 47 #[.slice A n cap, .int .i64 i, .string key] w fun e w' => e = .returned (.tuple #[.string (valueV (dat l) i key).1, .int .i64 (valueV (dat l) i key).2]) ∧ Below w.heap.size w w' := by
  have hp := place_any A cap n l hn hz i w B hB hs
  by_cases h0 : wrongF (dat l) i = 0
  · obtain ⟨hf, h5, k, rfl, hk⟩ := wrong_zero h0
    have hkd := hk
    rw [dat_len, ← hn] at h5 hk
    have hv := fine_vals hf
    have hkl : k < l.length := by rw [← hn]; exact hk
    have hki : (k : Int) < (n : Int) := by omega
    obtain ⟨b, off, eA, _, _⟩ := hs.at_ hkl
    subst eA
    have hna : ∀ w1, Below w.heap.size w w1 → w1.cell? ⟨b, off + k * 3, none⟩ = some (.int .i64 l[k].d.p) ∧ w1.cell? ⟨b, off + k * 3 + 1, none⟩ = some (.string l[k].d.n) ∧ w1.cell? ⟨b, off + k * 3 + 2, none⟩ = some (.slice l[k].A l[k].d.ps.length l[k].c) := fun w1 hb => by
      obtain ⟨b', off', eA, _, x0, x1, x2, hseg⟩ := (hs.below (hb.mono hB)).at_ hkl
      injection eA with eA
      injection eA with e1 e2 e3
      subst e1; subst e2
      exact ⟨x0, x1, x2⟩
    have hva := fun w1 (hb : Below w.heap.size w w1) => value_any l[k].d.p l[k].d.n l[k].A l[k].c _ l[k].d.ps rfl (hz.props _ (List.getElem_mem hkl)) key w1 B (Nat.le_trans hB hb.size) ((hs.below (hb.mono hB)).props _ (List.getElem_mem hkl))
    have e0 : valueV (dat l) (k : Int) key = if valB l[k].d.ps key = true then (valS l[k].d.ps key, 0) else (ByteArray.empty, 6) := by unfold valueV; rw [if_pos h0, Int.toNat_natCast, props_dat hkl]
    rw [e0]
    rw [h0] at hp
    generalize valS l[k].d.ps key = vs at *
    generalize valB l[k].d.ps key = vb at *
    generalize l[k].d.ps.length = m at *
    generalize l[k].d.p = P at *
    generalize l[k].d.n = nm at *
    generalize l[k].A = xA at *
    generalize l[k].c = xc at *
    have HP := Lib.hid hp
    have HVA := Lib.hid hva
    have HNA := Lib.hid hna
    clear hp hva hna hn hs hz hf h0 e0 hv
    rcases vb with _ | _
    · rw [if_neg (by simp)]
      go_enter Tryd.func47, Tryd.ntmps47
      go_wp2_with (first
        | (go_at_call 40; refine HP.out.mono ?_; rintro e w1 ⟨rfl, hb1⟩; have HB1 := Lib.hid hb1; obtain ⟨x0, x1, x2⟩ := HNA.out w1 HB1.out; clear hb1)
        | (go_at_call 36; refine (HVA.out w1 HB1.out).mono ?_; rintro e w2 ⟨rfl, hb2⟩; have HB2 := Lib.hid (below_next HB1.out hb2); clear hb2))
      go_ret2
      exact ⟨rfl, HB2.out⟩
    · rw [if_pos rfl]
      go_enter Tryd.func47, Tryd.ntmps47
      go_wp2_with (first
        | (go_at_call 40; refine HP.out.mono ?_; rintro e w1 ⟨rfl, hb1⟩; have HB1 := Lib.hid hb1; obtain ⟨x0, x1, x2⟩ := HNA.out w1 HB1.out; clear hb1)
        | (go_at_call 36; refine (HVA.out w1 HB1.out).mono ?_; rintro e w2 ⟨rfl, hb2⟩; have HB2 := Lib.hid (below_next HB1.out hb2); clear hb2))
      go_ret2
      exact ⟨rfl, HB2.out⟩
  · have e0 : valueV (dat l) i key = (ByteArray.empty, wrongF (dat l) i) := by unfold valueV; rw [if_neg h0]
    rw [e0]
    clear e0
    generalize wrongF (dat l) i = E at *
    have hE : (E != 0) = true := by simpa using h0
    have hE2 : (E == 0) = false := by simpa using h0
    have HP := Lib.hid hp
    clear hp hn hs hz
    go_enter Tryd.func47, Tryd.ntmps47
    go_wp2_with (first
      | (go_at_call 40; refine HP.out.mono ?_; rintro e w1 ⟨rfl, hb1⟩; have HB1 := Lib.hid hb1; clear hb1))
    go_ret2
    exact ⟨rfl, HB1.out⟩
set_option maxRecDepth 100000 in
set_option maxHeartbeats 4000000 in
theorem rvalue2_any (A : Option Addr) (cap n : Nat) (l : List Nm) (hn : n = l.length) (hz : Sized l) (i : Int) (key : ByteArray) (w : World) (B : Nat) (hB : B ≤ w.heap.size) (hs : Nodes w B A l) :
    Calls Tryd.prog 48 #[.slice A n cap, .int .i64 i, .string key] w fun e w' => e = .returned (.tuple #[.string (valueV (dat l) i key).1, .int .i64 (valueV (dat l) i key).2]) ∧ Below w.heap.size w w' := by
  have hp := wrong_any A cap n l hn hz i w B hB hs
  by_cases h0 : wrongF (dat l) i = 0
  · obtain ⟨hf, h5, k, rfl, hk⟩ := wrong_zero h0
    have hkd := hk
    rw [dat_len, ← hn] at h5 hk
    have hv := fine_vals hf
    have hkl : k < l.length := by rw [← hn]; exact hk
    have hki : (k : Int) < (n : Int) := by omega
    obtain ⟨b, off, eA, _, _⟩ := hs.at_ hkl
    subst eA
    have hna : ∀ w1, Below w.heap.size w w1 → w1.cell? ⟨b, off + k * 3, none⟩ = some (.int .i64 l[k].d.p) ∧ w1.cell? ⟨b, off + k * 3 + 1, none⟩ = some (.string l[k].d.n) ∧ w1.cell? ⟨b, off + k * 3 + 2, none⟩ = some (.slice l[k].A l[k].d.ps.length l[k].c) := fun w1 hb => by
      obtain ⟨b', off', eA, _, x0, x1, x2, hseg⟩ := (hs.below (hb.mono hB)).at_ hkl
      injection eA with eA
      injection eA with e1 e2 e3
      subst e1; subst e2
      exact ⟨x0, x1, x2⟩
    have hva := fun w1 (hb : Below w.heap.size w w1) => rvalue_any l[k].d.p l[k].d.n l[k].A l[k].c _ l[k].d.ps rfl (hz.props _ (List.getElem_mem hkl)) key w1 B (Nat.le_trans hB hb.size) ((hs.below (hb.mono hB)).props _ (List.getElem_mem hkl))
    have e0 : valueV (dat l) (k : Int) key = if valB l[k].d.ps key = true then (valS l[k].d.ps key, 0) else (ByteArray.empty, 6) := by unfold valueV; rw [if_pos h0, Int.toNat_natCast, props_dat hkl]
    rw [e0]
    rw [h0] at hp
    generalize valS l[k].d.ps key = vs at *
    generalize valB l[k].d.ps key = vb at *
    generalize l[k].d.ps.length = m at *
    generalize l[k].d.p = P at *
    generalize l[k].d.n = nm at *
    generalize l[k].A = xA at *
    generalize l[k].c = xc at *
    have HP := Lib.hid hp
    have HVA := Lib.hid hva
    have HNA := Lib.hid hna
    clear hp hva hna hn hs hz hf h0 e0 hv
    rcases vb with _ | _
    · rw [if_neg (by simp)]
      go_enter Tryd.func48, Tryd.ntmps48
      go_wp2_with (first
        | (go_at_call 42; refine HP.out.mono ?_; rintro e w1 ⟨rfl, hb1⟩; have HB1 := Lib.hid hb1; obtain ⟨x0, x1, x2⟩ := HNA.out w1 HB1.out; clear hb1)
        | (go_at_call 38; refine (HVA.out w1 HB1.out).mono ?_; rintro e w2 ⟨rfl, hb2⟩; have HB2 := Lib.hid (below_next HB1.out hb2); clear hb2))
      go_ret2
      exact ⟨rfl, HB2.out⟩
    · rw [if_pos rfl]
      go_enter Tryd.func48, Tryd.ntmps48
      go_wp2_with (first
        | (go_at_call 42; refine HP.out.mono ?_; rintro e w1 ⟨rfl, hb1⟩; have HB1 := Lib.hid hb1; obtain ⟨x0, x1, x2⟩ := HNA.out w1 HB1.out; clear hb1)
        | (go_at_call 38; refine (HVA.out w1 HB1.out).mono ?_; rintro e w2 ⟨rfl, hb2⟩; have HB2 := Lib.hid (below_next HB1.out hb2); clear hb2))
      go_ret2
      exact ⟨rfl, HB2.out⟩
  · have e0 : valueV (dat l) i key = (ByteArray.empty, wrongF (dat l) i) := by unfold valueV; rw [if_neg h0]
    rw [e0]
    clear e0
    generalize wrongF (dat l) i = E at *
    have hE : (E != 0) = true := by simpa using h0
    have hE2 : (E == 0) = false := by simpa using h0
    have HP := Lib.hid hp
    clear hp hn hs hz
    go_enter Tryd.func48, Tryd.ntmps48
    go_wp2_with (first
      | (go_at_call 42; refine HP.out.mono ?_; rintro e w1 ⟨rfl, hb1⟩; have HB1 := Lib.hid hb1; clear hb1))
    go_ret2
    exact ⟨rfl, HB1.out⟩
set_option maxRecDepth 100000 in
set_option maxHeartbeats 4000000 in
theorem phandof_any (A : Option Addr) (cap n : Nat) (l : List Nm) (hn : n = l.length) (hz : Sized l) (i : Int) (w : World) (B : Nat) (hB : B ≤ w.heap.size) (hs : Nodes w B A l) :
    Calls Tryd.prog 49 #[.slice A n cap, .int .i64 i] w fun e w' => e = .returned (.tuple #[.int .u32 ((handofV (dat l) i).1 : Nat), .int .i64 (handofV (dat l) i).2]) ∧ Below w.heap.size w w' := by
  have hp := place_any A cap n l hn hz i w B hB hs
  by_cases h0 : wrongF (dat l) i = 0
  · obtain ⟨hf, h5, k, rfl, hk⟩ := wrong_zero h0
    have hkd := hk
    rw [dat_len, ← hn] at h5 hk
    have hv := fine_vals hf
    have hkl : k < l.length := by rw [← hn]; exact hk
    have hki : (k : Int) < (n : Int) := by omega
    obtain ⟨b, off, eA, _, _⟩ := hs.at_ hkl
    subst eA
    have hna : ∀ w1, Below w.heap.size w w1 → w1.cell? ⟨b, off + k * 3, none⟩ = some (.int .i64 l[k].d.p) ∧ w1.cell? ⟨b, off + k * 3 + 1, none⟩ = some (.string l[k].d.n) ∧ w1.cell? ⟨b, off + k * 3 + 2, none⟩ = some (.slice l[k].A l[k].d.ps.length l[k].c) := fun w1 hb => by
      obtain ⟨b', off', eA, _, x0, x1, x2, hseg⟩ := (hs.below (hb.mono hB)).at_ hkl
      injection eA with eA
      injection eA with e1 e2 e3
      subst e1; subst e2
      exact ⟨x0, x1, x2⟩
    have hva := fun w1 (hb : Below w.heap.size w w1) => handle_any l[k].d.p l[k].d.n l[k].A l[k].c _ l[k].d.ps rfl (hz.props _ (List.getElem_mem hkl)) (hv _ (List.getElem_mem hkl)) w1 B (Nat.le_trans hB hb.size) ((hs.below (hb.mono hB)).props _ (List.getElem_mem hkl))
    have e0 : handofV (dat l) (k : Int) = if handF l[k].d.ps = 0 then (0, 6) else (handF l[k].d.ps, 0) := by unfold handofV; rw [if_pos h0, Int.toNat_natCast, props_dat hkl]
    rw [e0]
    rw [h0] at hp
    generalize handF l[k].d.ps = H at *
    generalize l[k].d.ps.length = m at *
    generalize l[k].d.p = P at *
    generalize l[k].d.n = nm at *
    generalize l[k].A = xA at *
    generalize l[k].c = xc at *
    have HP := Lib.hid hp
    have HVA := Lib.hid hva
    have HNA := Lib.hid hna
    clear hp hva hna hn hs hz hf h0 e0 hv
    by_cases hh : H = 0
    · rw [if_pos hh]
      subst hh
      go_enter Tryd.func49, Tryd.ntmps49
      go_wp2_with (first
        | (go_at_call 40; refine HP.out.mono ?_; rintro e w1 ⟨rfl, hb1⟩; have HB1 := Lib.hid hb1; obtain ⟨x0, x1, x2⟩ := HNA.out w1 HB1.out; clear hb1)
        | (go_at_call 34; refine (HVA.out w1 HB1.out).mono ?_; rintro e w2 ⟨rfl, hb2⟩; have HB2 := Lib.hid (below_next HB1.out hb2); clear hb2))
      go_ret2
      exact ⟨rfl, HB2.out⟩
    · rw [if_neg hh]
      have hh1 : ((H : Int) == 0) = false := by simpa using hh
      go_enter Tryd.func49, Tryd.ntmps49
      go_wp2_with (first
        | (go_at_call 40; refine HP.out.mono ?_; rintro e w1 ⟨rfl, hb1⟩; have HB1 := Lib.hid hb1; obtain ⟨x0, x1, x2⟩ := HNA.out w1 HB1.out; clear hb1)
        | (go_at_call 34; refine (HVA.out w1 HB1.out).mono ?_; rintro e w2 ⟨rfl, hb2⟩; have HB2 := Lib.hid (below_next HB1.out hb2); clear hb2))
      go_ret2
      exact ⟨rfl, HB2.out⟩
  · have e0 : handofV (dat l) i = (0, wrongF (dat l) i) := by unfold handofV; rw [if_neg h0]
    rw [e0]
    clear e0
    generalize wrongF (dat l) i = E at *
    have hE : (E != 0) = true := by simpa using h0
    have hE2 : (E == 0) = false := by simpa using h0
    have HP := Lib.hid hp
    clear hp hn hs hz
    go_enter Tryd.func49, Tryd.ntmps49
    go_wp2_with (first
      | (go_at_call 40; refine HP.out.mono ?_; rintro e w1 ⟨rfl, hb1⟩; have HB1 := Lib.hid hb1; clear hb1))
    go_ret2
    exact ⟨rfl, HB1.out⟩
set_option maxRecDepth 100000 in
set_option maxHeartbeats 4000000 in
theorem rhandof_any (A : Option Addr) (cap n : Nat) (l : List Nm) (hn : n = l.length) (hz : Sized l) (i : Int) (w : World) (B : Nat) (hB : B ≤ w.heap.size) (hs : Nodes w B A l) :
    Calls Tryd.prog 50 #[.slice A n cap, .int .i64 i] w fun e w' => e = .returned (.tuple #[.int .u32 ((handofV (dat l) i).1 : Nat), .int .i64 (handofV (dat l) i).2]) ∧ Below w.heap.size w w' := by
  have hp := wrong_any A cap n l hn hz i w B hB hs
  by_cases h0 : wrongF (dat l) i = 0
  · obtain ⟨hf, h5, k, rfl, hk⟩ := wrong_zero h0
    have hkd := hk
    rw [dat_len, ← hn] at h5 hk
    have hv := fine_vals hf
    have hkl : k < l.length := by rw [← hn]; exact hk
    have hki : (k : Int) < (n : Int) := by omega
    obtain ⟨b, off, eA, _, _⟩ := hs.at_ hkl
    subst eA
    have hna : ∀ w1, Below w.heap.size w w1 → w1.cell? ⟨b, off + k * 3, none⟩ = some (.int .i64 l[k].d.p) ∧ w1.cell? ⟨b, off + k * 3 + 1, none⟩ = some (.string l[k].d.n) ∧ w1.cell? ⟨b, off + k * 3 + 2, none⟩ = some (.slice l[k].A l[k].d.ps.length l[k].c) := fun w1 hb => by
      obtain ⟨b', off', eA, _, x0, x1, x2, hseg⟩ := (hs.below (hb.mono hB)).at_ hkl
      injection eA with eA
      injection eA with e1 e2 e3
      subst e1; subst e2
      exact ⟨x0, x1, x2⟩
    have hva := fun w1 (hb : Below w.heap.size w w1) => named_any l[k].d.p l[k].d.n l[k].A l[k].c _ l[k].d.ps rfl (hz.props _ (List.getElem_mem hkl)) (hv _ (List.getElem_mem hkl)) w1 B (Nat.le_trans hB hb.size) ((hs.below (hb.mono hB)).props _ (List.getElem_mem hkl))
    have e0 : handofV (dat l) (k : Int) = if handF l[k].d.ps = 0 then (0, 6) else (handF l[k].d.ps, 0) := by unfold handofV; rw [if_pos h0, Int.toNat_natCast, props_dat hkl]
    rw [e0]
    rw [h0] at hp
    generalize handF l[k].d.ps = H at *
    generalize l[k].d.ps.length = m at *
    generalize l[k].d.p = P at *
    generalize l[k].d.n = nm at *
    generalize l[k].A = xA at *
    generalize l[k].c = xc at *
    have HP := Lib.hid hp
    have HVA := Lib.hid hva
    have HNA := Lib.hid hna
    clear hp hva hna hn hs hz hf h0 e0 hv
    by_cases hh : H = 0
    · rw [if_pos hh]
      subst hh
      go_enter Tryd.func50, Tryd.ntmps50
      go_wp2_with (first
        | (go_at_call 42; refine HP.out.mono ?_; rintro e w1 ⟨rfl, hb1⟩; have HB1 := Lib.hid hb1; obtain ⟨x0, x1, x2⟩ := HNA.out w1 HB1.out; clear hb1)
        | (go_at_call 67; refine (HVA.out w1 HB1.out).mono ?_; rintro e w2 ⟨rfl, hb2⟩; have HB2 := Lib.hid (below_next HB1.out hb2); clear hb2))
      go_ret2
      exact ⟨rfl, HB2.out⟩
    · rw [if_neg hh]
      have hh1 : ((H : Int) == 0) = false := by simpa using hh
      go_enter Tryd.func50, Tryd.ntmps50
      go_wp2_with (first
        | (go_at_call 42; refine HP.out.mono ?_; rintro e w1 ⟨rfl, hb1⟩; have HB1 := Lib.hid hb1; obtain ⟨x0, x1, x2⟩ := HNA.out w1 HB1.out; clear hb1)
        | (go_at_call 67; refine (HVA.out w1 HB1.out).mono ?_; rintro e w2 ⟨rfl, hb2⟩; have HB2 := Lib.hid (below_next HB1.out hb2); clear hb2))
      go_ret2
      exact ⟨rfl, HB2.out⟩
  · have e0 : handofV (dat l) i = (0, wrongF (dat l) i) := by unfold handofV; rw [if_neg h0]
    rw [e0]
    clear e0
    generalize wrongF (dat l) i = E at *
    have hE : (E != 0) = true := by simpa using h0
    have hE2 : (E == 0) = false := by simpa using h0
    have HP := Lib.hid hp
    clear hp hn hs hz
    go_enter Tryd.func50, Tryd.ntmps50
    go_wp2_with (first
      | (go_at_call 42; refine HP.out.mono ?_; rintro e w1 ⟨rfl, hb1⟩; have HB1 := Lib.hid hb1; clear hb1))
    go_ret2
    exact ⟨rfl, HB1.out⟩
set_option maxRecDepth 100000 in
set_option maxHeartbeats 4000000 in
theorem penabled_any (A : Option Addr) (cap n : Nat) (l : List Nm) (hn : n = l.length) (hz : Sized l) (i : Int) (w : World) (hv0 : Var0 w) (hw0 : 0 < w.heap.size) (B : Nat) (hB : B ≤ w.heap.size) (hs : Nodes w B A l) :
    Calls Tryd.prog 51 #[.slice A n cap, .int .i64 i] w fun e w' => e = .returned (.tuple #[.bool (onV (dat l) i), .int .i64 (wrongF (dat l) i)]) ∧ Below w.heap.size w w' := by
  have hp := place_any A cap n l hn hz i w B hB hs
  by_cases h0 : wrongF (dat l) i = 0
  · obtain ⟨hf, h5, k, rfl, hk⟩ := wrong_zero h0
    have hkd := hk
    rw [dat_len, ← hn] at h5 hk
    have hv := fine_vals hf
    have hva := fun w1 (hb : Below w.heap.size w w1) => enabled_any A cap n l hn h5 hz hf k hk w1 (hv0.below hb hw0) (Nat.lt_of_lt_of_le hw0 hb.size) B (Nat.le_trans hB hb.size) (hs.below (hb.mono hB))
    have e0 : onV (dat l) (k : Int) = onB (dat l) k := by unfold onV; rw [if_pos h0]
    rw [e0, h0]
    rw [h0] at hp
    generalize onB (dat l) k = R at *
    have HP := Lib.hid hp
    have HVA := Lib.hid hva
    clear hp hva hn hs hz hf h0 e0 hv hv0
    go_enter Tryd.func51, Tryd.ntmps51
    go_wp2_with (first
      | (go_at_call 40; refine HP.out.mono ?_; rintro e w1 ⟨rfl, hb1⟩; have HB1 := Lib.hid hb1; clear hb1)
      | (go_at_call 73; refine (HVA.out w1 HB1.out).mono ?_; rintro e w2 ⟨rfl, hb2⟩; have HB2 := Lib.hid (below_next HB1.out hb2); clear hb2))
    go_ret2
    exact ⟨rfl, HB2.out⟩
  · have e0 : onV (dat l) i = false := by unfold onV; rw [if_neg h0]
    rw [e0]
    clear e0
    generalize wrongF (dat l) i = E at *
    have hE : (E != 0) = true := by simpa using h0
    have hE2 : (E == 0) = false := by simpa using h0
    have HP := Lib.hid hp
    clear hp hn hs hz
    go_enter Tryd.func51, Tryd.ntmps51
    go_wp2_with (first
      | (go_at_call 40; refine HP.out.mono ?_; rintro e w1 ⟨rfl, hb1⟩; have HB1 := Lib.hid hb1; clear hb1))
    go_ret2
    exact ⟨rfl, HB1.out⟩
set_option maxRecDepth 100000 in
set_option maxHeartbeats 4000000 in
theorem renabled_any (A : Option Addr) (cap n : Nat) (l : List Nm) (hn : n = l.length) (hz : Sized l) (i : Int) (w : World) (B : Nat) (hB : B ≤ w.heap.size) (hs : Nodes w B A l) :
    Calls Tryd.prog 52 #[.slice A n cap, .int .i64 i] w fun e w' => e = .returned (.tuple #[.bool (onV (dat l) i), .int .i64 (wrongF (dat l) i)]) ∧ Below w.heap.size w w' := by
  have hp := wrong_any A cap n l hn hz i w B hB hs
  by_cases h0 : wrongF (dat l) i = 0
  · obtain ⟨hf, h5, k, rfl, hk⟩ := wrong_zero h0
    have hkd := hk
    rw [dat_len, ← hn] at h5 hk
    have hv := fine_vals hf
    have hva := fun w1 (hb : Below w.heap.size w w1) => ron_any A cap n l hn h5 hz hf k hk w1 B (Nat.le_trans hB hb.size) (hs.below (hb.mono hB))
    have e0 : onV (dat l) (k : Int) = onB (dat l) k := by unfold onV; rw [if_pos h0]
    rw [e0, h0]
    rw [h0] at hp
    generalize onB (dat l) k = R at *
    have HP := Lib.hid hp
    have HVA := Lib.hid hva
    clear hp hva hn hs hz hf h0 e0 hv
    go_enter Tryd.func52, Tryd.ntmps52
    go_wp2_with (first
      | (go_at_call 42; refine HP.out.mono ?_; rintro e w1 ⟨rfl, hb1⟩; have HB1 := Lib.hid hb1; clear hb1)
      | (go_at_call 74; refine (HVA.out w1 HB1.out).mono ?_; rintro e w2 ⟨rfl, hb2⟩; have HB2 := Lib.hid (below_next HB1.out hb2); clear hb2))
    go_ret2
    exact ⟨rfl, HB2.out⟩
  · have e0 : onV (dat l) i = false := by unfold onV; rw [if_neg h0]
    rw [e0]
    clear e0
    generalize wrongF (dat l) i = E at *
    have hE : (E != 0) = true := by simpa using h0
    have hE2 : (E == 0) = false := by simpa using h0
    have HP := Lib.hid hp
    clear hp hn hs hz
    go_enter Tryd.func52, Tryd.ntmps52
    go_wp2_with (first
      | (go_at_call 42; refine HP.out.mono ?_; rintro e w1 ⟨rfl, hb1⟩; have HB1 := Lib.hid hb1; clear hb1))
    go_ret2
    exact ⟨rfl, HB1.out⟩
set_option maxRecDepth 100000 in
set_option maxHeartbeats 4000000 in
theorem bare_any (A : Option Addr) (cap n : Nat) (l : List Nm) (hn : n = l.length) (hn5 : n ≤ 512) (hz : Sized l) (hf : Fine (dat l) (dat l).length) (k : Nat) (hk : k < n) (w : World) (B : Nat) (hB : B ≤ w.heap.size) (hs : Nodes w B A l) :
    Calls Tryd.prog 75 #[.slice A n cap, .int .i64 k] w fun e w' => e = .returned (.bool (!valB (holdF.propsAt (dat l) k) kCo && onB (dat l) k)) ∧ Below w.heap.size w w' := by
  have hv := fine_vals hf
  have hon := fun w1 (hb : Below w.heap.size w w1) => ron_any A cap n l hn hn5 hz hf k hk w1 B (Nat.le_trans hB hb.size) (hs.below (hb.mono hB))
  have hkl : k < l.length := by rw [← hn]; exact hk
  have hki : (k : Int) < (n : Int) := by omega
  obtain ⟨b, off, eA, _, _⟩ := hs.at_ hkl
  subst eA
  have hna : ∀ w1, Below w.heap.size w w1 → w1.cell? ⟨b, off + k * 3, none⟩ = some (.int .i64 l[k].d.p) ∧ w1.cell? ⟨b, off + k * 3 + 1, none⟩ = some (.string l[k].d.n) ∧ w1.cell? ⟨b, off + k * 3 + 2, none⟩ = some (.slice l[k].A l[k].d.ps.length l[k].c) := fun w1 hb => by
    obtain ⟨b', off', eA, _, x0, x1, x2, hseg⟩ := (hs.below (hb.mono hB)).at_ hkl
    injection eA with eA
    injection eA with e1 e2 e3
    subst e1; subst e2
    exact ⟨x0, x1, x2⟩
  have hva := fun w1 (hb : Below w.heap.size w w1) => rvalue_any l[k].d.p l[k].d.n l[k].A l[k].c _ l[k].d.ps rfl (hz.props _ (List.getElem_mem hkl)) kCo w1 B (Nat.le_trans hB hb.size) ((hs.below (hb.mono hB)).props _ (List.getElem_mem hkl))

  rw [props_dat hkl]
  generalize onB (dat l) k = R at *
  generalize valS l[k].d.ps kCo = vs at *
  generalize valB l[k].d.ps kCo = vb at *
  generalize l[k].d.ps.length = m at *
  generalize l[k].d.p = P at *
  generalize l[k].d.n = nm at *
  generalize l[k].A = xA at *
  generalize l[k].c = xc at *
  have HVA := Lib.hid hva
  have HNA := Lib.hid hna
  have HON := Lib.hid hon
  have x012 := hna w (Below.refl _ _)
  obtain ⟨x0, x1, x2⟩ := x012
  clear hva hna hon hn hs hz hf hv
  rcases vb with _ | _
  · go_enter Tryd.func75, Tryd.ntmps75
    go_wp2_with (first
      | (go_at_call 38; refine (HVA.out w (Below.refl _ _)).mono ?_; rintro e w2 ⟨rfl, hb2⟩; have HB2 := Lib.hid hb2; clear hb2)
      | (go_at_call 74; refine (HON.out w2 HB2.out).mono ?_; rintro e w3 ⟨rfl, hb3⟩; have HB3 := Lib.hid (below_next HB2.out hb3); clear hb3))
    go_ret
    exact ⟨rfl, HB3.out⟩
  · go_enter Tryd.func75, Tryd.ntmps75
    go_wp2_with (first
      | (go_at_call 38; refine (HVA.out w (Below.refl _ _)).mono ?_; rintro e w2 ⟨rfl, hb2⟩; have HB2 := Lib.hid hb2; clear hb2))
    go_ret
    exact ⟨rfl, HB2.out⟩
set_option maxRecDepth 100000 in
set_option maxHeartbeats 4000000 in
theorem rplain_any (A : Option Addr) (cap n : Nat) (l : List Nm) (hn : n = l.length) (hz : Sized l) (i : Int) (w : World) (B : Nat) (hB : B ≤ w.heap.size) (hs : Nodes w B A l) :
    Calls Tryd.prog 54 #[.slice A n cap, .int .i64 i] w fun e w' => e = .returned (.tuple #[.bool (plainV (dat l) i), .int .i64 (wrongF (dat l) i)]) ∧ Below w.heap.size w w' := by
  have hp := wrong_any A cap n l hn hz i w B hB hs
  by_cases h0 : wrongF (dat l) i = 0
  · obtain ⟨hf, h5, k, rfl, hk⟩ := wrong_zero h0
    have hkd := hk
    rw [dat_len, ← hn] at h5 hk
    have hv := fine_vals hf
    have hva := fun w1 (hb : Below w.heap.size w w1) => bare_any A cap n l hn h5 hz hf k hk w1 B (Nat.le_trans hB hb.size) (hs.below (hb.mono hB))
    have e0 : plainV (dat l) (k : Int) = (!valB (holdF.propsAt (dat l) k) kCo && onB (dat l) k) := by unfold plainV; rw [if_pos h0]; rfl
    rw [e0, h0]
    rw [h0] at hp
    generalize (!valB (holdF.propsAt (dat l) k) kCo && onB (dat l) k) = R at *
    have HP := Lib.hid hp
    have HVA := Lib.hid hva
    clear hp hva hn hs hz hf h0 e0 hv
    go_enter Tryd.func54, Tryd.ntmps54
    go_wp2_with (first
      | (go_at_call 42; refine HP.out.mono ?_; rintro e w1 ⟨rfl, hb1⟩; have HB1 := Lib.hid hb1; clear hb1)
      | (go_at_call 75; refine (HVA.out w1 HB1.out).mono ?_; rintro e w2 ⟨rfl, hb2⟩; have HB2 := Lib.hid (below_next HB1.out hb2); clear hb2))
    go_ret2
    exact ⟨rfl, HB2.out⟩
  · have e0 : plainV (dat l) i = false := by unfold plainV; rw [if_neg h0]
    rw [e0]
    clear e0
    generalize wrongF (dat l) i = E at *
    have hE : (E != 0) = true := by simpa using h0
    have hE2 : (E == 0) = false := by simpa using h0
    have HP := Lib.hid hp
    clear hp hn hs hz
    go_enter Tryd.func54, Tryd.ntmps54
    go_wp2_with (first
      | (go_at_call 42; refine HP.out.mono ?_; rintro e w1 ⟨rfl, hb1⟩; have HB1 := Lib.hid hb1; clear hb1))
    go_ret2
    exact ⟨rfl, HB1.out⟩
set_option maxRecDepth 100000 in
set_option maxHeartbeats 4000000 in
theorem pplain_any (A : Option Addr) (cap n : Nat) (l : List Nm) (hn : n = l.length) (hz : Sized l) (i : Int) (w : World) (hv0 : Var0 w) (hw0 : 0 < w.heap.size) (B : Nat) (hB : B ≤ w.heap.size) (hs : Nodes w B A l) :
    Calls Tryd.prog 53 #[.slice A n cap, .int .i64 i] w fun e w' => e = .returned (.tuple #[.bool (plainV (dat l) i), .int .i64 (wrongF (dat l) i)]) ∧ Below w.heap.size w w' := by
  have hp := place_any A cap n l hn hz i w B hB hs
  by_cases h0 : wrongF (dat l) i = 0
  · obtain ⟨hf, h5, k, rfl, hk⟩ := wrong_zero h0
    have hkd := hk
    rw [dat_len, ← hn] at h5 hk
    have hv := fine_vals hf
    have hon := fun w1 (hb : Below w.heap.size w w1) => enabled_any A cap n l hn h5 hz hf k hk w1 (hv0.below hb hw0) (Nat.lt_of_lt_of_le hw0 hb.size) B (Nat.le_trans hB hb.size) (hs.below (hb.mono hB))
    have hkl : k < l.length := by rw [← hn]; exact hk
    have hki : (k : Int) < (n : Int) := by omega
    obtain ⟨b, off, eA, _, _⟩ := hs.at_ hkl
    subst eA
    have hna : ∀ w1, Below w.heap.size w w1 → w1.cell? ⟨b, off + k * 3, none⟩ = some (.int .i64 l[k].d.p) ∧ w1.cell? ⟨b, off + k * 3 + 1, none⟩ = some (.string l[k].d.n) ∧ w1.cell? ⟨b, off + k * 3 + 2, none⟩ = some (.slice l[k].A l[k].d.ps.length l[k].c) := fun w1 hb => by
      obtain ⟨b', off', eA, _, x0, x1, x2, hseg⟩ := (hs.below (hb.mono hB)).at_ hkl
      injection eA with eA
      injection eA with e1 e2 e3
      subst e1; subst e2
      exact ⟨x0, x1, x2⟩
    have hva := fun w1 (hb : Below w.heap.size w w1) => value_any l[k].d.p l[k].d.n l[k].A l[k].c _ l[k].d.ps rfl (hz.props _ (List.getElem_mem hkl)) kCo w1 B (Nat.le_trans hB hb.size) ((hs.below (hb.mono hB)).props _ (List.getElem_mem hkl))
    have e0 : plainV (dat l) (k : Int) = (!valB l[k].d.ps kCo && onB (dat l) k) := by unfold plainV; rw [if_pos h0, Int.toNat_natCast, props_dat hkl]
    rw [e0, h0]
    rw [h0] at hp
    generalize onB (dat l) k = R at *
    generalize valS l[k].d.ps kCo = vs at *
    generalize valB l[k].d.ps kCo = vb at *
    generalize l[k].d.ps.length = m at *
    generalize l[k].d.p = P at *
    generalize l[k].d.n = nm at *
    generalize l[k].A = xA at *
    generalize l[k].c = xc at *
    have HP := Lib.hid hp
    have HVA := Lib.hid hva
    have HNA := Lib.hid hna
    have HON := Lib.hid hon
    clear hp hva hna hon hn hs hz hf h0 e0 hv hv0
    rcases vb with _ | _
    · go_enter Tryd.func53, Tryd.ntmps53
      go_wp2_with (first
        | (go_at_call 40; refine HP.out.mono ?_; rintro e w1 ⟨rfl, hb1⟩; have HB1 := Lib.hid hb1; obtain ⟨x0, x1, x2⟩ := HNA.out w1 HB1.out; clear hb1)
        | (go_at_call 36; refine (HVA.out w1 HB1.out).mono ?_; rintro e w2 ⟨rfl, hb2⟩; have HB2 := Lib.hid (below_next HB1.out hb2); clear hb2)
        | (go_at_call 73; refine (HON.out w2 HB2.out).mono ?_; rintro e w3 ⟨rfl, hb3⟩; have HB3 := Lib.hid (below_next HB2.out hb3); clear hb3))
      go_ret2
      exact ⟨rfl, HB3.out⟩
    · go_enter Tryd.func53, Tryd.ntmps53
      go_wp2_with (first
        | (go_at_call 40; refine HP.out.mono ?_; rintro e w1 ⟨rfl, hb1⟩; have HB1 := Lib.hid hb1; obtain ⟨x0, x1, x2⟩ := HNA.out w1 HB1.out; clear hb1)
        | (go_at_call 36; refine (HVA.out w1 HB1.out).mono ?_; rintro e w2 ⟨rfl, hb2⟩; have HB2 := Lib.hid (below_next HB1.out hb2); clear hb2))
      go_ret2
      exact ⟨rfl, HB2.out⟩
  · have e0 : plainV (dat l) i = false := by unfold plainV; rw [if_neg h0]
    rw [e0]
    clear e0
    generalize wrongF (dat l) i = E at *
    have hE : (E != 0) = true := by simpa using h0
    have hE2 : (E == 0) = false := by simpa using h0
    have HP := Lib.hid hp
    clear hp hn hs hz
    go_enter Tryd.func53, Tryd.ntmps53
    go_wp2_with (first
      | (go_at_call 40; refine HP.out.mono ?_; rintro e w1 ⟨rfl, hb1⟩; have HB1 := Lib.hid hb1; clear hb1))
    go_ret2
    exact ⟨rfl, HB1.out⟩
end Go.Proofs.YtmdnbajbfnhecaaDoor
