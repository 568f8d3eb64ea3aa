/- windows, maps, kept, carries: the contracts. -/
import Derived.Test.YtndocngkganpdaaRgLentF
set_option linter.unusedVariables false
namespace Go.Proofs.Ytndocngkganpdaa
open Go.RowKit
set_option maxRecDepth 100000 in
set_option maxHeartbeats 16000000 in
theorem cmpw_any (X : List (Nat × Nat)) (n : Nat) (hn : n = X.length) (hn2 : n ≤ maxLen) (A A' : Option Addr) (c c' : Nat) (w : World) (B : Nat) (hB : B ≤ w.heap.size) (hs : Seg w B A (winCells X)) (hs' : Seg w B A' (winCells X)) :
    Calls Try.prog 39 #[.slice A n c, .slice A' n c'] w fun e w' => e = .returned (.bool true) ∧ Below w.heap.size w w' := by
  unfold maxLen at hn2
  have HN := Lib.hid hn
  have HS := Lib.hid hs
  have HS' := Lib.hid hs'
  clear hn hs hs'
  go_enter Try.func39, Try.ntmps39
  go_wp2_with fail
  go_loopw [5] (fun iv wx => ∃ k : Nat, k ≤ n ∧ iv = .int .i64 k ∧ Below w.heap.size w wx) (fun iv _ => n - (intOf iv).toNat)
  case atStart => exact ⟨0, by omega, rfl, Below.refl _ _⟩
  case round =>
    obtain ⟨k, hk, rfl, hb⟩ := hrel
    have HB := Lib.hid hb
    by_cases hkn : k < n
    · have hkL : k < X.length := by rw [← HN.out]; exact hkn
      have hki : (k : Int) < (n : Int) := by omega
      obtain ⟨g, off, eA, _, xa⟩ := (HS.out.below (hb.mono hB)).thing (f := wiCells) (m := 2) wi_len (by omega) hkL
      obtain ⟨g', off', eA', _, xa'⟩ := (HS'.out.below (hb.mono hB)).thing (f := wiCells) (m := 2) wi_len (by omega) hkL
      subst eA eA'
      have x0 : wr.cell? ⟨g, off + k * 2, none⟩ = some (.int .u64 (X[k].1 : Int)) := xa 0 _ rfl
      have x1 : wr.cell? ⟨g, off + k * 2 + 1, none⟩ = some (.int .u64 (X[k].2 : Int)) := xa 1 _ rfl
      have y0 : wr.cell? ⟨g', off' + k * 2, none⟩ = some (.int .u64 (X[k].1 : Int)) := xa' 0 _ rfl
      have y1 : wr.cell? ⟨g', off' + k * 2 + 1, none⟩ = some (.int .u64 (X[k].2 : Int)) := xa' 1 _ rfl
      generalize X[k].1 = wb at *
      generalize X[k].2 = ws at *
      have f0 : ((wb : Int) != (wb : Int)) = false := bne_self_eq_false _
      have f1 : ((ws : Int) != (ws : Int)) = false := bne_self_eq_false _
      have f2 : ((wb : Int) == (wb : Int)) = true := beq_self_eq_true _
      have f3 : ((ws : Int) == (ws : Int)) = true := beq_self_eq_true _
      clear xa xa' hb
      go_wp2_with fail
      go_quiet (fail)
      go_wp2_with fail
      exact ⟨⟨k + 1, by omega, by go_num, below_drewN HB.out _⟩, by simp [intOf]; omega⟩
    · obtain rfl : k = n := by omega
      clear hb
      go_wp2_with fail
      go_ret
      exact ⟨rfl, HB.out⟩
set_option maxRecDepth 100000 in
set_option maxHeartbeats 16000000 in
theorem cmpm_any (X : List Mp) (n : Nat) (hn : n = X.length) (hn2 : n ≤ maxLen) (A A' : Option Addr) (c c' : Nat) (w : World) (B : Nat) (hB : B ≤ w.heap.size) (hs : Seg w B A (mpCells X)) (hs' : Seg w B A' (mpCells X)) :
    Calls Try.prog 42 #[.slice A n c, .slice A' n c'] w fun e w' => e = .returned (.bool true) ∧ Below w.heap.size w w' := by
  unfold maxLen at hn2
  have HN := Lib.hid hn
  have HS := Lib.hid hs
  have HS' := Lib.hid hs'
  clear hn hs hs'
  go_enter Try.func42, Try.ntmps42
  go_wp2_with fail
  go_loopw [5] (fun iv wx => ∃ k : Nat, k ≤ n ∧ iv = .int .i64 k ∧ Below w.heap.size w wx) (fun iv _ => n - (intOf iv).toNat)
  case atStart => exact ⟨0, by omega, rfl, Below.refl _ _⟩
  case round =>
    obtain ⟨k, hk, rfl, hb⟩ := hrel
    have HB := Lib.hid hb
    by_cases hkn : k < n
    · have hkL : k < X.length := by rw [← HN.out]; exact hkn
      have hki : (k : Int) < (n : Int) := by omega
      obtain ⟨g, off, eA, _, xa⟩ := (HS.out.below (hb.mono hB)).thing (f := mpOne) (m := 3) mp_len (by omega) hkL
      obtain ⟨g', off', eA', _, xa'⟩ := (HS'.out.below (hb.mono hB)).thing (f := mpOne) (m := 3) mp_len (by omega) hkL
      subst eA eA'
      have x0 : wr.cell? ⟨g, off + k * 3, none⟩ = some (.int .u64 (X[k].k : Int)) := xa 0 _ rfl
      have x1 : wr.cell? ⟨g, off + k * 3 + 1, none⟩ = some (.int .u64 (X[k].a : Int)) := xa 1 _ rfl
      have x2 : wr.cell? ⟨g, off + k * 3 + 2, none⟩ = some (.int .u64 (X[k].s : Int)) := xa 2 _ rfl
      have y0 : wr.cell? ⟨g', off' + k * 3, none⟩ = some (.int .u64 (X[k].k : Int)) := xa' 0 _ rfl
      have y1 : wr.cell? ⟨g', off' + k * 3 + 1, none⟩ = some (.int .u64 (X[k].a : Int)) := xa' 1 _ rfl
      have y2 : wr.cell? ⟨g', off' + k * 3 + 2, none⟩ = some (.int .u64 (X[k].s : Int)) := xa' 2 _ rfl
      generalize X[k].k = wk at *
      generalize X[k].a = wa at *
      generalize X[k].s = ws at *
      have f0 : ((wk : Int) != (wk : Int)) = false := bne_self_eq_false _
      have f1 : ((wa : Int) != (wa : Int)) = false := bne_self_eq_false _
      have f2 : ((ws : Int) != (ws : Int)) = false := bne_self_eq_false _
      clear xa xa' hb
      go_wp2_with fail
      go_quiet (fail)
      go_wp2_with fail
      exact ⟨⟨k + 1, by omega, by go_num, below_drewN HB.out _⟩, by simp [intOf]; omega⟩
    · obtain rfl : k = n := by omega
      clear hb
      go_wp2_with fail
      go_ret
      exact ⟨rfl, HB.out⟩
set_option maxRecDepth 100000 in
set_option maxHeartbeats 16000000 in
theorem kept_any (A A' : Option Addr) (cap c' n : Nat) (l L : List Nm) (hn : n = l.length) (hsz : Sized l) (hrm : Roomy l) (hd : dat L = dat l) (w : World) (base B : Nat) (hB : B ≤ w.heap.size) (hs : Nodes w B A l) (hl : LentE w base A' n c' L) :
    Calls Try.prog 20 #[.slice A' n c', .slice A n cap] w fun e w' => e = .returned (.bool true) ∧ Below w.heap.size w w' := by
  have hLl : n = L.length := hl.len
  have hcap := own_cap1 hl.row
  unfold maxLen at hcap
  obtain ⟨g, eA, hg1, hg2, hrA⟩ := RowAt.of_own hl.row (Nat.succ_pos n)
  have hlen : (nmCells L).length = n * 3 := by rw [nmCells_len, ← hLl]
  have x0 : w.cell? ⟨g, n * 3, none⟩ = some (.int .i64 (-9)) := by
    rw [hrA.cell (by rw [List.length_append, hlen]; simp [mkN]), List.getElem?_append_right (by rw [hlen]; exact Nat.le_refl _), hlen, Nat.sub_self]
    rfl
  subst eA
  have SA := rsame_any (some ⟨g, 0, none⟩) c' n L hLl (sized_dat hd hsz) A cap n l hn w w.heap.size (Nat.le_refl _) hl.nodes (hs.more hB)
  rw [hd, same_refl] at SA
  have HSA := Lib.hid SA
  have HL := Lib.hid hl
  have HLL := Lib.hid hLl
  have hc1 : (n : Int) + 1 ≤ (c' : Int) := by omega
  have hc2 : n + 1 ≤ c' := by omega
  have hpr : ∀ x ∈ L, (x.d.ps.length + 1) * 32 ≤ 140737488355328 := fun x hx => by
    have hm : x.d ∈ dat L := List.mem_map_of_mem hx
    rw [hd] at hm
    obtain ⟨y, hy, e⟩ := List.mem_map.1 hm
    rw [← e]; exact hrm.props y hy
  have HPR := Lib.hid hpr
  have hnb : n ≤ 2932031007403 := by have := hsz.n; omega
  clear SA hl hLl hn hsz hrm hd hs hcap hlen hrA hpr
  go_enter Try.func20, Try.ntmps20
  go_wp2_with (first
    | (go_at_call 47; refine HSA.out.mono ?_; rintro e w1 ⟨rfl, hb1⟩
       have HB1 := Lib.hid hb1
       clear hb1)
    | fail)
  go_loopw [5] (fun iv wx => ∃ k : Nat, k ≤ n ∧ iv = .int .i64 k ∧ Below w.heap.size w wx) (fun iv _ => n - (intOf iv).toNat)
  case atStart => exact ⟨0, by omega, rfl, HB1.out⟩
  case round =>
    obtain ⟨k, hk, rfl, hb⟩ := hrel
    have HB := Lib.hid hb
    by_cases hkn : k < n
    · have hkL : k < L.length := by rw [← HLL.out]; exact hkn
      have hki : (k : Int) < (n : Int) := by omega
      have hlk := HL.out.keep hb
      obtain ⟨b, off, eA, _, _, _, y2, _⟩ := hlk.nodes.at_ hkL
      injection eA with eA
      injection eA with eA1 eA2
      subst eA1 eA2
      have hmk := hlk.props L[k] (List.getElem_mem hkL)
      have hpk := HPR.out L[k] (List.getElem_mem hkL)
      generalize L[k] = x at *
      obtain ⟨⟨P, s, ps⟩, xA, xc⟩ := x
      unfold markP at hmk
      simp only at hmk y2 hpk
      have hcm := own_cap1 hmk
      unfold maxLen at hcm
      obtain ⟨gx, eX, _, _, hrX⟩ := RowAt.of_own hmk (Nat.succ_pos _)
      have hpl := prCells_len ps
      have z0 : wr.cell? ⟨gx, ps.length * 2, none⟩ = some (.string ⟨#[33]⟩) := by
        rw [hrX.cell (by rw [List.length_append, hpl]; simp [mkP]), List.getElem?_append_right (by rw [hpl]; exact Nat.le_refl _), hpl, Nat.sub_self]
        rfl
      subst eX
      obtain ⟨m, hm⟩ : ∃ m, m = ps.length := ⟨_, rfl⟩
      rw [← hm] at y2 z0 hcm hpk
      have hm1 : (m : Int) + 1 ≤ (xc : Int) := by omega
      have hm2 : m + 1 ≤ xc := by omega
      rw [Nat.zero_add] at y2
      clear hlk hmk hrX hpl hm hb hcm
      go_wp2_with fail
      exact ⟨⟨k + 1, by omega, by go_num, HB.out⟩, by simp [intOf]; omega⟩
    · obtain rfl : k = n := by omega
      clear hb
      go_wp2_with fail
      go_ret
      exact ⟨rfl, HB.out⟩
end Go.Proofs.Ytndocngkganpdaa
