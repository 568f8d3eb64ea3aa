/- The walk of ClocksHold: the net and its book through the first 25 moves. -/
import Derived.Test.YtbahclnpgdejlaaHeldB
import Derived.Test.YtbahclnpgdejlaaMove
set_option linter.unusedVariables false
namespace Go.Proofs.Ytbahclnpgdejlaa
open Go.RowKit
section
variable {w w' : World} {B nb n gu gh gb : Nat} {Ac Ar Au Ah : Option Addr} {cc cr cu ch bb : Nat} {Al Bu : Option Addr} {cl bu : Nat} {s s' : St} {l : List Clk} {us : List Int}
theorem BookAt.mono {B' : Nat} (h : BookAt w B bb n Al Bu cl bu l us) (hB : B' ≤ B) : BookAt w B' bb n Al Bu cl bu l us :=
  ⟨Nat.le_trans hB h.low, h.len, h.lenu, h.box, h.vl.mono hB, h.vu.mono hB⟩
theorem kept_new {w2 w3 : World} (h : IsNet w2 B nb ⟨l, ratesOf l, zeros n, zeros n⟩) (hn : n = l.length) (hB : B ≤ w2.heap.size) (hb : Below w2.heap.size w2 w3) (hr : BookAt w3 w2.heap.size bb n Al Bu cl bu l (zeros n)) (hm : mayB l = true) (hf : ∀ j, j < n → fitsAt l j = true) :
    ∃ Ac Ar Au Ah cc cr cu ch gu gh gb, Kept w3 B nb n Ac Ar Au Ah cc cr cu ch bb Al Bu cl bu ⟨l, ratesOf l, zeros n, zeros n⟩ ∧ Apart n gu gh gb Au Ah Bu := by
  obtain ⟨n', Ac, Ar, Au, Ah, cc, cr, cu, ch, hnet⟩ := h
  obtain rfl : n' = n := by have := hnet.lenu; simpa [zeros_len] using this
  have hb3 : Kept w3 B nb n' Ac Ar Au Ah cc cr cu ch bb Al Bu cl bu ⟨l, ratesOf l, zeros n', zeros n'⟩ :=
    ⟨hnet.below hb, hr.mono hB, ⟨hm, fun j hj => hf j (by simp only at hj; omega), rfl⟩, bal_zero l n', fun j => by simp only [zeros_at]; omega, fun j => by simp only [zeros_at]; omega, fun j => by simp only [zeros_at]; omega⟩
  rcases Nat.eq_zero_or_pos n' with h0 | h0
  · exact ⟨Ac, Ar, Au, Ah, cc, cr, cu, ch, 0, 0, 0, hb3, ⟨fun h => by omega, fun h => by omega, fun h => by omega, fun h => by omega, fun h => by omega⟩⟩
  · obtain ⟨gu, e1, _, r1⟩ := hnet.row_u h0
    obtain ⟨gh, e2, _, r2⟩ := hnet.row_h h0
    obtain ⟨gr, e3, b3, r3⟩ := hr.row_u h0
    have := r1.lt
    have := r2.lt
    exact ⟨Ac, Ar, Au, Ah, cc, cr, cu, ch, gu, gh, gr, hb3, ⟨fun _ => e1, fun _ => e2, fun _ => e3, fun _ => by omega, fun _ => by omega⟩⟩
/-- The first holds, at the net and the book as they are made. -/
theorem holds_new {w2 w3 : World} (h : IsNet w2 B nb ⟨l, ratesOf l, zeros n, zeros n⟩) (hn : n = l.length) (hB : B ≤ w2.heap.size) (hm : mayB l = true) (hf : ∀ j, j < n → fitsAt l j = true) (hb : Below w2.heap.size w2 w3) (hr : BookAt w3 w2.heap.size bb n Al Bu cl bu l (zeros n)) :
    Calls Try.prog 20 #[.pointer (some ⟨bb, 0, none⟩), .pointer (some ⟨nb, 0, none⟩)] w3 fun e w' => e = .returned (.bool true) ∧ Below B w2 w' ∧ B ≤ w'.heap.size ∧
      ∃ Ac Ar Au Ah cc cr cu ch gu gh gb s, Kept w' B nb n Ac Ar Au Ah cc cr cu ch bb Al Bu cl bu s ∧ Apart n gu gh gb Au Ah Bu := by
  obtain ⟨Ac, Ar, Au, Ah, cc, cr, cu, ch, gu, gh, gb, hk, ap⟩ := kept_new h hn hB hb hr hm hf
  refine (holds_any hk).mono ?_
  rintro e w' ⟨rfl, hb'⟩
  have h3 := hb.size
  exact ⟨rfl, (hb.mono hB).trans (hb'.mono (Nat.le_trans hB h3)), Nat.le_trans (Nat.le_trans hB h3) hb'.size, Ac, Ar, Au, Ah, cc, cr, cu, ch, gu, gh, gb, _, hk.below hb', ap⟩
end
set_option maxRecDepth 100000 in
set_option maxHeartbeats 4000000 in
theorem hold_no (A A1 : Option Addr) (cap cap1 n m : Nat) (l : List Clk) (hn : n = l.length) (w : World) (hs : Seg w w.heap.size A (clkCells l)) (hl : n ≤ 2513169434843)
    (hmay : mayB l = false ∨ (mayB l = true ∧ ∃ j, j < n ∧ fitsAt l j = false)) :
    Calls Try.prog 6 #[.slice A n cap, .slice A1 m cap1] w fun e w' => e = .returned (.bool true) ∧ Below w.heap.size w w' := by
  have hown := own_any A cap l n hn w w.heap.size (Nat.le_refl _) hs hl
  have hnew : ∀ (w1 : World) (A' : Option Addr) (c' : Nat), Seg w1 w1.heap.size A' (clkCells l) → Calls Try.prog 7 #[.slice A' n c'] w1 fun e w' => (∃ z : Int, (z != 0) = true ∧ e = .returned (.tuple #[.pointer none, .int .i64 z])) ∧ Below w1.heap.size w1 w' := fun w1 A' c' hs' => by
    rcases hmay with hm | ⟨hm, hf⟩
    · exact (new_no A' c' l n hn w1 w1.heap.size (Nat.le_refl _) hs' hl hm).mono fun e w' ⟨he, hb⟩ => ⟨⟨180, rfl, he⟩, hb⟩
    · exact (new_out A' c' l n hn w1 w1.heap.size (Nat.le_refl _) hs' hl hm hf).mono fun e w' ⟨he, hb⟩ => ⟨⟨181, rfl, he⟩, hb⟩
  have HO := Lib.hid hown
  have HNW := Lib.hid hnew
  clear hn hown hs hmay hnew
  go_enter Try.func6, Try.ntmps6
  go_wp2_with (first
    | (go_at_call 11; refine HO.out.mono ?_; rintro e w1 ⟨A', c', rfl, hrow, hb⟩; have hB := Lib.hid hb; have hR := Lib.hid hrow; clear hb hrow)
    | (go_at_call 7; refine (HNW.out w1 A' c' (own_front hR.out)).mono ?_; rintro e w2 ⟨⟨z, hz, rfl⟩, hb2⟩; have hB2 := Lib.hid hb2; clear hb2)
    | (go_at_call 10; refine (awake_any _).mono ?_; rintro e w9 ⟨rfl, hb9⟩))
  go_ret
  have e1 := hB.out.size
  have e2 := hB2.out.size
  exact ⟨rfl, (hB.out.trans (hB2.out.mono e1)).trans (hb9.mono (Nat.le_trans e1 e2))⟩
set_option maxRecDepth 100000 in
set_option maxHeartbeats 4000000 in
theorem hold_ok (A A1 : Option Addr) (cap cap1 n m : Nat) (l : List Clk) (z : List Mv) (hn : n = l.length) (hm : m = z.length) (w : World) (hs : Seg w w.heap.size A (clkCells l)) (hs1 : Seg w w.heap.size A1 (mvCells z)) (hl : n ≤ 2513169434843)
    (hmay : mayB l = true) (hf : ∀ j, j < n → fitsAt l j = true) :
    Calls Try.prog 6 #[.slice A n cap, .slice A1 m cap1] w fun e w' => e = .returned (.bool true) ∧ Below w.heap.size w w' := by
  have hown := own_any A cap l n hn w w.heap.size (Nat.le_refl _) hs hl
  have hmk := make_ints n hl
  have HN := Lib.hid hn
  have HO := Lib.hid hown
  have HS := Lib.hid hs
  have HM := Lib.hid hmay
  have HF := Lib.hid hf
  have HS1 := Lib.hid hs1
  have HMZ := Lib.hid hm
  clear hn hown hs hs1 hmay hm hf
  obtain ⟨i0, fi, fz0, fz1, fz2⟩ := info_parts Try.info81
  go_enter Try.func6, Try.ntmps6
  go_wp2_with (first
    | (go_at_call 11; refine HO.out.mono ?_; rintro e w1 ⟨A', c', rfl, hrow, hb⟩; have hB := Lib.hid hb; have hR := Lib.hid hrow; clear hb hrow)
    | (go_at_call 7; refine (new_ok A' c' l n HN.out w1 w1.heap.size (Nat.le_refl _) (own_front hR.out) (by omega) HM.out HF.out).mono ?_; rintro e w2 ⟨nb, rfl, hnet, hb2⟩; have hB2 := Lib.hid hb2; have HNET := Lib.hid hnet; clear hb2 hnet))
  have hw1 := hB.out.size
  have hsz := hB2.out.size
  have hs2 : Seg w2 w.heap.size A (clkCells l) := HS.out.below (hB.out.trans (hB2.out.mono hw1))
  have HS2 := Lib.hid hs2
  have hsz0 : w.heap.size ≤ w2.heap.size := Nat.le_trans hw1 hsz
  clear hs2
  have m1 := clk_one l
  have m2 : 0 + n ≤ maxLen := by unfold maxLen; omega
  have m3 : (0 + n) * 56 ≤ 140737488355328 := by omega
  have m0 : Hid ((clkCells l).length = n * 7) := by show _ = _; rw [clkCells, flat_length _ 7 clk_len, ← HN.out]
  have M1 := Lib.hid m1
  clear m1
  go_region_held3 (fun _ => True) (trivial) (first
    | (refine step_append_seg rfl (.tmp 22) (.tmp 23) 37 rfl w2.heap.size 81 i0 _ 7 56 Try.underlying37 fi fz0 fz1 fz2 rfl (by decide) _ 0 [] (by simp [Act.eval]; rfl) (by first | exact own_empty _ _ _ _ _ rfl (Nat.le_refl _) | exact World.ownsRow.alloc (own_empty _ _ _ _ _ rfl (Nat.le_refl _)) _ | exact own_empty _ _ _ _ _ (by simp) (by simp)) w.heap.size A n cap (clkCells l) (by simp [Act.eval]) m0.out (by first | exact HS2.out.alloc (by omega) _ | exact (HS2.out.alloc (by omega) _).alloc (by simp; omega) _) M1.out m2 m3 (by first | (simp; done) | (simp; omega)) ?_; intro v3 w3 hown3 hg3 _; obtain ⟨A3, c3, rfl⟩ := own_shape hown3)
    | fail)
  all_goals go_wp2_with fail
  all_goals
    simp only [Nat.zero_add, List.nil_append] at hown3
    have hv3 := Vec.of_own hown3
    have hs3 := hg3.size
    simp only [World.size_alloc, drew_size] at hs3
    have HV3 := Lib.hid hv3
    have HOW := Lib.hid hown3
    clear hv3 hown3
    refine (holds_new HNET.out HN.out hsz HM.out HF.out ?hb ⟨?low, HN.out, (zeros_len n).symm, heap_new _ _ _ ?adr, ?vl, RowAt.vec ?row ?le⟩).mono ?rest
    case adr => first | rfl | (simp only [World.size_alloc]; done)
    case vl =>
      first
        | with_reducible exact HV3.out.alloc _
        | with_reducible exact (HV3.out.alloc _).alloc _
    case row =>
      first
        | (with_reducible refine RowAt.alloc ?_ _; with_reducible refine zeros_row n _ _ rfl)
        | (with_reducible refine RowAt.alloc ?_ _; refine RowAt.grown ?_ hg3 (by simp [Value.ownBlock]); first | (with_reducible refine RowAt.drew ?_; with_reducible refine RowAt.alloc ?_ _; with_reducible exact zeros_row n _ _ rfl) | (with_reducible refine RowAt.drew ?_; with_reducible exact zeros_row n _ _ (by simp)))
    case le => (try simp only [World.size_alloc, drew_size]); omega
    case hb =>
      have hb3 : Below w2.heap.size w2 w3 := by
        refine Below.grown (Below.drew ?_) hg3 ?_ ?_
        · first
            | with_reducible exact (Below.refl _ _).alloc (Nat.le_refl _) _
            | with_reducible exact ((Below.refl _ _).alloc (Nat.le_refl _) _).alloc (by simp only [World.size_alloc]; omega) _
        · (try simp only [drew_size, World.size_alloc]); omega
        · intro g hg
          simp only [Value.ownBlock, Option.some.injEq] at hg
          subst hg
          (try simp only [World.size_alloc])
          omega
      first
        | with_reducible exact hb3.alloc hb3.size _
        | with_reducible exact (hb3.alloc hb3.size _).alloc (by simp only [World.size_alloc]; omega) _
    case low => (try simp only [World.size_alloc, drew_size]); omega
    case rest =>
      rintro e wS ⟨rfl, hbS, hsS, Ac, Ar, Au, Ah, cc, cr, cu, ch, gu, gh, gb, s0, hk, ap⟩
      have HBS := Lib.hid (hB.out.trans ((hB2.out.trans hbS).mono hw1))
      have HK0 := Lib.hid hk
      have HAP := Lib.hid ap
      clear hbS hk ap HV3 HOW hg3 hs3 m0 m2 m3 M1 fi fz0 fz1 fz2 hmk
      go_wp2_with fail
      go_loopw [8] (fun iv wx => ∃ j : Nat, j ≤ m ∧ j ≤ 25 ∧ iv = .int .i64 j ∧ (∃ Ac Ar cc cr s, Kept wx w1.heap.size nb n Ac Ar Au Ah cc cr cu ch _ _ _ _ _ s) ∧ Below w.heap.size w wx ∧ w1.heap.size ≤ wx.heap.size) (fun iv _ => 25 - (intOf iv).toNat)
      case atStart => exact ⟨0, by omega, by omega, rfl, ⟨_, _, _, _, _, HK0.out⟩, HBS.out, hsS⟩
      case round =>
        obtain ⟨j, hj1, hj2, rfl, ⟨Ac2, Ar2, cc2, cr2, s2, hbo⟩, hbx, hsx⟩ := hrel
        have HBX := Lib.hid hbx
        have hmv := fun K I F W => held_any hbo HAP.out K I F W
        have HMV := Lib.hid hmv
        clear hbx hbo hmv HK0
        by_cases hlt : j < m ∧ j < 25
        · obtain ⟨lt1, lt2⟩ := hlt
          have hjz : j < z.length := by rw [← HMZ.out]; exact lt1
          obtain ⟨b1, off1, rfl, hbb1, y1, y2, y3, y4⟩ := (HS1.out.below HBX.out).mv hjz
          generalize z[j].k = K at *
          generalize z[j].i = I at *
          generalize z[j].f = F at *
          generalize z[j].w = W at *
          have hji : (j : Int) < (m : Int) := by omega
          go_wp2_with (
             (go_at_call 21
              refine (HMV.out K I F W).mono ?_
              rintro e w5 ⟨rfl, ⟨Ac3, Ar3, cc3, cr3, s3, hbo3⟩, hb5⟩
              have HB5 := Lib.hid (hb5.mono hw1)
              have HBO3 := Lib.hid hbo3
              have hs5 := hb5.size
              clear hb5 hbo3))
          go_roundw
          case rel => exact ⟨j + 1, by omega, by omega, by go_num, ⟨_, _, _, _, _, HBO3.out⟩, HBX.out.trans HB5.out, by omega⟩
          case measure => simp [intOf]; omega
        · clear HMV
          rcases (show m ≤ j ∨ (j < m ∧ 25 ≤ j) by omega) with hx | ⟨hx, hx2⟩
          all_goals
            go_wp2_with (go_at_call 10; refine (awake_any _).mono ?_; rintro e w9 ⟨rfl, hb9⟩)
            go_ret
            have e1 := HBX.out.size
            exact ⟨rfl, HBX.out.trans (hb9.mono e1)⟩
theorem clocksHold_walk (A A1 : Option Addr) (cap cap1 n m : Nat) (l : List Clk) (z : List Mv) (hn : n = l.length) (hm : m = z.length) (w : World) (hs : Seg w w.heap.size A (clkCells l)) (hs1 : Seg w w.heap.size A1 (mvCells z)) (hl : n ≤ 2513169434843) :
    Calls Try.prog 6 #[.slice A n cap, .slice A1 m cap1] w fun e w' => e = .returned (.bool true) ∧ Below w.heap.size w w' := by
  rcases hmay : mayB l with _ | _
  · exact hold_no A A1 cap cap1 n m l hn w hs hl (.inl hmay)
  · rcases fit_or l n with hf | hf
    · exact hold_ok A A1 cap cap1 n m l z hn hm w hs hs1 hl hmay hf
    · exact hold_no A A1 cap cap1 n m l hn w hs hl (.inr ⟨hmay, hf⟩)
end Go.Proofs.Ytbahclnpgdejlaa
