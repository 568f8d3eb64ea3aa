/- Are lent cards what they were: the contract. -/
import Derived.Test.YtiheibcookcbdaaLent
set_option linter.unusedVariables false
namespace Go.Proofs.Ytiheibcookcbdaa
open Go.RowKit
theorem LentTo.mark {w : World} {base n c k : Nat} {A : Option Addr} {l : List Cd} (h : LentTo w base A n c l k) {i : Nat} (hi : i < l.length) (hik : i < k) : ∃ g, l[i].A = some ⟨g, 0, none⟩ ∧ base ≤ g ∧ g < w.heap.size ∧
    w.cell? ⟨g, l[i].d.ts.length, none⟩ = some (.string ⟨#[109, 97, 114, 107]⟩) ∧ l[i].d.ts.length + 1 ≤ l[i].c := by
  have ht := h.ts i hi hik
  obtain ⟨g, hA, hb, hlt⟩ := lent_head ht
  have hc := own_cap ht
  refine ⟨g, hA, hb, hlt, ?_, hc⟩
  unfold lentTs at ht
  rw [hA] at ht
  rw [ht.cellAt l[i].d.ts.length (by omega)]
  rw [List.getElem?_append_right (by rw [strs_len]; exact Nat.le_refl _), strs_len, Nat.sub_self]
  rfl
set_option maxRecDepth 100000 in
set_option maxHeartbeats 8000000 in
theorem kept_any (A : Option Addr) (n c : Nat) (l' : List Cd) (A0 : Option Addr) (c0 : Nat) (l0 : List Cd) (base : Nat) (w : World) (hL : LentTo w base A n c l' n) (hc : n + 1 ≤ c) (hM : w.ownsRow base 37 7 (.slice A (n + 1) c) (n + 1) (cdCells l' ++ markCells))
    (hd : cdat l' = cdat l0) (hz : CSized l') (hs0 : Cards w w.heap.size A0 l0) :
    Calls Try.prog 8 #[.slice A n c, .slice A0 n c0] w fun e w' => e = .returned (.bool true) ∧ Below w.heap.size w w' := by
  have hl : n ≤ 1466015503701 := by have := hz.n; have := hL.len; omega
  have hsa := sameall_yes A n c l' A0 c0 l0 hL.len hd hz w w.heap.size (Nat.le_refl _) hL.cards hs0
  obtain ⟨g, rfl, hgb, hgl⟩ := own_head hM (by omega)
  have hmk : w.cell? ⟨g, n * 7, none⟩ = some (.string ⟨#[109, 97, 114, 107]⟩) := by
    have hlen := flat_length Cd.cells 7 cd_len l'
    have hx : (cdCells l').length = n * 7 := by unfold cdCells; rw [hlen, hL.len]
    rw [hM.cellAt (n * 7) (by omega)]
    rw [List.getElem?_append_right (by omega), hx, Nat.sub_self]
    rfl
  have hpost : ∀ w1, Below w.heap.size w w1 → w1.cell? ⟨g, n * 7, none⟩ = some (.string ⟨#[109, 97, 114, 107]⟩) ∧ LentTo w1 base (some ⟨g, 0, none⟩) n c l' n ∧ Cards w1 w1.heap.size A0 l0 := fun w1 hb =>
    ⟨(hb.cell (p := ⟨g, n * 7, none⟩) hgl).trans hmk, hL.keep hb, (hs0.below hb).more hb.size⟩
  have hlen := hL.len
  have HSA := Lib.hid hsa
  have HP := Lib.hid hpost
  have HD := Lib.hid hd
  have HLEN := Lib.hid hlen
  have HZ := Lib.hid hz
  have hc1 : ((n : Int) + 1) ≤ (c : Int) := by omega
  clear hsa hpost hd hlen hmk hM hL hs0 hz
  go_enter Try.func8, Try.ntmps8
  go_wp2_with (go_at_call 17; refine HSA.out.mono ?_; rintro e w1 ⟨rfl, hb1⟩
               obtain ⟨m0, hl1, hc1⟩ := HP.out w1 hb1
               have HL1 := Lib.hid hl1
               have HC1 := Lib.hid hc1
               have HB1 := Lib.hid hb1
               clear hb1 hl1 hc1)
  go_loop [5] (fun iv => ∃ k : Nat, k ≤ n ∧ iv = .int .i64 k) (fun iv => n - (intOf iv).toNat)
  case atStart => exact ⟨0, by omega, rfl⟩
  case round =>
    obtain ⟨k, hk, rfl⟩ := hrel
    by_cases hlt : k < n
    · have hkl : k < l'.length := by rw [← HLEN.out]; exact hlt
      have hkl0 : k < l0.length := by rw [← cdat_len, ← HD.out, cdat_len]; exact hkl
      have hki : (k : Int) < (n : Int) := by omega
      obtain ⟨_, _, _, _, x3, _⟩ := HL1.out.cards.seven rfl hkl
      simp only [Nat.zero_add] at x3
      obtain ⟨b0, off0, rfl, _, _, _, _, y3, _⟩ := HC1.out.at_ hkl0
      obtain ⟨gx, hgx, _, _, z0, hxc⟩ := HL1.out.mark hkl hlt
      have htn := HZ.out.tn _ (List.getElem_mem hkl)
      have hdd : l0[k].d = l'[k].d := by rw [← cdat_get l' hkl, ← cdat_get l0 hkl0]; congr 1; exact HD.out.symm
      rw [hdd] at y3
      rw [hgx] at x3
      obtain ⟨m, hm⟩ : ∃ m, m = l'[k].d.ts.length := ⟨_, rfl⟩
      rw [← hm] at x3 y3 z0 htn hxc
      generalize l'[k].c = xc at *
      generalize l0[k].c = yc at *
      generalize l0[k].A = yA at *
      have e1 : ((m : Int) + 1) ≤ (xc : Int) := by omega
      clear hm hdd hgx
      go_wp2_with fail
      go_round
      case rel => exact ⟨k + 1, by omega, by go_num⟩
      case measure => simp [intOf]; omega
    · obtain rfl : k = n := by omega
      go_wp2_with fail
      go_ret
      exact ⟨rfl, HB1.out⟩
end Go.Proofs.Ytiheibcookcbdaa
