/- The document's Same and SameAll of the same cards: contracts. -/
import Derived.Test.YtiheibcookcbdaaOwnC
set_option linter.unusedVariables false
namespace Go.Proofs.Ytiheibcookcbdaa
open Go.RowKit
/-! Same and SameAll, of cards with the same data. -/
set_option maxRecDepth 100000 in
set_option maxHeartbeats 4000000 in
theorem same_yes (nm fam qk : ByteArray) (lv : Nat) (sc en : Int) (A : Option Addr) (n c : Nat) (A' : Option Addr) (c' : Nat) (ts : List ByteArray) (hn : n = ts.length) (hl : n ≤ 8796093022208) (w : World) (B : Nat) (hB : B ≤ w.heap.size) (hs : Seg w B A (strs ts)) (hs' : Seg w B A' (strs ts)) :
    Calls Try.prog 25 #[.agg #[.string nm, .string fam, .int .u8 (lv : Int), .slice A n c, .int .i8 sc, .string qk, .int .i16 en], .agg #[.string nm, .string fam, .int .u8 (lv : Int), .slice A' n c', .int .i8 sc, .string qk, .int .i16 en]] w fun e w' => e = .returned (.bool true) ∧ Below w.heap.size w w' := by
  have hb0 : Below w.heap.size w ((w.alloc (.cells #[.string nm, .string fam, .int .u8 (lv : Int), .slice A n c, .int .i8 sc, .string qk, .int .i16 en] 37)).alloc (.cells #[.string nm, .string fam, .int .u8 (lv : Int), .slice A' n c', .int .i8 sc, .string qk, .int .i16 en] 37)) := ((Below.refl _ _).alloc (Nat.le_refl _) _).alloc (by simp) _
  have hr1 : RowAt ((w.alloc (.cells #[.string nm, .string fam, .int .u8 (lv : Int), .slice A n c, .int .i8 sc, .string qk, .int .i16 en] 37)).alloc (.cells #[.string nm, .string fam, .int .u8 (lv : Int), .slice A' n c', .int .i8 sc, .string qk, .int .i16 en] 37)) w.heap.size 37 [.string nm, .string fam, .int .u8 (lv : Int), .slice A n c, .int .i8 sc, .string qk, .int .i16 en] := (row_new w _ 37 _ rfl).alloc _
  have hr2 : RowAt ((w.alloc (.cells #[.string nm, .string fam, .int .u8 (lv : Int), .slice A n c, .int .i8 sc, .string qk, .int .i16 en] 37)).alloc (.cells #[.string nm, .string fam, .int .u8 (lv : Int), .slice A' n c', .int .i8 sc, .string qk, .int .i16 en] 37)) (w.heap.size + 1) 37 [.string nm, .string fam, .int .u8 (lv : Int), .slice A' n c', .int .i8 sc, .string qk, .int .i16 en] := row_new _ _ 37 _ (by simp)
  have HN := Lib.hid hn
  have HS := Lib.hid hs
  have HS' := Lib.hid hs'
  have HB0 := Lib.hid hb0
  have c3 := hr1.seven.2.2.2.1
  have c3' := hr2.seven.2.2.2.1
  have C3 := Lib.hid c3
  have C3' := Lib.hid c3'
  clear hn hs hs' hb0 hr1 hr2 c3 c3'
  go_enter Try.func25, Try.ntmps25
  go_wp2_with fail
  go_loopw [5] (fun iv wr => ∃ k : Nat, k ≤ n ∧ iv = .int .i64 k ∧ Below w.heap.size w wr ∧ wr.cell? ⟨w.heap.size, 3, none⟩ = some (.slice A n c) ∧ wr.cell? ⟨w.heap.size + 1, 3, none⟩ = some (.slice A' n c')) (fun iv _ => n - (intOf iv).toNat)
  case atStart => exact ⟨0, by omega, rfl, HB0.out, C3.out, C3'.out⟩
  case round =>
    obtain ⟨k, hk, rfl, hb, x3, y3⟩ := hrel
    have HB := Lib.hid hb
    clear hb
    by_cases hlt : k < n
    · have hkl : k < ts.length := by rw [← HN.out]; exact hlt
      have hki : (k : Int) < (n : Int) := by omega
      obtain ⟨b, off, rfl, _, z0⟩ := (HS.out.below (HB.out.mono hB)).strs hkl
      obtain ⟨b', off', rfl, _, z1⟩ := (HS'.out.below (HB.out.mono hB)).strs hkl
      obtain ⟨t, ht⟩ : ∃ t, t = ts[k] := ⟨_, rfl⟩
      rw [← ht] at z0 z1
      clear ht
      have e3 : (t == t) = true := beq_of.2 rfl
      have e4 : (t.toList == t.toList) = true := by simp
      go_wp2_with fail
      go_quiet (fail)
      go_wp2_with fail
      exact ⟨⟨k + 1, by omega, by go_num, below_drewN HB.out _, x3, y3⟩, by simp [intOf]; omega⟩
    · obtain rfl : k = n := by omega
      go_wp2_with fail
      go_ret
      exact ⟨rfl, HB.out⟩
set_option maxRecDepth 100000 in
set_option maxHeartbeats 4000000 in
theorem sameall_yes (A : Option Addr) (n c : Nat) (la : List Cd) (A' : Option Addr) (c' : Nat) (lb : List Cd) (hn : n = la.length) (hd : cdat la = cdat lb) (hz : CSized la) (w : World) (B : Nat) (hB : B ≤ w.heap.size) (hs : Cards w B A la) (hs' : Cards w B A' lb) :
    Calls Try.prog 17 #[.slice A n c, .slice A' n c'] w fun e w' => e = .returned (.bool true) ∧ Below w.heap.size w w' := by
  have hl : n ≤ 1466015503701 := by have := hz.n; omega
  have HN := Lib.hid hn
  have HS := Lib.hid hs
  have HS' := Lib.hid hs'
  have HD := Lib.hid hd
  have HZ := Lib.hid hz
  clear hn hs hs' hd hz
  go_enter Try.func17, Try.ntmps17
  go_wp2_with fail
  go_loopw [5] (fun iv wr => ∃ k : Nat, k ≤ n ∧ iv = .int .i64 k ∧ Below w.heap.size w wr) (fun iv _ => n - (intOf iv).toNat)
  case atStart => exact ⟨0, by omega, rfl, Below.refl _ _⟩
  case round =>
    obtain ⟨k, hk, rfl, hb⟩ := hrel
    have HB := Lib.hid hb
    clear hb
    by_cases hlt : k < n
    · have hkl : k < la.length := by rw [← HN.out]; exact hlt
      have hkl2 : k < lb.length := by rw [← cdat_len, ← HD.out, cdat_len]; exact hkl
      have hki : (k : Int) < (n : Int) := by omega
      obtain ⟨b, off, rfl, hbB, x0, x1, x2, x3, x4, x5, x6, hseg⟩ := (HS.out.below (HB.out.mono hB)).at_ hkl
      obtain ⟨b', off', rfl, hbB', y0, y1, y2, y3, y4, y5, y6, hseg'⟩ := (HS'.out.below (HB.out.mono hB)).at_ hkl2
      have hdd : la[k].d = lb[k].d := by rw [← cdat_get la hkl, ← cdat_get lb hkl2]; congr 1
      have htn := HZ.out.tn _ (List.getElem_mem hkl)
      rw [← hdd] at y0 y1 y2 y3 y4 y5 y6 hseg'
      generalize la[k].d = d at *
      obtain ⟨nm, fam, lv, ts, sc, qk, en⟩ := d
      simp only at x0 x1 x2 x3 x4 x5 x6 hseg y0 y1 y2 y3 y4 y5 y6 hseg' htn
      obtain ⟨m, hm⟩ : ∃ m, m = ts.length := ⟨_, rfl⟩
      rw [← hm] at x3 y3 htn
      generalize la[k].A = xA at *
      generalize la[k].c = xc at *
      generalize lb[k].A = yA at *
      generalize lb[k].c = yc at *
      have hsm := same_yes nm fam qk lv sc en xA m xc yA yc ts hm (by omega) wr.drew B (Nat.le_trans hB HB.out.size) hseg.drew hseg'.drew
      have HSM := Lib.hid hsm
      clear hsm hm hseg hseg' hdd
      go_wp2_with fail
      refine still_tail 8 (by kernel_rfl) (by kernel_rfl) ?_
      simp only [List.take_succ_cons, List.take_zero, List.drop_succ_cons, List.drop_zero]
      repeat still_step
      try refine wpStill_nil ?_
      go_wp2_with (first
        | (go_at_call 25; refine HSM.out.mono ?_; rintro e w3 ⟨rfl, hb3⟩; have HB3 := Lib.hid (HB.out.drew.trans (hb3.mono HB.out.size)); clear hb3))
      exact ⟨⟨k + 1, by omega, by go_num, HB3.out⟩, by simp [intOf]; omega⟩
    · obtain rfl : k = n := by omega
      go_wp2_with fail
      go_ret
      exact ⟨rfl, HB.out⟩
end Go.Proofs.Ytiheibcookcbdaa
