/- The document's Setting: the contract. -/
import Derived.Test.YtiheibcookcbdaaDoorQuirkC
import Derived.Test.YtiheibcookcbdaaDoorOwnC
set_option linter.unusedVariables false
namespace Go.Proofs.YtiheibcookcbdaaDoor
open Go.RowKit
/-- What a card stands for, by the document's Setting, out of a table. -/
def setR (x : Cc) (T : List Int) : Int × Int :=
  if allOk [x] = true then
    if 0 ≤ x.en ∧ (T.length : Int) ≤ x.en then (0, 6)
    else if T.length = 0 then (0, 6)
    else match turnF x.qk (if 0 ≤ x.en then T.getD x.en.toNat 0 else 0) with
      | none => (0, 6)
      | some y => if x.en < 0 then (0, 0) else (y, 0)
  else (0, 70)
/-- What may be of a table. -/
structure TabOk (T : List Int) : Prop where
  pos : 0 < T.length
  len : T.length ≤ 32
  bd : ∀ x ∈ T, -9223372036854775808 ≤ x ∧ x ≤ 9223372036854775807
theorem tab_ok {k : ByteArray} {T : List Int} (h : tableF k = some T) : TabOk T := by
  rcases fam_yes h with ⟨_, rfl⟩ | ⟨_, rfl⟩ | ⟨_, rfl⟩ | ⟨_, rfl⟩ | ⟨_, rfl⟩
  all_goals exact ⟨by decide, by decide, by decide⟩
theorem one_card {w : World} {B : Nat} (hB : B ≤ w.heap.size) (x : Cd) (hs : Seg w B x.A (strs x.d.ts)) (hc : x.d.ts.length ≤ x.c) : Cards (w.alloc (.cells x.cells.toArray 26)) (w.heap.size + 1) (some ⟨w.heap.size, 0, none⟩) [x] := by
  refine ⟨?_, ?_, ?_⟩
  · have := seg_new w 26 x.cells.toArray
    have e : cdCells [x] = x.cells := by simp [cdCells]
    rw [e]
    exact this
  · intro y hy
    rw [List.mem_singleton] at hy
    subst hy
    exact (hs.alloc hB _).more (by omega)
  · intro y hy
    rw [List.mem_singleton] at hy
    subst hy
    exact hc
theorem one_sized (x : Cd) (hf : x.d.fits) (ht : x.d.ts.length * 16 ≤ 140737488355328) (hs : -128 ≤ x.d.sc ∧ x.d.sc ≤ 127) : CSized [x] :=
  ⟨by simp, fun y hy => by rw [List.mem_singleton] at hy; subst hy; exact hf, fun y hy => by rw [List.mem_singleton] at hy; subst hy; exact ht, fun y hy => by rw [List.mem_singleton] at hy; subst hy; exact hs⟩
set_option maxRecDepth 100000 in
set_option maxHeartbeats 8000000 in
theorem rset_any (nm fam qk : ByteArray) (lv : Nat) (sc en : Int) (A : Option Addr) (n c : Nat) (ts : List ByteArray) (hn : n = ts.length) (hc : n ≤ c) (hz : Cc.fits ⟨nm, fam, lv, ts, sc, qk, en⟩) (htn : n * 16 ≤ 140737488355328) (hsc : -128 ≤ sc ∧ sc ≤ 127) (hen : -32768 ≤ en ∧ en ≤ 32767) (w : World) (B : Nat) (hB : B ≤ w.heap.size) (hs : Seg w B A (strs ts)) (g m cT : Nat) (AT : Option Addr) (T : List Int) (hm : m = T.length) (hl : m ≤ 32) (hT : ∀ x ∈ T, -9223372036854775808 ≤ x ∧ x ≤ 9223372036854775807) (hst : Seg w w.heap.size AT (ints T)) :
    Calls Tryd.prog 6 #[.agg #[.string nm, .string fam, .int .u8 (lv : Int), .slice A n c, .int .i8 sc, .string qk, .int .i16 en], .slice AT m cT] w fun e w' => e = .returned (.tuple #[.int .i64 (setR ⟨nm, fam, lv, ts, sc, qk, en⟩ T).1, .int .i64 (setR ⟨nm, fam, lv, ts, sc, qk, en⟩ T).2]) ∧ Below w.heap.size w w' := by
  subst hn
  have hcards := one_card (w := w.alloc (.cells #[.string nm, .string fam, .int .u8 (lv : Int), .slice A ts.length c, .int .i8 sc, .string qk, .int .i16 en] 26)) (B := B) (by simp; omega) ⟨⟨nm, fam, lv, ts, sc, qk, en⟩, A, c⟩ (hs.alloc hB _) (by simp; omega)
  have hrc := rcards_any (some ⟨(w.alloc (.cells #[.string nm, .string fam, .int .u8 (lv : Int), .slice A ts.length c, .int .i8 sc, .string qk, .int .i16 en] 26)).heap.size, 0, none⟩) 1 1 [⟨⟨nm, fam, lv, ts, sc, qk, en⟩, A, c⟩] rfl (Nat.le_refl _) (one_sized _ hz (by simp; omega) hsc) _ _ (by simp) hcards
  have e1 : cdat [(⟨⟨nm, fam, lv, ts, sc, qk, en⟩, A, c⟩ : Cd)] = [⟨nm, fam, lv, ts, sc, qk, en⟩] := rfl
  rw [e1] at hrc
  have hbx := fun w1 (hb : Below (w.heap.size + 1) (w.alloc (.cells #[.string nm, .string fam, .int .u8 (lv : Int), .slice A ts.length c, .int .i8 sc, .string qk, .int .i16 en] 26)) w1) => box_cells hb
  have hw : (w.alloc (.cells #[.string nm, .string fam, .int .u8 (lv : Int), .slice A ts.length c, .int .i8 sc, .string qk, .int .i16 en] 26)).heap.size = w.heap.size + 1 := by simp
  rw [hw] at hrc
  have hb2 : ∀ w1, Below ((w.alloc (.cells #[.string nm, .string fam, .int .u8 (lv : Int), .slice A ts.length c, .int .i8 sc, .string qk, .int .i16 en] 26)).alloc (.cells #[.string nm, .string fam, .int .u8 (lv : Int), .slice A ts.length c, .int .i8 sc, .string qk, .int .i16 en] 26)).heap.size ((w.alloc (.cells #[.string nm, .string fam, .int .u8 (lv : Int), .slice A ts.length c, .int .i8 sc, .string qk, .int .i16 en] 26)).alloc (.cells #[.string nm, .string fam, .int .u8 (lv : Int), .slice A ts.length c, .int .i8 sc, .string qk, .int .i16 en] 26)) w1 → Below (w.heap.size + 1) (w.alloc (.cells #[.string nm, .string fam, .int .u8 (lv : Int), .slice A ts.length c, .int .i8 sc, .string qk, .int .i16 en] 26)) w1 := fun w1 hb =>
    ((Below.refl _ _).alloc (by simp) _).trans (hb.mono (by simp))
  unfold setR
  simp only
  generalize allOk [⟨nm, fam, lv, ts, sc, qk, en⟩] = ok at *
  have HRC : Hid (Calls Tryd.prog 12 #[.slice (some ⟨w.heap.size + 1, 0, none⟩) 1 1] ((w.alloc (.cells #[.string nm, .string fam, .int .u8 (lv : Int), .slice A ts.length c, .int .i8 sc, .string qk, .int .i16 en] 26)).alloc (.cells #[.string nm, .string fam, .int .u8 (lv : Int), .slice A ts.length c, .int .i8 sc, .string qk, .int .i16 en] 26)) fun e w' => e = .returned (.bool ok) ∧ Below ((w.alloc (.cells #[.string nm, .string fam, .int .u8 (lv : Int), .slice A ts.length c, .int .i8 sc, .string qk, .int .i16 en] 26)).alloc (.cells #[.string nm, .string fam, .int .u8 (lv : Int), .slice A ts.length c, .int .i8 sc, .string qk, .int .i16 en] 26)).heap.size ((w.alloc (.cells #[.string nm, .string fam, .int .u8 (lv : Int), .slice A ts.length c, .int .i8 sc, .string qk, .int .i16 en] 26)).alloc (.cells #[.string nm, .string fam, .int .u8 (lv : Int), .slice A ts.length c, .int .i8 sc, .string qk, .int .i16 en] 26)) w') := Lib.hid hrc
  have HBX := Lib.hid hbx
  have HB2 := Lib.hid hb2
  have HT := Lib.hid hT
  have HM := Lib.hid hm
  have HST := Lib.hid hst
  clear hrc hbx hb2 hT hcards hs hm hz hw e1 hst
  rcases ok with _ | _
  · go_enter Tryd.func6, Tryd.ntmps6
    go_wp2_with (first
      | (go_at_call 12; refine HRC.out.mono ?_; rintro e w1 ⟨rfl, hb1⟩; obtain ⟨⟨x0, x1, x2, x3, x4, x5, x6⟩, hbw⟩ := HBX.out w1 (HB2.out w1 hb1); have HBW := Lib.hid hbw; clear hb1 hbw))
    go_ret2
    exact ⟨by rfl, HBW.out⟩
  by_cases h0 : 0 ≤ en
  · by_cases hlt : (m : Int) ≤ en
    · have e1 : decide ((m : Int) ≤ en) = true := by simp; omega
      have e2 : decide ((0 : Int) ≤ en) = true := by simp; omega
      rw [if_pos rfl, if_pos ⟨h0, by rw [← HM.out]; exact hlt⟩]
      go_enter Tryd.func6, Tryd.ntmps6
      go_wp2_with (first
        | (go_at_call 12; refine HRC.out.mono ?_; rintro e w1 ⟨rfl, hb1⟩; obtain ⟨⟨x0, x1, x2, x3, x4, x5, x6⟩, hbw⟩ := HBX.out w1 (HB2.out w1 hb1); have HBW := Lib.hid hbw; clear hb1 hbw))
      go_ret2
      exact ⟨by rfl, HBW.out⟩
    obtain ⟨i, rfl⟩ : ∃ i : Nat, en = (i : Int) := ⟨en.toNat, by omega⟩
    have him : i < m := by omega
    have hil : i < T.length := by rw [← HM.out]; exact him
    obtain ⟨tb, to_, rfl, htb, hcell⟩ := HST.out.int hil
    have hbd := HT.out _ (List.getElem_mem hil)
    have hget : T.getD ((i : Int).toNat) 0 = T[i] := by simp [List.getD, hil]
    rw [if_pos rfl, if_neg (by rw [← HM.out]; omega), if_neg (by omega), if_pos (by omega), hget]
    obtain ⟨v, hv⟩ : ∃ v, v = T[i] := ⟨_, rfl⟩
    rw [← hv] at hcell hbd ⊢
    have htd := fun w1 => turned_any qk v w1 hbd.1 hbd.2
    have hcl : ∀ w1, Below w.heap.size w w1 → w1.cell? ⟨tb, to_ + i, none⟩ = some (.int .i64 v) := fun w1 hb => (hb.cell (p := ⟨tb, to_ + i, none⟩) htb).trans hcell
    have HCL := Lib.hid hcl
    have e1 : decide ((m : Int) ≤ (i : Int)) = false := by simp; omega
    have e2 : decide ((0 : Int) ≤ (i : Int)) = true := by simp
    have e3 : decide ((i : Int) < 0) = false := by simp
    have e4 : ((m : Int) == 0) = false := by rw [beq_eq_false_iff_ne]; omega
    have e5 : (m == 0) = false := by rw [beq_eq_false_iff_ne]; omega
    have hii : (i : Int) < (m : Int) := by omega
    clear hv hcell hget hcl
    rcases hturn : turnF qk v with _ | y
    · have hret : TurnRet qk v = .returned (.tuple #[.int .i64 0, .bool false]) := by unfold TurnRet; rw [hturn]
      simp only [hret] at htd
      have HTD := Lib.hid htd
      clear htd hturn hret
      go_enter Tryd.func6, Tryd.ntmps6
      go_wp2_with (first
        | (go_at_call 9; refine (HTD.out _).mono ?_; rintro e w2 ⟨rfl, rfl⟩)
        | (go_at_call 12; refine HRC.out.mono ?_; rintro e w1 ⟨rfl, hb1⟩; obtain ⟨⟨x0, x1, x2, x3, x4, x5, x6⟩, hbw⟩ := HBX.out w1 (HB2.out w1 hb1); have y0 := HCL.out w1 hbw; have HBW := Lib.hid hbw; clear hb1 hbw))
      go_ret2
      exact ⟨by rfl, HBW.out⟩
    · simp only
      rw [if_neg (by omega)]
      have hret : TurnRet qk v = .returned (.tuple #[.int .i64 y, .bool true]) := by unfold TurnRet; rw [hturn]
      simp only [hret] at htd
      have HTD := Lib.hid htd
      clear htd hturn hret
      go_enter Tryd.func6, Tryd.ntmps6
      go_wp2_with (first
        | (go_at_call 9; refine (HTD.out _).mono ?_; rintro e w2 ⟨rfl, rfl⟩)
        | (go_at_call 12; refine HRC.out.mono ?_; rintro e w1 ⟨rfl, hb1⟩; obtain ⟨⟨x0, x1, x2, x3, x4, x5, x6⟩, hbw⟩ := HBX.out w1 (HB2.out w1 hb1); have y0 := HCL.out w1 hbw; have HBW := Lib.hid hbw; clear hb1 hbw))
      go_ret2
      exact ⟨by rfl, HBW.out⟩
  · have e2 : decide ((0 : Int) ≤ en) = false := by simp; omega
    have e3 : decide (en < 0) = true := by simp; omega
    rw [if_pos rfl, if_neg (by omega)]
    by_cases hm0 : m = 0
    · rw [if_pos (by rw [← HM.out]; exact hm0)]
      subst hm0
      go_enter Tryd.func6, Tryd.ntmps6
      go_wp2_with (first
        | (go_at_call 12; refine HRC.out.mono ?_; rintro e w1 ⟨rfl, hb1⟩; obtain ⟨⟨x0, x1, x2, x3, x4, x5, x6⟩, hbw⟩ := HBX.out w1 (HB2.out w1 hb1); have HBW := Lib.hid hbw; clear hb1 hbw))
      go_ret2
      exact ⟨by rfl, HBW.out⟩
    rw [if_neg (by rw [← HM.out]; exact hm0), if_neg h0]
    have e4 : ((m : Int) == 0) = false := by rw [beq_eq_false_iff_ne]; omega
    have e5 : (m == 0) = false := by rw [beq_eq_false_iff_ne]; omega
    have htd := fun w1 => turned_any qk 0 w1 (by omega) (by omega)
    rcases hturn : turnF qk 0 with _ | y
    · have hret : TurnRet qk 0 = .returned (.tuple #[.int .i64 0, .bool false]) := by unfold TurnRet; rw [hturn]
      simp only [hret] at htd
      have HTD := Lib.hid htd
      clear htd hturn hret
      go_enter Tryd.func6, Tryd.ntmps6
      go_wp2_with (first
        | (go_at_call 9; refine (HTD.out _).mono ?_; rintro e w2 ⟨rfl, rfl⟩)
        | (go_at_call 12; refine HRC.out.mono ?_; rintro e w1 ⟨rfl, hb1⟩; obtain ⟨⟨x0, x1, x2, x3, x4, x5, x6⟩, hbw⟩ := HBX.out w1 (HB2.out w1 hb1); have HBW := Lib.hid hbw; clear hb1 hbw))
      go_ret2
      exact ⟨by rfl, HBW.out⟩
    · simp only
      rw [if_pos (by omega)]
      have hret : TurnRet qk 0 = .returned (.tuple #[.int .i64 y, .bool true]) := by unfold TurnRet; rw [hturn]
      simp only [hret] at htd
      have HTD := Lib.hid htd
      clear htd hturn hret
      go_enter Tryd.func6, Tryd.ntmps6
      go_wp2_with (first
        | (go_at_call 9; refine (HTD.out _).mono ?_; rintro e w2 ⟨rfl, rfl⟩)
        | (go_at_call 12; refine HRC.out.mono ?_; rintro e w1 ⟨rfl, hb1⟩; obtain ⟨⟨x0, x1, x2, x3, x4, x5, x6⟩, hbw⟩ := HBX.out w1 (HB2.out w1 hb1); have HBW := Lib.hid hbw; clear hb1 hbw))
      go_ret2
      exact ⟨by rfl, HBW.out⟩
end Go.Proofs.YtiheibcookcbdaaDoor
