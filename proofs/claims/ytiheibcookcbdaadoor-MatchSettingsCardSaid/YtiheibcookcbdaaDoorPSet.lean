/- The program's Setting: the contract; the two agree. -/
import Derived.Test.YtiheibcookcbdaaDoorRSet
set_option linter.unusedVariables false
namespace Go.Proofs.YtiheibcookcbdaaDoor
open Go.RowKit
/-- What a card stands for, by the program's Setting. -/
def setF (x : Cc) : Int × Int :=
  if allOk [x] = true then match tableF x.fam with
    | none => (0, 6)
    | some T => match turnF x.qk 0 with
      | none => (0, 6)
      | some _ => if (T.length : Int) ≤ x.en then (0, 6) else if x.en < 0 then (0, 0) else ((turnF x.qk (T.getD x.en.toNat 0)).getD 0, 0)
  else (0, 70)
/-- The two Settings agree. -/
theorem set_same (x : Cc) (hen : -32768 ≤ x.en) : setR x ((tableF x.fam).getD []) = setF x := by
  unfold setR setF
  split
  · rcases hT : tableF x.fam with _ | T
    · simp only [Option.getD_none, List.length_nil]
      split
      · rfl
      · rfl
    · simp only [Option.getD_some]
      have hp := (tab_ok hT).pos
      have hs := turn_has x.qk (if 0 ≤ x.en then T.getD x.en.toNat 0 else 0) 0
      by_cases h1 : 0 ≤ x.en ∧ (T.length : Int) ≤ x.en
      · rw [if_pos h1, if_pos h1.2]
        split <;> rfl
      · rw [if_neg h1, if_neg (by omega)]
        rcases h2 : turnF x.qk 0 with _ | z
        · rw [h2] at hs
          rcases h3 : turnF x.qk (if 0 ≤ x.en then T.getD x.en.toNat 0 else 0) with _ | y
          · rfl
          · rw [h3] at hs; cases hs
        · rw [h2] at hs
          rcases h3 : turnF x.qk (if 0 ≤ x.en then T.getD x.en.toNat 0 else 0) with _ | y
          · rw [h3] at hs; cases hs
          · simp only
            by_cases hn : x.en < 0
            · rw [if_pos hn, if_neg (by omega), if_pos hn]
            · rw [if_neg hn, if_neg (by omega), if_neg hn]
              rw [if_pos (by omega)] at h3
              rw [h3]; rfl
  · rfl
set_option maxRecDepth 100000 in
set_option maxHeartbeats 16000000 in
theorem pset_any (nm fam qk : ByteArray) (lv : Nat) (sc en : Int) (A : Option Addr) (n c : Nat) (ts : List ByteArray) (hn : n = ts.length) (hc : n ≤ c) (hz : Cc.fits ⟨nm, fam, lv, ts, sc, qk, en⟩) (htn : n * 16 ≤ 140737488355328) (hsc : -128 ≤ sc ∧ sc ≤ 127) (hen : -32768 ≤ en ∧ en ≤ 32767) (w : World) (hlaid : Laid w) (B : Nat) (hB : B ≤ w.heap.size) (hs : Seg w B A (strs ts)) :
    Calls Tryd.prog 7 #[.agg #[.string nm, .string fam, .int .u8 (lv : Int), .slice A n c, .int .i8 sc, .string qk, .int .i16 en]] w fun e w' => e = .returned (.tuple #[.int .i64 (setF ⟨nm, fam, lv, ts, sc, qk, en⟩).1, .int .i64 (setF ⟨nm, fam, lv, ts, sc, qk, en⟩).2]) ∧ Below w.heap.size w w' := by
  subst hn
  have hcards := one_card (w := (w.alloc (.cells #[.string nm, .string fam, .int .u8 (lv : Int), .slice A ts.length c, .int .i8 sc, .string qk, .int .i16 en] 26))) (B := B) (by simp; omega) ⟨⟨nm, fam, lv, ts, sc, qk, en⟩, A, c⟩ (hs.alloc hB _) (by simp; omega)
  have hrc := cwrong_any (some ⟨(w.alloc (.cells #[.string nm, .string fam, .int .u8 (lv : Int), .slice A ts.length c, .int .i8 sc, .string qk, .int .i16 en] 26)).heap.size, 0, none⟩) 1 1 [⟨⟨nm, fam, lv, ts, sc, qk, en⟩, A, c⟩] rfl (one_sized _ hz (by simp; omega) hsc) _ _ (by simp) hcards
  have e1 : cdat [(⟨⟨nm, fam, lv, ts, sc, qk, en⟩, A, c⟩ : Cd)] = [⟨nm, fam, lv, ts, sc, qk, en⟩] := rfl
  rw [e1] at hrc
  have hbx := fun w1 (hb : Below (w.heap.size + 1) (w.alloc (.cells #[.string nm, .string fam, .int .u8 (lv : Int), .slice A ts.length c, .int .i8 sc, .string qk, .int .i16 en] 26)) w1) => box_cells hb
  have hw : (w.alloc (.cells #[.string nm, .string fam, .int .u8 (lv : Int), .slice A ts.length c, .int .i8 sc, .string qk, .int .i16 en] 26)).heap.size = w.heap.size + 1 := by simp
  rw [hw] at hrc
  have hb2 : ∀ w1, Below ((w.alloc (.cells #[.string nm, .string fam, .int .u8 (lv : Int), .slice A ts.length c, .int .i8 sc, .string qk, .int .i16 en] 26)).alloc (.cells #[.string nm, .string fam, .int .u8 (lv : Int), .slice A ts.length c, .int .i8 sc, .string qk, .int .i16 en] 26)).heap.size ((w.alloc (.cells #[.string nm, .string fam, .int .u8 (lv : Int), .slice A ts.length c, .int .i8 sc, .string qk, .int .i16 en] 26)).alloc (.cells #[.string nm, .string fam, .int .u8 (lv : Int), .slice A ts.length c, .int .i8 sc, .string qk, .int .i16 en] 26)) w1 → Below (w.heap.size + 1) (w.alloc (.cells #[.string nm, .string fam, .int .u8 (lv : Int), .slice A ts.length c, .int .i8 sc, .string qk, .int .i16 en] 26)) w1 := fun w1 hb =>
    ((Below.refl _ _).alloc (by simp) _).trans (hb.mono (by simp))
  have hsz := hlaid.size
  have hld : ∀ w1, Below (w.heap.size + 1) (w.alloc (.cells #[.string nm, .string fam, .int .u8 (lv : Int), .slice A ts.length c, .int .i8 sc, .string qk, .int .i16 en] 26)) w1 → Laid w1 := fun w1 hb => hlaid.below (hbx w1 hb).2 hsz
  have hst : ∀ w1 w2, Below (w.heap.size + 1) (w.alloc (.cells #[.string nm, .string fam, .int .u8 (lv : Int), .slice A ts.length c, .int .i8 sc, .string qk, .int .i16 en] 26)) w1 → Below w1.heap.size w1 w2 → Below (w.heap.size + 1) (w.alloc (.cells #[.string nm, .string fam, .int .u8 (lv : Int), .slice A ts.length c, .int .i8 sc, .string qk, .int .i16 en] 26)) w2 := fun w1 w2 h1 h2 => h1.trans (h2.mono (by have := h1.size; simp at this; omega))
  unfold setF
  simp only
  generalize allOk [⟨nm, fam, lv, ts, sc, qk, en⟩] = ok at *
  have HRC : Hid (Calls Tryd.prog 13 #[.slice (some ⟨w.heap.size + 1, 0, none⟩) 1 1] ((w.alloc (.cells #[.string nm, .string fam, .int .u8 (lv : Int), .slice A ts.length c, .int .i8 sc, .string qk, .int .i16 en] 26)).alloc (.cells #[.string nm, .string fam, .int .u8 (lv : Int), .slice A ts.length c, .int .i8 sc, .string qk, .int .i16 en] 26)) fun e w' => e = .returned (.int .i64 (if ok then 0 else 70)) ∧ Below ((w.alloc (.cells #[.string nm, .string fam, .int .u8 (lv : Int), .slice A ts.length c, .int .i8 sc, .string qk, .int .i16 en] 26)).alloc (.cells #[.string nm, .string fam, .int .u8 (lv : Int), .slice A ts.length c, .int .i8 sc, .string qk, .int .i16 en] 26)).heap.size ((w.alloc (.cells #[.string nm, .string fam, .int .u8 (lv : Int), .slice A ts.length c, .int .i8 sc, .string qk, .int .i16 en] 26)).alloc (.cells #[.string nm, .string fam, .int .u8 (lv : Int), .slice A ts.length c, .int .i8 sc, .string qk, .int .i16 en] 26)) w') := Lib.hid hrc
  have HBX := Lib.hid hbx
  have HB2 := Lib.hid hb2
  have HLD := Lib.hid hld
  have HST := Lib.hid hst
  clear hrc hbx hb2 hcards hs hz hw e1 hlaid hld hst
  rcases ok with _ | _
  · go_enter Tryd.func7, Tryd.ntmps7
    go_wp2_with (first
      | (go_at_call 13; refine HRC.out.mono ?_; rintro e w1 ⟨rfl, hb1⟩; obtain ⟨⟨x0, x1, x2, x3, x4, x5, x6⟩, hbw⟩ := HBX.out w1 (HB2.out w1 hb1); have HB3 := Lib.hid (HB2.out w1 hb1); clear hb1 hbw))
    go_ret2
    exact ⟨by rfl, (HBX.out _ HB3.out).2⟩
  rw [if_pos rfl]
  rcases hT : tableF fam with _ | T
  · simp only
    have htb : ∀ w1, Laid w1 → Calls Tryd.prog 5 #[.string fam] w1 fun e w' => e = .returned (.tuple #[.slice none 0 0, .int .i64 6]) ∧ Below w1.heap.size w1 w' := fun w1 hl => (table_any fam w1 hl).mono fun e w' ⟨h1, h2⟩ => by
      rw [hT] at h2
      exact ⟨h2, h1⟩
    have HTB := Lib.hid htb
    clear htb hT
    go_enter Tryd.func7, Tryd.ntmps7
    go_wp2_with (first
      | (go_at_call 10; refine (quirk_short qk _).mono ?_; rintro e w3 ⟨v, rfl, hb3⟩; have HB5 := Lib.hid (HST.out _ _ HB4.out hb3); obtain ⟨⟨z0, z1, z2, z3, z4, z5, z6⟩, _⟩ := HBX.out w3 HB5.out; clear hb3)
      | (go_at_call 5; refine (HTB.out _ (HLD.out _ HB3.out)).mono ?_; rintro e w2 ⟨rfl, hb2⟩; have HB4 := Lib.hid (HST.out _ _ HB3.out hb2); obtain ⟨⟨y0, y1, y2, y3, y4, y5, y6⟩, _⟩ := HBX.out w2 HB4.out; clear hb2)
      | (go_at_call 13; refine HRC.out.mono ?_; rintro e w1 ⟨rfl, hb1⟩; obtain ⟨⟨x0, x1, x2, x3, x4, x5, x6⟩, hbw⟩ := HBX.out w1 (HB2.out w1 hb1); have HB3 := Lib.hid (HB2.out w1 hb1); clear hb1 hbw))
    go_ret2
    exact ⟨by rfl, (HBX.out _ HB5.out).2⟩
  have hok := tab_ok hT
  have htb : ∀ w1, Laid w1 → Calls Tryd.prog 5 #[.string fam] w1 fun e w' => (∃ g, e = .returned (.tuple #[.slice (some ⟨g, 0, none⟩) T.length T.length, .int .i64 0]) ∧ w'.rangeAt g 0 (ints T) ∧ g < w'.heap.size) ∧ Below w1.heap.size w1 w' := fun w1 hl => (table_any fam w1 hl).mono fun e w' ⟨h1, h2⟩ => by
    rw [hT] at h2
    exact ⟨h2, h1⟩
  have htp := hok.pos
  have htl := hok.len
  have htd := hok.bd
  obtain ⟨m, hm⟩ : ∃ m, m = T.length := ⟨_, rfl⟩
  simp only [← hm] at htb htp htl ⊢
  have HTB := Lib.hid htb
  have HTD := Lib.hid htd
  have HM := Lib.hid hm
  clear htb hT hok htd hm
  have hq := quirk_short qk
  rcases hturn : turnF qk 0 with _ | y
  · rw [hturn] at hq
    simp only
    have HQ := Lib.hid hq
    clear hq hturn
    go_enter Tryd.func7, Tryd.ntmps7
    go_wp2_with (first
      | (go_at_call 10; refine (HQ.out _).mono ?_; rintro e w3 ⟨v, rfl, hb3⟩; have HB5 := Lib.hid (HST.out _ _ HB4.out hb3); obtain ⟨⟨z0, z1, z2, z3, z4, z5, z6⟩, _⟩ := HBX.out w3 HB5.out; clear hb3)
      | (go_at_call 5; refine (HTB.out _ (HLD.out _ HB3.out)).mono ?_; rintro e w2 ⟨⟨g, rfl, _, _⟩, hb2⟩; have HB4 := Lib.hid (HST.out _ _ HB3.out hb2); obtain ⟨⟨y0, y1, y2, y3, y4, y5, y6⟩, _⟩ := HBX.out w2 HB4.out; clear hb2)
      | (go_at_call 13; refine HRC.out.mono ?_; rintro e w1 ⟨rfl, hb1⟩; obtain ⟨⟨x0, x1, x2, x3, x4, x5, x6⟩, hbw⟩ := HBX.out w1 (HB2.out w1 hb1); have HB3 := Lib.hid (HB2.out w1 hb1); clear hb1 hbw))
    go_ret2
    exact ⟨by rfl, (HBX.out _ HB5.out).2⟩
  simp only
  by_cases hge : (m : Int) ≤ en
  · rw [hturn] at hq
    have HQ := Lib.hid hq
    have e1 : decide ((m : Int) ≤ en) = true := by simp; omega
    rw [if_pos hge]
    clear hq hturn
    go_enter Tryd.func7, Tryd.ntmps7
    go_wp2_with (first
      | (go_at_call 10; refine (HQ.out _).mono ?_; rintro e w3 ⟨v, rfl, hb3⟩; have HB5 := Lib.hid (HST.out _ _ HB4.out hb3); obtain ⟨⟨z0, z1, z2, z3, z4, z5, z6⟩, _⟩ := HBX.out w3 HB5.out; clear hb3)
      | (go_at_call 5; refine (HTB.out _ (HLD.out _ HB3.out)).mono ?_; rintro e w2 ⟨⟨g, rfl, _, _⟩, hb2⟩; have HB4 := Lib.hid (HST.out _ _ HB3.out hb2); obtain ⟨⟨y0, y1, y2, y3, y4, y5, y6⟩, _⟩ := HBX.out w2 HB4.out; clear hb2)
      | (go_at_call 13; refine HRC.out.mono ?_; rintro e w1 ⟨rfl, hb1⟩; obtain ⟨⟨x0, x1, x2, x3, x4, x5, x6⟩, hbw⟩ := HBX.out w1 (HB2.out w1 hb1); have HB3 := Lib.hid (HB2.out w1 hb1); clear hb1 hbw))
    go_ret2
    exact ⟨by rfl, (HBX.out _ HB5.out).2⟩
  have e1 : decide ((m : Int) ≤ en) = false := by simp; omega
  rw [if_neg hge]
  by_cases hneg : en < 0
  · rw [hturn] at hq
    have HQ := Lib.hid hq
    have e2 : decide (en < 0) = true := by simp; omega
    rw [if_pos hneg]
    clear hq hturn
    go_enter Tryd.func7, Tryd.ntmps7
    go_wp2_with (first
      | (go_at_call 10; refine (HQ.out _).mono ?_; rintro e w3 ⟨v, rfl, hb3⟩; have HB5 := Lib.hid (HST.out _ _ HB4.out hb3); obtain ⟨⟨z0, z1, z2, z3, z4, z5, z6⟩, _⟩ := HBX.out w3 HB5.out; clear hb3)
      | (go_at_call 5; refine (HTB.out _ (HLD.out _ HB3.out)).mono ?_; rintro e w2 ⟨⟨g, rfl, _, _⟩, hb2⟩; have HB4 := Lib.hid (HST.out _ _ HB3.out hb2); obtain ⟨⟨y0, y1, y2, y3, y4, y5, y6⟩, _⟩ := HBX.out w2 HB4.out; clear hb2)
      | (go_at_call 13; refine HRC.out.mono ?_; rintro e w1 ⟨rfl, hb1⟩; obtain ⟨⟨x0, x1, x2, x3, x4, x5, x6⟩, hbw⟩ := HBX.out w1 (HB2.out w1 hb1); have HB3 := Lib.hid (HB2.out w1 hb1); clear hb1 hbw))
    go_ret2
    exact ⟨by rfl, (HBX.out _ HB5.out).2⟩
  have e2 : decide (en < 0) = false := by simp; omega
  rw [if_neg hneg]
  obtain ⟨i, rfl⟩ : ∃ i : Nat, en = (i : Int) := ⟨en.toNat, by omega⟩
  have him : i < m := by omega
  have hii : (i : Int) < (m : Int) := by omega
  have hil : i < T.length := by rw [← HM.out]; exact him
  have hbd := HTD.out _ (List.getElem_mem hil)
  have hget : T.getD ((i : Int).toNat) 0 = T[i] := by simp [List.getD, hil]
  rw [hget]
  have hcell : ∀ (w1 : World) g, w1.rangeAt g 0 (ints T) → w1.cell? ⟨g, i, none⟩ = some (.int .i64 T[i]) := fun w1 g h => by
    have := h i (.int .i64 T[i]) (by unfold ints; simp [hil])
    rw [Nat.zero_add] at this
    exact this
  obtain ⟨n, hn⟩ : ∃ n, n = T[i] := ⟨_, rfl⟩
  rw [← hn] at hbd ⊢
  simp only [← hn] at hcell
  have HCELL := Lib.hid hcell
  clear hcell hget hn hq
  have hway := turn_ways qk
  rcases hway with h | h | h | h | h | h
  · have hv : (turnF qk n).getD 0 = n.tdiv 1 := by rw [h]; simp [turnF]
    rw [hv]
    have hq := quirk_by qk 1 (.inl ⟨h, rfl⟩)
    have HQ := Lib.hid hq
    clear hv h hturn hq
    go_enter Tryd.func7, Tryd.ntmps7
    go_wp2_with (first
      | (go_at_call 28; refine (byd n 1 (by decide) q w3 hbd.1 hbd.2 HC3.out).mono ?_; rintro e w4 ⟨rfl, rfl⟩)
      | (go_at_call 10; refine (HQ.out _).mono ?_; rintro e w3 ⟨q, rfl, hc3, _, hb3⟩; have HB5 := Lib.hid (HST.out _ _ HB4.out hb3); obtain ⟨⟨z0, z1, z2, z3, z4, z5, z6⟩, _⟩ := HBX.out w3 HB5.out; have u3 := (hb3.cell (p := ⟨g, i, none⟩) HG2.out).trans u2; have HC3 := Lib.hid hc3; clear hb3 hc3)
      | (go_at_call 5; refine (HTB.out _ (HLD.out _ HB3.out)).mono ?_; rintro e w2 ⟨⟨g, rfl, hr2, hg2⟩, hb2⟩; have HB4 := Lib.hid (HST.out _ _ HB3.out hb2); obtain ⟨⟨y0, y1, y2, y3, y4, y5, y6⟩, _⟩ := HBX.out w2 HB4.out; have u2 := HCELL.out w2 g hr2; have HG2 := Lib.hid hg2; clear hb2 hr2 hg2)
      | (go_at_call 13; refine HRC.out.mono ?_; rintro e w1 ⟨rfl, hb1⟩; obtain ⟨⟨x0, x1, x2, x3, x4, x5, x6⟩, hbw⟩ := HBX.out w1 (HB2.out w1 hb1); have HB3 := Lib.hid (HB2.out w1 hb1); clear hb1 hbw))
    go_ret2
    exact ⟨by first | rfl | simp, (HBX.out _ HB5.out).2⟩
  · have hv : (turnF qk n).getD 0 = n.tdiv 4 := by rw [h]; rfl
    rw [hv]
    have hq := quirk_by qk 4 (.inr (.inl ⟨h, rfl⟩))
    have HQ := Lib.hid hq
    clear hv h hturn hq
    go_enter Tryd.func7, Tryd.ntmps7
    go_wp2_with (first
      | (go_at_call 28; refine (byd n 4 (by decide) q w3 hbd.1 hbd.2 HC3.out).mono ?_; rintro e w4 ⟨rfl, rfl⟩)
      | (go_at_call 10; refine (HQ.out _).mono ?_; rintro e w3 ⟨q, rfl, hc3, _, hb3⟩; have HB5 := Lib.hid (HST.out _ _ HB4.out hb3); obtain ⟨⟨z0, z1, z2, z3, z4, z5, z6⟩, _⟩ := HBX.out w3 HB5.out; have u3 := (hb3.cell (p := ⟨g, i, none⟩) HG2.out).trans u2; have HC3 := Lib.hid hc3; clear hb3 hc3)
      | (go_at_call 5; refine (HTB.out _ (HLD.out _ HB3.out)).mono ?_; rintro e w2 ⟨⟨g, rfl, hr2, hg2⟩, hb2⟩; have HB4 := Lib.hid (HST.out _ _ HB3.out hb2); obtain ⟨⟨y0, y1, y2, y3, y4, y5, y6⟩, _⟩ := HBX.out w2 HB4.out; have u2 := HCELL.out w2 g hr2; have HG2 := Lib.hid hg2; clear hb2 hr2 hg2)
      | (go_at_call 13; refine HRC.out.mono ?_; rintro e w1 ⟨rfl, hb1⟩; obtain ⟨⟨x0, x1, x2, x3, x4, x5, x6⟩, hbw⟩ := HBX.out w1 (HB2.out w1 hb1); have HB3 := Lib.hid (HB2.out w1 hb1); clear hb1 hbw))
    go_ret2
    exact ⟨by first | rfl | simp, (HBX.out _ HB5.out).2⟩
  · have hv : (turnF qk n).getD 0 = n.tdiv 2 := by rw [h]; rfl
    rw [hv]
    have hq := quirk_by qk 2 (.inr (.inr ⟨h, rfl⟩))
    have HQ := Lib.hid hq
    clear hv h hturn hq
    go_enter Tryd.func7, Tryd.ntmps7
    go_wp2_with (first
      | (go_at_call 28; refine (byd n 2 (by decide) q w3 hbd.1 hbd.2 HC3.out).mono ?_; rintro e w4 ⟨rfl, rfl⟩)
      | (go_at_call 10; refine (HQ.out _).mono ?_; rintro e w3 ⟨q, rfl, hc3, _, hb3⟩; have HB5 := Lib.hid (HST.out _ _ HB4.out hb3); obtain ⟨⟨z0, z1, z2, z3, z4, z5, z6⟩, _⟩ := HBX.out w3 HB5.out; have u3 := (hb3.cell (p := ⟨g, i, none⟩) HG2.out).trans u2; have HC3 := Lib.hid hc3; clear hb3 hc3)
      | (go_at_call 5; refine (HTB.out _ (HLD.out _ HB3.out)).mono ?_; rintro e w2 ⟨⟨g, rfl, hr2, hg2⟩, hb2⟩; have HB4 := Lib.hid (HST.out _ _ HB3.out hb2); obtain ⟨⟨y0, y1, y2, y3, y4, y5, y6⟩, _⟩ := HBX.out w2 HB4.out; have u2 := HCELL.out w2 g hr2; have HG2 := Lib.hid hg2; clear hb2 hr2 hg2)
      | (go_at_call 13; refine HRC.out.mono ?_; rintro e w1 ⟨rfl, hb1⟩; obtain ⟨⟨x0, x1, x2, x3, x4, x5, x6⟩, hbw⟩ := HBX.out w1 (HB2.out w1 hb1); have HB3 := Lib.hid (HB2.out w1 hb1); clear hb1 hbw))
    go_ret2
    exact ⟨by first | rfl | simp, (HBX.out _ HB5.out).2⟩
  · have hv : (turnF qk n).getD 0 = wrap64 (n + n) := by rw [h]; rfl
    rw [hv]
    have hod := fun w => dbl n w hbd.1 hbd.2
    obtain ⟨y2, hy2⟩ : ∃ y2, y2 = (wrap64 (n + n)) := ⟨_, rfl⟩
    rw [← hy2]
    simp only [← hy2] at hod
    have HOD := Lib.hid hod
    clear hod hy2
    have hq := quirk_fn qk 29 (.inl ⟨h, rfl⟩)
    have HQ := Lib.hid hq
    clear hv h hturn hq
    go_enter Tryd.func7, Tryd.ntmps7
    go_wp2_with (first
      | (go_at_call 29; refine (HOD.out _).mono ?_; rintro e w4 ⟨rfl, rfl⟩)
      | (go_at_call 10; refine (HQ.out _).mono ?_; rintro e w3 ⟨rfl, hb3⟩; have HB5 := Lib.hid (HST.out _ _ HB4.out hb3); obtain ⟨⟨z0, z1, z2, z3, z4, z5, z6⟩, _⟩ := HBX.out w3 HB5.out; have u3 := (hb3.cell (p := ⟨g, i, none⟩) HG2.out).trans u2; clear hb3)
      | (go_at_call 5; refine (HTB.out _ (HLD.out _ HB3.out)).mono ?_; rintro e w2 ⟨⟨g, rfl, hr2, hg2⟩, hb2⟩; have HB4 := Lib.hid (HST.out _ _ HB3.out hb2); obtain ⟨⟨y0, y1, y2, y3, y4, y5, y6⟩, _⟩ := HBX.out w2 HB4.out; have u2 := HCELL.out w2 g hr2; have HG2 := Lib.hid hg2; clear hb2 hr2 hg2)
      | (go_at_call 13; refine HRC.out.mono ?_; rintro e w1 ⟨rfl, hb1⟩; obtain ⟨⟨x0, x1, x2, x3, x4, x5, x6⟩, hbw⟩ := HBX.out w1 (HB2.out w1 hb1); have HB3 := Lib.hid (HB2.out w1 hb1); clear hb1 hbw))
    go_ret2
    exact ⟨by rfl, (HBX.out _ HB5.out).2⟩
  · have hv : (turnF qk n).getD 0 = if n.tmod 2 = 0 then n else wrap64 (-n) := by rw [h]; rfl
    rw [hv]
    have hod := fun w => odd_ n w hbd.1 hbd.2
    obtain ⟨y2, hy2⟩ : ∃ y2, y2 = (if n.tmod 2 = 0 then n else wrap64 (-n)) := ⟨_, rfl⟩
    rw [← hy2]
    simp only [← hy2] at hod
    have HOD := Lib.hid hod
    clear hod hy2
    have hq := quirk_fn qk 30 (.inr ⟨h, rfl⟩)
    have HQ := Lib.hid hq
    clear hv h hturn hq
    go_enter Tryd.func7, Tryd.ntmps7
    go_wp2_with (first
      | (go_at_call 30; refine (HOD.out _).mono ?_; rintro e w4 ⟨rfl, rfl⟩)
      | (go_at_call 10; refine (HQ.out _).mono ?_; rintro e w3 ⟨rfl, hb3⟩; have HB5 := Lib.hid (HST.out _ _ HB4.out hb3); obtain ⟨⟨z0, z1, z2, z3, z4, z5, z6⟩, _⟩ := HBX.out w3 HB5.out; have u3 := (hb3.cell (p := ⟨g, i, none⟩) HG2.out).trans u2; clear hb3)
      | (go_at_call 5; refine (HTB.out _ (HLD.out _ HB3.out)).mono ?_; rintro e w2 ⟨⟨g, rfl, hr2, hg2⟩, hb2⟩; have HB4 := Lib.hid (HST.out _ _ HB3.out hb2); obtain ⟨⟨y0, y1, y2, y3, y4, y5, y6⟩, _⟩ := HBX.out w2 HB4.out; have u2 := HCELL.out w2 g hr2; have HG2 := Lib.hid hg2; clear hb2 hr2 hg2)
      | (go_at_call 13; refine HRC.out.mono ?_; rintro e w1 ⟨rfl, hb1⟩; obtain ⟨⟨x0, x1, x2, x3, x4, x5, x6⟩, hbw⟩ := HBX.out w1 (HB2.out w1 hb1); have HB3 := Lib.hid (HB2.out w1 hb1); clear hb1 hbw))
    go_ret2
    exact ⟨by rfl, (HBX.out _ HB5.out).2⟩
  · exfalso
    unfold turnF at hturn
    rw [if_neg h.1, if_neg h.2.1, if_neg h.2.2.1, if_neg h.2.2.2.1, if_neg h.2.2.2.2] at hturn
    cases hturn
end Go.Proofs.YtiheibcookcbdaaDoor
