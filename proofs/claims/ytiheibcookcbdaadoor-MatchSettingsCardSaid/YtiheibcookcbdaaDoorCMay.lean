/- The program's may: the contract. -/
import Derived.Test.YtiheibcookcbdaaDoorRMay
import Derived.Lib.IndexAny
set_option linter.unusedVariables false
namespace Go.Proofs.YtiheibcookcbdaaDoor
open Go.RowKit
theorem Seg.take {w : World} {B : Nat} {a : Option Addr} {xs : List Value} (h : Seg w B a xs) (k : Nat) : Seg w B a (xs.take k) := fun hne => by
  obtain ⟨b, off, e, hb, hc⟩ := h (by rintro rfl; simp at hne)
  refine ⟨b, off, e, hb, fun j u hu => hc j u ?_⟩
  rw [List.getElem?_take] at hu
  split at hu
  · exact hu
  · cases hu
theorem strs_take (l : List ByteArray) (k : Nat) : (strs l).take k = strs (l.take k) := by simp [strs]
theorem zero_at (s : ByteArray) : (0 ≤ Lib.indexByte s.data.toList (0 : Int).toNat.toUInt8) ↔ ¬ NoZero s s.size := by
  have h := Lib.contains_iff_indexByte s.data.toList (0 : Int).toNat.toUInt8
  constructor
  · intro h0 hn
    rw [decide_eq_true h0] at h
    rw [List.contains_iff_mem] at h
    obtain ⟨i, hi, e⟩ := List.mem_iff_getElem.1 h
    have h2 := hn i (by simpa using hi) (by simpa using hi)
    apply h2
    have : s[i]'(by simpa using hi) = (0 : Int).toNat.toUInt8 := e
    rw [this]; rfl
  · intro hn
    rcases hd : decide (0 ≤ Lib.indexByte s.data.toList (0 : Int).toNat.toUInt8)
    · rw [hd] at h
      exact absurd (fun m hm _ e => by
        have hmem : (0 : Int).toNat.toUInt8 ∈ s.data.toList := by
          refine List.mem_iff_getElem.2 ⟨m, by simpa using hm, ?_⟩
          have : s[m].toNat = (0 : UInt8).toNat := e
          exact UInt8.toNat_inj.1 this
        rw [← List.contains_iff_mem, h] at hmem
        cases hmem) hn
    · exact of_decide_eq_true hd
/-- A card in a box: its cells stay. -/
theorem box_cells {w w1 : World} {u0 u1 u2 u3 u4 u5 u6 : Value} (hb : Below (w.heap.size + 1) (w.alloc (.cells #[u0, u1, u2, u3, u4, u5, u6] 26)) w1) :
    (w1.cell? ⟨w.heap.size, 0, none⟩ = some u0 ∧ w1.cell? ⟨w.heap.size, 1, none⟩ = some u1 ∧ w1.cell? ⟨w.heap.size, 2, none⟩ = some u2 ∧ w1.cell? ⟨w.heap.size, 3, none⟩ = some u3 ∧ w1.cell? ⟨w.heap.size, 4, none⟩ = some u4 ∧
      w1.cell? ⟨w.heap.size, 5, none⟩ = some u5 ∧ w1.cell? ⟨w.heap.size, 6, none⟩ = some u6) ∧ Below w.heap.size w w1 := by
  have hr : RowAt w1 w.heap.size 26 [u0, u1, u2, u3, u4, u5, u6] := RowAt.keep (w := w.alloc (.cells #[u0, u1, u2, u3, u4, u5, u6] 26)) ⟨_, heap_alloc_new _ _, rfl⟩ (hb.block _ (by omega))
  exact ⟨⟨hr.cell (k := 0) (by simp), hr.cell (k := 1) (by simp), hr.cell (k := 2) (by simp), hr.cell (k := 3) (by simp), hr.cell (k := 4) (by simp), hr.cell (k := 5) (by simp), hr.cell (k := 6) (by simp)⟩, ((Below.refl _ _).alloc (Nat.le_refl _) _).trans (hb.mono (by omega))⟩
set_option maxRecDepth 100000 in
set_option maxHeartbeats 8000000 in
theorem cmay_any (nm fam qk : ByteArray) (lv : Nat) (sc en : Int) (A : Option Addr) (n c : Nat) (ts : List ByteArray) (hn : n = ts.length) (hc : n ≤ c) (hz : Cc.fits ⟨nm, fam, lv, ts, sc, qk, en⟩) (w : World) (B : Nat) (hB : B ≤ w.heap.size) (hs : Seg w B A (strs ts)) :
    Calls Tryd.prog 33 #[.agg #[.string nm, .string fam, .int .u8 (lv : Int), .slice A n c, .int .i8 sc, .string qk, .int .i16 en]] w fun e w' => e = .returned (.bool (mayB ⟨nm, fam, lv, ts, sc, qk, en⟩)) ∧ Below w.heap.size w w' := by
  have hcall : ∀ s : ByteArray, s.size ≤ maxLen → ∀ w1, Below (w.heap.size + 1) (w.alloc (.cells #[.string nm, .string fam, .int .u8 (lv : Int), .slice A n c, .int .i8 sc, .string qk, .int .i16 en] 26)) w1 → Calls Tryd.prog 36 #[.string s] w1 fun e w' => e = .returned (.bool (nameB s.data.toList)) ∧ Below (w.heap.size + 1) (w.alloc (.cells #[.string nm, .string fam, .int .u8 (lv : Int), .slice A n c, .int .i8 sc, .string qk, .int .i16 en] 26)) w' := fun s hs w1 hb =>
    (cname_any s w1 hs).mono fun e w' ⟨h1, h2⟩ => ⟨h1, hb.trans (h2.mono (by have := hb.size; simp at this; omega))⟩
  have hnm := hcall nm hz.nm
  have hfam := hcall fam hz.fam
  have hqk := hcall qk hz.qk
  have hb0 : Below (w.heap.size + 1) (w.alloc (.cells #[.string nm, .string fam, .int .u8 (lv : Int), .slice A n c, .int .i8 sc, .string qk, .int .i16 en] 26)) (w.alloc (.cells #[.string nm, .string fam, .int .u8 (lv : Int), .slice A n c, .int .i8 sc, .string qk, .int .i16 en] 26)) := Below.refl _ _
  have hbx := fun w1 (hb : Below (w.heap.size + 1) (w.alloc (.cells #[.string nm, .string fam, .int .u8 (lv : Int), .slice A n c, .int .i8 sc, .string qk, .int .i16 en] 26)) w1) => box_cells hb
  have hts := hz.ts
  have hlv := hz.lv
  have hlo : n < 1 → textsB ts = false := fun h => texts_lo (by omega)
  have hhi : 8 < n → textsB ts = false := fun h => texts_hi (by omega)
  have hbad := fun i hi h => texts_bad (l := ts) (i := i) hi h
  have hdup := fun i k hi hk h => texts_dup (l := ts) (i := i) (k := k) hi hk h
  have hyes : 1 ≤ n → n ≤ 8 → GoodTo ts n → textsB ts = true := fun h1 h2 h3 => texts_yes (by omega) (by omega) fun i hi => h3 i hi (by omega)
  unfold mayB
  simp only
  generalize nameB nm.data.toList = bn at *
  generalize nameB fam.data.toList = bf at *
  generalize nameB qk.data.toList = bq at *
  generalize textsB ts = bt at *
  obtain ⟨r, hr⟩ : ∃ r, r = (bn && bf && (decide (qk.size = 0) || bq) && decide (lv ≤ 4) && decide (-100 ≤ sc) && decide (sc ≤ 100) && decide (-1 ≤ en) && decide (en ≤ 47) && bt) := ⟨_, rfl⟩
  rw [← hr]
  have HR := Lib.hid hr
  have HNM := Lib.hid hnm
  have HFAM := Lib.hid hfam
  have HQK := Lib.hid hqk
  have HB0 := Lib.hid hb0
  have HBX := Lib.hid hbx
  have HTS := Lib.hid hts
  have HLO := Lib.hid hlo
  have HHI := Lib.hid hhi
  have HBAD := Lib.hid hbad
  have HDUP := Lib.hid hdup
  have HYES := Lib.hid hyes
  have HN := Lib.hid hn
  have HS := Lib.hid hs
  clear hr hcall hnm hfam hqk hb0 hbx hts hlo hhi hbad hdup hyes hn hz hs
  rcases bn with _ | _
  · obtain rfl : r = false := by rw [HR.out]; simp
    go_enter Tryd.func33, Tryd.ntmps33
    go_wp2_with (first
      | (go_at_call 36; ((with_reducible refine (HQK.out _ HB2.out).mono ?_); rintro e w3 ⟨rfl, hb3⟩); obtain ⟨⟨z0, z1, z2, z3, z4, z5, z6⟩, _⟩ := HBX.out w3 hb3; have HB3 := Lib.hid hb3; clear hb3)
      | (go_at_call 36; ((with_reducible refine (HFAM.out _ HB1.out).mono ?_); rintro e w2 ⟨rfl, hb2⟩); obtain ⟨⟨y0, y1, y2, y3, y4, y5, y6⟩, _⟩ := HBX.out w2 hb2; have HB2 := Lib.hid hb2; clear hb2)
      | (go_at_call 36; ((with_reducible refine (HNM.out _ HB0.out).mono ?_); rintro e w1 ⟨rfl, hb1⟩); obtain ⟨⟨x0, x1, x2, x3, x4, x5, x6⟩, _⟩ := HBX.out w1 hb1; have HB1 := Lib.hid hb1; clear hb1))
    go_ret
    exact ⟨rfl, (HBX.out _ HB1.out).2⟩
  rcases bf with _ | _
  · obtain rfl : r = false := by rw [HR.out]; simp
    go_enter Tryd.func33, Tryd.ntmps33
    go_wp2_with (first
      | (go_at_call 36; ((with_reducible refine (HQK.out _ HB2.out).mono ?_); rintro e w3 ⟨rfl, hb3⟩); obtain ⟨⟨z0, z1, z2, z3, z4, z5, z6⟩, _⟩ := HBX.out w3 hb3; have HB3 := Lib.hid hb3; clear hb3)
      | (go_at_call 36; ((with_reducible refine (HFAM.out _ HB1.out).mono ?_); rintro e w2 ⟨rfl, hb2⟩); obtain ⟨⟨y0, y1, y2, y3, y4, y5, y6⟩, _⟩ := HBX.out w2 hb2; have HB2 := Lib.hid hb2; clear hb2)
      | (go_at_call 36; ((with_reducible refine (HNM.out _ HB0.out).mono ?_); rintro e w1 ⟨rfl, hb1⟩); obtain ⟨⟨x0, x1, x2, x3, x4, x5, x6⟩, _⟩ := HBX.out w1 hb1; have HB1 := Lib.hid hb1; clear hb1))
    go_ret
    exact ⟨rfl, (HBX.out _ HB2.out).2⟩
  by_cases hq : qk.size ≠ 0 ∧ bq = false
  · obtain ⟨hq0, rfl⟩ := hq
    obtain rfl : r = false := by rw [HR.out, decide_eq_false hq0]; simp
    obtain ⟨q1, q2⟩ := full_facts hq0
    go_enter Tryd.func33, Tryd.ntmps33
    go_wp2_with (first
      | (go_at_call 36; ((with_reducible refine (HQK.out _ HB2.out).mono ?_); rintro e w3 ⟨rfl, hb3⟩); obtain ⟨⟨z0, z1, z2, z3, z4, z5, z6⟩, _⟩ := HBX.out w3 hb3; have HB3 := Lib.hid hb3; clear hb3)
      | (go_at_call 36; ((with_reducible refine (HFAM.out _ HB1.out).mono ?_); rintro e w2 ⟨rfl, hb2⟩); obtain ⟨⟨y0, y1, y2, y3, y4, y5, y6⟩, _⟩ := HBX.out w2 hb2; have HB2 := Lib.hid hb2; clear hb2)
      | (go_at_call 36; ((with_reducible refine (HNM.out _ HB0.out).mono ?_); rintro e w1 ⟨rfl, hb1⟩); obtain ⟨⟨x0, x1, x2, x3, x4, x5, x6⟩, _⟩ := HBX.out w1 hb1; have HB1 := Lib.hid hb1; clear hb1))
    go_ret
    exact ⟨rfl, (HBX.out _ HB3.out).2⟩
  by_cases hqq : qk.size = 0
  · obtain ⟨q1, q2⟩ := empty_facts hqq
    by_cases c1 : lv ≤ 4
    case neg =>
      obtain rfl : r = false := by rw [HR.out, decide_eq_false c1]; simp
      have ec1 : decide ((4 : Int) < (lv : Int)) = true := by simp; omega
      go_enter Tryd.func33, Tryd.ntmps33
      go_wp2_with (first
        | (go_at_call 36; ((with_reducible refine (HQK.out _ HB2.out).mono ?_); rintro e w3 ⟨rfl, hb3⟩); obtain ⟨⟨z0, z1, z2, z3, z4, z5, z6⟩, _⟩ := HBX.out w3 hb3; have HB3 := Lib.hid hb3; clear hb3)
        | (go_at_call 36; ((with_reducible refine (HFAM.out _ HB1.out).mono ?_); rintro e w2 ⟨rfl, hb2⟩); obtain ⟨⟨y0, y1, y2, y3, y4, y5, y6⟩, _⟩ := HBX.out w2 hb2; have HB2 := Lib.hid hb2; clear hb2)
        | (go_at_call 36; ((with_reducible refine (HNM.out _ HB0.out).mono ?_); rintro e w1 ⟨rfl, hb1⟩); obtain ⟨⟨x0, x1, x2, x3, x4, x5, x6⟩, _⟩ := HBX.out w1 hb1; have HB1 := Lib.hid hb1; clear hb1))
      go_ret
      exact ⟨rfl, (HBX.out _ HB2.out).2⟩
    have ec1 : decide ((4 : Int) < (lv : Int)) = false := by simp; omega
    by_cases c2 : -100 ≤ sc
    case neg =>
      obtain rfl : r = false := by rw [HR.out, decide_eq_false c2]; simp
      have ec2 : decide (sc < -100) = true := by simp; omega
      go_enter Tryd.func33, Tryd.ntmps33
      go_wp2_with (first
        | (go_at_call 36; ((with_reducible refine (HQK.out _ HB2.out).mono ?_); rintro e w3 ⟨rfl, hb3⟩); obtain ⟨⟨z0, z1, z2, z3, z4, z5, z6⟩, _⟩ := HBX.out w3 hb3; have HB3 := Lib.hid hb3; clear hb3)
        | (go_at_call 36; ((with_reducible refine (HFAM.out _ HB1.out).mono ?_); rintro e w2 ⟨rfl, hb2⟩); obtain ⟨⟨y0, y1, y2, y3, y4, y5, y6⟩, _⟩ := HBX.out w2 hb2; have HB2 := Lib.hid hb2; clear hb2)
        | (go_at_call 36; ((with_reducible refine (HNM.out _ HB0.out).mono ?_); rintro e w1 ⟨rfl, hb1⟩); obtain ⟨⟨x0, x1, x2, x3, x4, x5, x6⟩, _⟩ := HBX.out w1 hb1; have HB1 := Lib.hid hb1; clear hb1))
      go_ret
      exact ⟨rfl, (HBX.out _ HB2.out).2⟩
    have ec2 : decide (sc < -100) = false := by simp; omega
    by_cases c3 : sc ≤ 100
    case neg =>
      obtain rfl : r = false := by rw [HR.out, decide_eq_false c3]; simp
      have ec3 : decide (100 < sc) = true := by simp; omega
      go_enter Tryd.func33, Tryd.ntmps33
      go_wp2_with (first
        | (go_at_call 36; ((with_reducible refine (HQK.out _ HB2.out).mono ?_); rintro e w3 ⟨rfl, hb3⟩); obtain ⟨⟨z0, z1, z2, z3, z4, z5, z6⟩, _⟩ := HBX.out w3 hb3; have HB3 := Lib.hid hb3; clear hb3)
        | (go_at_call 36; ((with_reducible refine (HFAM.out _ HB1.out).mono ?_); rintro e w2 ⟨rfl, hb2⟩); obtain ⟨⟨y0, y1, y2, y3, y4, y5, y6⟩, _⟩ := HBX.out w2 hb2; have HB2 := Lib.hid hb2; clear hb2)
        | (go_at_call 36; ((with_reducible refine (HNM.out _ HB0.out).mono ?_); rintro e w1 ⟨rfl, hb1⟩); obtain ⟨⟨x0, x1, x2, x3, x4, x5, x6⟩, _⟩ := HBX.out w1 hb1; have HB1 := Lib.hid hb1; clear hb1))
      go_ret
      exact ⟨rfl, (HBX.out _ HB2.out).2⟩
    have ec3 : decide (100 < sc) = false := by simp; omega
    by_cases c4 : -1 ≤ en
    case neg =>
      obtain rfl : r = false := by rw [HR.out, decide_eq_false c4]; simp
      have ec4 : decide (en < -1) = true := by simp; omega
      go_enter Tryd.func33, Tryd.ntmps33
      go_wp2_with (first
        | (go_at_call 36; ((with_reducible refine (HQK.out _ HB2.out).mono ?_); rintro e w3 ⟨rfl, hb3⟩); obtain ⟨⟨z0, z1, z2, z3, z4, z5, z6⟩, _⟩ := HBX.out w3 hb3; have HB3 := Lib.hid hb3; clear hb3)
        | (go_at_call 36; ((with_reducible refine (HFAM.out _ HB1.out).mono ?_); rintro e w2 ⟨rfl, hb2⟩); obtain ⟨⟨y0, y1, y2, y3, y4, y5, y6⟩, _⟩ := HBX.out w2 hb2; have HB2 := Lib.hid hb2; clear hb2)
        | (go_at_call 36; ((with_reducible refine (HNM.out _ HB0.out).mono ?_); rintro e w1 ⟨rfl, hb1⟩); obtain ⟨⟨x0, x1, x2, x3, x4, x5, x6⟩, _⟩ := HBX.out w1 hb1; have HB1 := Lib.hid hb1; clear hb1))
      go_ret
      exact ⟨rfl, (HBX.out _ HB2.out).2⟩
    have ec4 : decide (en < -1) = false := by simp; omega
    by_cases c5 : en ≤ 47
    case neg =>
      obtain rfl : r = false := by rw [HR.out, decide_eq_false c5]; simp
      have ec5 : decide (47 < en) = true := by simp; omega
      go_enter Tryd.func33, Tryd.ntmps33
      go_wp2_with (first
        | (go_at_call 36; ((with_reducible refine (HQK.out _ HB2.out).mono ?_); rintro e w3 ⟨rfl, hb3⟩); obtain ⟨⟨z0, z1, z2, z3, z4, z5, z6⟩, _⟩ := HBX.out w3 hb3; have HB3 := Lib.hid hb3; clear hb3)
        | (go_at_call 36; ((with_reducible refine (HFAM.out _ HB1.out).mono ?_); rintro e w2 ⟨rfl, hb2⟩); obtain ⟨⟨y0, y1, y2, y3, y4, y5, y6⟩, _⟩ := HBX.out w2 hb2; have HB2 := Lib.hid hb2; clear hb2)
        | (go_at_call 36; ((with_reducible refine (HNM.out _ HB0.out).mono ?_); rintro e w1 ⟨rfl, hb1⟩); obtain ⟨⟨x0, x1, x2, x3, x4, x5, x6⟩, _⟩ := HBX.out w1 hb1; have HB1 := Lib.hid hb1; clear hb1))
      go_ret
      exact ⟨rfl, (HBX.out _ HB2.out).2⟩
    have ec5 : decide (47 < en) = false := by simp; omega
    rcases hl1 : decide (n < 1) with _ | _
    case true =>
      have hl1' := of_decide_eq_true hl1
      obtain rfl : bt = false := HLO.out hl1'
      obtain rfl : r = false := by rw [HR.out]; simp
      obtain rfl : n = 0 := by omega
      clear hl1 hl1'
      go_enter Tryd.func33, Tryd.ntmps33
      go_wp2_with (first
        | (go_at_call 36; ((with_reducible refine (HQK.out _ HB2.out).mono ?_); rintro e w3 ⟨rfl, hb3⟩); obtain ⟨⟨z0, z1, z2, z3, z4, z5, z6⟩, _⟩ := HBX.out w3 hb3; have HB3 := Lib.hid hb3; clear hb3)
        | (go_at_call 36; ((with_reducible refine (HFAM.out _ HB1.out).mono ?_); rintro e w2 ⟨rfl, hb2⟩); obtain ⟨⟨y0, y1, y2, y3, y4, y5, y6⟩, _⟩ := HBX.out w2 hb2; have HB2 := Lib.hid hb2; clear hb2)
        | (go_at_call 36; ((with_reducible refine (HNM.out _ HB0.out).mono ?_); rintro e w1 ⟨rfl, hb1⟩); obtain ⟨⟨x0, x1, x2, x3, x4, x5, x6⟩, _⟩ := HBX.out w1 hb1; have HB1 := Lib.hid hb1; clear hb1))
      go_ret
      exact ⟨rfl, (HBX.out _ HB2.out).2⟩
    have hl1' := of_decide_eq_false hl1
    have en0 : ((n : Int) == 0) = false := by rw [beq_eq_false_iff_ne]; omega
    have en0' : (n == 0) = false := by rw [beq_eq_false_iff_ne]; omega
    clear hl1
    rcases hl8 : decide (8 < n) with _ | _
    case true =>
      have hl8' := of_decide_eq_true hl8
      obtain rfl : bt = false := HHI.out hl8'
      obtain rfl : r = false := by rw [HR.out]; simp
      have en8 : decide ((8 : Int) < (n : Int)) = true := by simp; omega
      clear hl8
      go_enter Tryd.func33, Tryd.ntmps33
      go_wp2_with (first
        | (go_at_call 36; ((with_reducible refine (HQK.out _ HB2.out).mono ?_); rintro e w3 ⟨rfl, hb3⟩); obtain ⟨⟨z0, z1, z2, z3, z4, z5, z6⟩, _⟩ := HBX.out w3 hb3; have HB3 := Lib.hid hb3; clear hb3)
        | (go_at_call 36; ((with_reducible refine (HFAM.out _ HB1.out).mono ?_); rintro e w2 ⟨rfl, hb2⟩); obtain ⟨⟨y0, y1, y2, y3, y4, y5, y6⟩, _⟩ := HBX.out w2 hb2; have HB2 := Lib.hid hb2; clear hb2)
        | (go_at_call 36; ((with_reducible refine (HNM.out _ HB0.out).mono ?_); rintro e w1 ⟨rfl, hb1⟩); obtain ⟨⟨x0, x1, x2, x3, x4, x5, x6⟩, _⟩ := HBX.out w1 hb1; have HB1 := Lib.hid hb1; clear hb1))
      go_ret
      exact ⟨rfl, (HBX.out _ HB2.out).2⟩
    have hl8' := of_decide_eq_false hl8
    have en8 : decide ((8 : Int) < (n : Int)) = false := by simp; omega
    clear hl8
    obtain rfl : r = bt := by rw [HR.out, decide_eq_true c1, decide_eq_true c2, decide_eq_true c3, decide_eq_true c4, decide_eq_true c5]; simp [hqq]
    go_enter Tryd.func33, Tryd.ntmps33
    go_wp2_with (first
      | (go_at_call 36; ((with_reducible refine (HQK.out _ HB2.out).mono ?_); rintro e w3 ⟨rfl, hb3⟩); obtain ⟨⟨z0, z1, z2, z3, z4, z5, z6⟩, _⟩ := HBX.out w3 hb3; have HB3 := Lib.hid hb3; clear hb3)
      | (go_at_call 36; ((with_reducible refine (HFAM.out _ HB1.out).mono ?_); rintro e w2 ⟨rfl, hb2⟩); obtain ⟨⟨y0, y1, y2, y3, y4, y5, y6⟩, _⟩ := HBX.out w2 hb2; have HB2 := Lib.hid hb2; clear hb2)
      | (go_at_call 36; ((with_reducible refine (HNM.out _ HB0.out).mono ?_); rintro e w1 ⟨rfl, hb1⟩); obtain ⟨⟨x0, x1, x2, x3, x4, x5, x6⟩, _⟩ := HBX.out w1 hb1; have HB1 := Lib.hid hb1; clear hb1))
    go_loopw [64] (fun iv wr => ∃ k : Nat, k ≤ n ∧ iv = .int .i64 k ∧ GoodTo ts k ∧ Below (w.heap.size + 1) (w.alloc (.cells #[.string nm, .string fam, .int .u8 (lv : Int), .slice A n c, .int .i8 sc, .string qk, .int .i16 en] 26)) wr) (fun iv _ => n - (intOf iv).toNat)
    case atStart => exact ⟨0, by omega, rfl, fun j h hj => by omega, HB2.out⟩
    case round =>
      obtain ⟨k, hk, rfl, hgood, hb⟩ := hrel
      have HG := Lib.hid hgood
      have HB := Lib.hid hb
      obtain ⟨⟨v0, v1, v2, v3, v4, v5, v6⟩, hbw⟩ := HBX.out wr hb
      have HBW := Lib.hid hbw
      clear hgood hb hbw HB0 x0 x1 x2 x3 x4 x5 x6 y0 y1 y2 y3 y4 y5 y6
      by_cases hlt : k < n
      · have hkl : k < ts.length := by rw [← HN.out]; exact hlt
        have hki : (k : Int) < (n : Int) := by omega
        have hse := HS.out.below (HBW.out.mono hB)
        obtain ⟨b, off, rfl, hbB, s0⟩ := hse.strs hkl
        have hzi := HTS.out _ (List.getElem_mem hkl)
        have hbadi := HBAD.out k hkl
        have hgo : TextOk ts[k] → hasB (ts.take k) ts[k] = false → GoodTo ts (k + 1) := fun a1 a2 j hj hji => by
          rcases (show j < k ∨ j = k by omega) with h | rfl
          · exact HG.out j hj h
          · refine ⟨a1, fun m hm e => ?_⟩
            rw [Bool.eq_false_iff] at a2
            refine a2 (hasB_iff.2 ?_)
            rw [← e]
            exact List.mem_iff_getElem.2 ⟨m, by simp; omega, by simp⟩
        have hdupi : hasB (ts.take k) ts[k] = true → r = false := fun h => by
          obtain ⟨m, hm, e⟩ := List.mem_iff_getElem.1 (hasB_iff.1 h)
          simp at hm
          refine HDUP.out k m hkl (by omega) ?_
          rw [← e]; simp
        have hct := contains_str (some ⟨b, off, none⟩) c (ts.take k) k (by simp; omega) (by omega) ts[k] wr B (by rw [← strs_take]; exact hse.take k)
        have hib := (Tryd.strings_IndexByte ts[k] 0 wr).mono (R' := fun e w' => e = .returned (.int .i64 (Lib.indexByte ts[k].data.toList (0 : Int).toNat.toUInt8)) ∧ wr = w') fun _ _ h => ⟨h.1, h.2.symm⟩
        have hz0 := zero_at ts[k]
        obtain ⟨s, hs⟩ : ∃ s, s = ts[k] := ⟨_, rfl⟩
        simp only [← hs] at s0 hzi hbadi hdupi hgo hct hib hz0
        generalize Lib.indexByte s.data.toList (0 : Int).toNat.toUInt8 = I at *
        generalize hasB (ts.take k) s = dup at *
        have hkc : (k : Int) ≤ (c : Int) := by omega
        have hkc' : k ≤ c := by omega
        have HBI := Lib.hid hbadi
        have HDI := Lib.hid hdupi
        have HGO := Lib.hid hgo
        have HCT := Lib.hid hct
        have HIB := Lib.hid hib
        have HZ0 := Lib.hid hz0
        unfold maxLen at hzi
        clear hs hse hbadi hdupi hgo hct hib hz0
        by_cases s1 : s.size = 0
        · obtain rfl : r = false := HBI.out (fun h => by have := h.1; omega)
          obtain ⟨f1, f2⟩ := empty_facts s1
          go_wp2_with fail
          go_ret
          exact ⟨rfl, HBW.out⟩
        obtain ⟨f1, f2⟩ := full_facts s1
        by_cases s8 : 63 < s.size
        · obtain rfl : r = false := HBI.out (fun h => by have := h.2.1; omega)
          have e2 : decide ((63 : Int) < (s.size : Int)) = true := by simp; omega
          go_wp2_with fail
          go_ret
          exact ⟨rfl, HBW.out⟩
        have e2 : decide ((63 : Int) < (s.size : Int)) = false := by simp; omega
        by_cases hI : 0 ≤ I
        · obtain rfl : r = false := HBI.out (fun h => HZ0.out.1 hI h.2.2)
          have e3 : decide (0 ≤ I) = true := by simp; omega
          go_wp2_with (first
            | (go_at_call 37; refine HIB.out.mono ?_; rintro e w4 ⟨rfl, rfl⟩))
          go_ret
          exact ⟨rfl, HBW.out⟩
        have e3 : decide (0 ≤ I) = false := by simp; omega
        rcases dup with _ | _
        · have hgo2 := HGO.out ⟨by omega, by omega, Classical.not_not.1 fun h => hI (HZ0.out.2 h)⟩ rfl
          have HGO2 := Lib.hid hgo2
          clear hgo2
          go_wp2_with (first
            | (go_at_call 37; refine HIB.out.mono ?_; rintro e w4 ⟨rfl, rfl⟩)
            | (go_at_call 38; refine HCT.out.mono ?_; rintro e w4 ⟨rfl, rfl⟩))
          exact ⟨⟨k + 1, by omega, by go_num, HGO2.out, HB.out⟩, by simp [intOf]; omega⟩
        · obtain rfl : r = false := HDI.out rfl
          go_wp2_with (first
            | (go_at_call 37; refine HIB.out.mono ?_; rintro e w4 ⟨rfl, rfl⟩)
            | (go_at_call 38; refine HCT.out.mono ?_; rintro e w4 ⟨rfl, rfl⟩))
          go_ret
          exact ⟨rfl, HBW.out⟩
      · obtain rfl : k = n := by omega
        obtain rfl : r = true := HYES.out (by omega) (by omega) HG.out
        go_wp2_with fail
        go_ret
        exact ⟨rfl, HBW.out⟩
  obtain rfl : bq = true := by
    rcases bq with _ | _
    · exact absurd ⟨hqq, rfl⟩ hq
    · rfl
  clear hq
  obtain ⟨q1, q2⟩ := full_facts hqq
  by_cases c1 : lv ≤ 4
  case neg =>
    obtain rfl : r = false := by rw [HR.out, decide_eq_false c1]; simp
    have ec1 : decide ((4 : Int) < (lv : Int)) = true := by simp; omega
    go_enter Tryd.func33, Tryd.ntmps33
    go_wp2_with (first
      | (go_at_call 36; ((with_reducible refine (HQK.out _ HB2.out).mono ?_); rintro e w3 ⟨rfl, hb3⟩); obtain ⟨⟨z0, z1, z2, z3, z4, z5, z6⟩, _⟩ := HBX.out w3 hb3; have HB3 := Lib.hid hb3; clear hb3)
      | (go_at_call 36; ((with_reducible refine (HFAM.out _ HB1.out).mono ?_); rintro e w2 ⟨rfl, hb2⟩); obtain ⟨⟨y0, y1, y2, y3, y4, y5, y6⟩, _⟩ := HBX.out w2 hb2; have HB2 := Lib.hid hb2; clear hb2)
      | (go_at_call 36; ((with_reducible refine (HNM.out _ HB0.out).mono ?_); rintro e w1 ⟨rfl, hb1⟩); obtain ⟨⟨x0, x1, x2, x3, x4, x5, x6⟩, _⟩ := HBX.out w1 hb1; have HB1 := Lib.hid hb1; clear hb1))
    go_ret
    exact ⟨rfl, (HBX.out _ HB3.out).2⟩
  have ec1 : decide ((4 : Int) < (lv : Int)) = false := by simp; omega
  by_cases c2 : -100 ≤ sc
  case neg =>
    obtain rfl : r = false := by rw [HR.out, decide_eq_false c2]; simp
    have ec2 : decide (sc < -100) = true := by simp; omega
    go_enter Tryd.func33, Tryd.ntmps33
    go_wp2_with (first
      | (go_at_call 36; ((with_reducible refine (HQK.out _ HB2.out).mono ?_); rintro e w3 ⟨rfl, hb3⟩); obtain ⟨⟨z0, z1, z2, z3, z4, z5, z6⟩, _⟩ := HBX.out w3 hb3; have HB3 := Lib.hid hb3; clear hb3)
      | (go_at_call 36; ((with_reducible refine (HFAM.out _ HB1.out).mono ?_); rintro e w2 ⟨rfl, hb2⟩); obtain ⟨⟨y0, y1, y2, y3, y4, y5, y6⟩, _⟩ := HBX.out w2 hb2; have HB2 := Lib.hid hb2; clear hb2)
      | (go_at_call 36; ((with_reducible refine (HNM.out _ HB0.out).mono ?_); rintro e w1 ⟨rfl, hb1⟩); obtain ⟨⟨x0, x1, x2, x3, x4, x5, x6⟩, _⟩ := HBX.out w1 hb1; have HB1 := Lib.hid hb1; clear hb1))
    go_ret
    exact ⟨rfl, (HBX.out _ HB3.out).2⟩
  have ec2 : decide (sc < -100) = false := by simp; omega
  by_cases c3 : sc ≤ 100
  case neg =>
    obtain rfl : r = false := by rw [HR.out, decide_eq_false c3]; simp
    have ec3 : decide (100 < sc) = true := by simp; omega
    go_enter Tryd.func33, Tryd.ntmps33
    go_wp2_with (first
      | (go_at_call 36; ((with_reducible refine (HQK.out _ HB2.out).mono ?_); rintro e w3 ⟨rfl, hb3⟩); obtain ⟨⟨z0, z1, z2, z3, z4, z5, z6⟩, _⟩ := HBX.out w3 hb3; have HB3 := Lib.hid hb3; clear hb3)
      | (go_at_call 36; ((with_reducible refine (HFAM.out _ HB1.out).mono ?_); rintro e w2 ⟨rfl, hb2⟩); obtain ⟨⟨y0, y1, y2, y3, y4, y5, y6⟩, _⟩ := HBX.out w2 hb2; have HB2 := Lib.hid hb2; clear hb2)
      | (go_at_call 36; ((with_reducible refine (HNM.out _ HB0.out).mono ?_); rintro e w1 ⟨rfl, hb1⟩); obtain ⟨⟨x0, x1, x2, x3, x4, x5, x6⟩, _⟩ := HBX.out w1 hb1; have HB1 := Lib.hid hb1; clear hb1))
    go_ret
    exact ⟨rfl, (HBX.out _ HB3.out).2⟩
  have ec3 : decide (100 < sc) = false := by simp; omega
  by_cases c4 : -1 ≤ en
  case neg =>
    obtain rfl : r = false := by rw [HR.out, decide_eq_false c4]; simp
    have ec4 : decide (en < -1) = true := by simp; omega
    go_enter Tryd.func33, Tryd.ntmps33
    go_wp2_with (first
      | (go_at_call 36; ((with_reducible refine (HQK.out _ HB2.out).mono ?_); rintro e w3 ⟨rfl, hb3⟩); obtain ⟨⟨z0, z1, z2, z3, z4, z5, z6⟩, _⟩ := HBX.out w3 hb3; have HB3 := Lib.hid hb3; clear hb3)
      | (go_at_call 36; ((with_reducible refine (HFAM.out _ HB1.out).mono ?_); rintro e w2 ⟨rfl, hb2⟩); obtain ⟨⟨y0, y1, y2, y3, y4, y5, y6⟩, _⟩ := HBX.out w2 hb2; have HB2 := Lib.hid hb2; clear hb2)
      | (go_at_call 36; ((with_reducible refine (HNM.out _ HB0.out).mono ?_); rintro e w1 ⟨rfl, hb1⟩); obtain ⟨⟨x0, x1, x2, x3, x4, x5, x6⟩, _⟩ := HBX.out w1 hb1; have HB1 := Lib.hid hb1; clear hb1))
    go_ret
    exact ⟨rfl, (HBX.out _ HB3.out).2⟩
  have ec4 : decide (en < -1) = false := by simp; omega
  by_cases c5 : en ≤ 47
  case neg =>
    obtain rfl : r = false := by rw [HR.out, decide_eq_false c5]; simp
    have ec5 : decide (47 < en) = true := by simp; omega
    go_enter Tryd.func33, Tryd.ntmps33
    go_wp2_with (first
      | (go_at_call 36; ((with_reducible refine (HQK.out _ HB2.out).mono ?_); rintro e w3 ⟨rfl, hb3⟩); obtain ⟨⟨z0, z1, z2, z3, z4, z5, z6⟩, _⟩ := HBX.out w3 hb3; have HB3 := Lib.hid hb3; clear hb3)
      | (go_at_call 36; ((with_reducible refine (HFAM.out _ HB1.out).mono ?_); rintro e w2 ⟨rfl, hb2⟩); obtain ⟨⟨y0, y1, y2, y3, y4, y5, y6⟩, _⟩ := HBX.out w2 hb2; have HB2 := Lib.hid hb2; clear hb2)
      | (go_at_call 36; ((with_reducible refine (HNM.out _ HB0.out).mono ?_); rintro e w1 ⟨rfl, hb1⟩); obtain ⟨⟨x0, x1, x2, x3, x4, x5, x6⟩, _⟩ := HBX.out w1 hb1; have HB1 := Lib.hid hb1; clear hb1))
    go_ret
    exact ⟨rfl, (HBX.out _ HB3.out).2⟩
  have ec5 : decide (47 < en) = false := by simp; omega
  rcases hl1 : decide (n < 1) with _ | _
  case true =>
    have hl1' := of_decide_eq_true hl1
    obtain rfl : bt = false := HLO.out hl1'
    obtain rfl : r = false := by rw [HR.out]; simp
    obtain rfl : n = 0 := by omega
    clear hl1 hl1'
    go_enter Tryd.func33, Tryd.ntmps33
    go_wp2_with (first
      | (go_at_call 36; ((with_reducible refine (HQK.out _ HB2.out).mono ?_); rintro e w3 ⟨rfl, hb3⟩); obtain ⟨⟨z0, z1, z2, z3, z4, z5, z6⟩, _⟩ := HBX.out w3 hb3; have HB3 := Lib.hid hb3; clear hb3)
      | (go_at_call 36; ((with_reducible refine (HFAM.out _ HB1.out).mono ?_); rintro e w2 ⟨rfl, hb2⟩); obtain ⟨⟨y0, y1, y2, y3, y4, y5, y6⟩, _⟩ := HBX.out w2 hb2; have HB2 := Lib.hid hb2; clear hb2)
      | (go_at_call 36; ((with_reducible refine (HNM.out _ HB0.out).mono ?_); rintro e w1 ⟨rfl, hb1⟩); obtain ⟨⟨x0, x1, x2, x3, x4, x5, x6⟩, _⟩ := HBX.out w1 hb1; have HB1 := Lib.hid hb1; clear hb1))
    go_ret
    exact ⟨rfl, (HBX.out _ HB3.out).2⟩
  have hl1' := of_decide_eq_false hl1
  have en0 : ((n : Int) == 0) = false := by rw [beq_eq_false_iff_ne]; omega
  have en0' : (n == 0) = false := by rw [beq_eq_false_iff_ne]; omega
  clear hl1
  rcases hl8 : decide (8 < n) with _ | _
  case true =>
    have hl8' := of_decide_eq_true hl8
    obtain rfl : bt = false := HHI.out hl8'
    obtain rfl : r = false := by rw [HR.out]; simp
    have en8 : decide ((8 : Int) < (n : Int)) = true := by simp; omega
    clear hl8
    go_enter Tryd.func33, Tryd.ntmps33
    go_wp2_with (first
      | (go_at_call 36; ((with_reducible refine (HQK.out _ HB2.out).mono ?_); rintro e w3 ⟨rfl, hb3⟩); obtain ⟨⟨z0, z1, z2, z3, z4, z5, z6⟩, _⟩ := HBX.out w3 hb3; have HB3 := Lib.hid hb3; clear hb3)
      | (go_at_call 36; ((with_reducible refine (HFAM.out _ HB1.out).mono ?_); rintro e w2 ⟨rfl, hb2⟩); obtain ⟨⟨y0, y1, y2, y3, y4, y5, y6⟩, _⟩ := HBX.out w2 hb2; have HB2 := Lib.hid hb2; clear hb2)
      | (go_at_call 36; ((with_reducible refine (HNM.out _ HB0.out).mono ?_); rintro e w1 ⟨rfl, hb1⟩); obtain ⟨⟨x0, x1, x2, x3, x4, x5, x6⟩, _⟩ := HBX.out w1 hb1; have HB1 := Lib.hid hb1; clear hb1))
    go_ret
    exact ⟨rfl, (HBX.out _ HB3.out).2⟩
  have hl8' := of_decide_eq_false hl8
  have en8 : decide ((8 : Int) < (n : Int)) = false := by simp; omega
  clear hl8
  obtain rfl : r = bt := by rw [HR.out, decide_eq_true c1, decide_eq_true c2, decide_eq_true c3, decide_eq_true c4, decide_eq_true c5]; simp [hqq]
  go_enter Tryd.func33, Tryd.ntmps33
  go_wp2_with (first
    | (go_at_call 36; ((with_reducible refine (HQK.out _ HB2.out).mono ?_); rintro e w3 ⟨rfl, hb3⟩); obtain ⟨⟨z0, z1, z2, z3, z4, z5, z6⟩, _⟩ := HBX.out w3 hb3; have HB3 := Lib.hid hb3; clear hb3)
    | (go_at_call 36; ((with_reducible refine (HFAM.out _ HB1.out).mono ?_); rintro e w2 ⟨rfl, hb2⟩); obtain ⟨⟨y0, y1, y2, y3, y4, y5, y6⟩, _⟩ := HBX.out w2 hb2; have HB2 := Lib.hid hb2; clear hb2)
    | (go_at_call 36; ((with_reducible refine (HNM.out _ HB0.out).mono ?_); rintro e w1 ⟨rfl, hb1⟩); obtain ⟨⟨x0, x1, x2, x3, x4, x5, x6⟩, _⟩ := HBX.out w1 hb1; have HB1 := Lib.hid hb1; clear hb1))
  go_loopw [64] (fun iv wr => ∃ k : Nat, k ≤ n ∧ iv = .int .i64 k ∧ GoodTo ts k ∧ Below (w.heap.size + 1) (w.alloc (.cells #[.string nm, .string fam, .int .u8 (lv : Int), .slice A n c, .int .i8 sc, .string qk, .int .i16 en] 26)) wr) (fun iv _ => n - (intOf iv).toNat)
  case atStart => exact ⟨0, by omega, rfl, fun j h hj => by omega, HB3.out⟩
  case round =>
    obtain ⟨k, hk, rfl, hgood, hb⟩ := hrel
    have HG := Lib.hid hgood
    have HB := Lib.hid hb
    obtain ⟨⟨v0, v1, v2, v3, v4, v5, v6⟩, hbw⟩ := HBX.out wr hb
    have HBW := Lib.hid hbw
    clear hgood hb hbw HB0 x0 x1 x2 x3 x4 x5 x6 y0 y1 y2 y3 y4 y5 y6 z0 z1 z2 z3 z4 z5 z6
    by_cases hlt : k < n
    · have hkl : k < ts.length := by rw [← HN.out]; exact hlt
      have hki : (k : Int) < (n : Int) := by omega
      have hse := HS.out.below (HBW.out.mono hB)
      obtain ⟨b, off, rfl, hbB, s0⟩ := hse.strs hkl
      have hzi := HTS.out _ (List.getElem_mem hkl)
      have hbadi := HBAD.out k hkl
      have hgo : TextOk ts[k] → hasB (ts.take k) ts[k] = false → GoodTo ts (k + 1) := fun a1 a2 j hj hji => by
        rcases (show j < k ∨ j = k by omega) with h | rfl
        · exact HG.out j hj h
        · refine ⟨a1, fun m hm e => ?_⟩
          rw [Bool.eq_false_iff] at a2
          refine a2 (hasB_iff.2 ?_)
          rw [← e]
          exact List.mem_iff_getElem.2 ⟨m, by simp; omega, by simp⟩
      have hdupi : hasB (ts.take k) ts[k] = true → r = false := fun h => by
        obtain ⟨m, hm, e⟩ := List.mem_iff_getElem.1 (hasB_iff.1 h)
        simp at hm
        refine HDUP.out k m hkl (by omega) ?_
        rw [← e]; simp
      have hct := contains_str (some ⟨b, off, none⟩) c (ts.take k) k (by simp; omega) (by omega) ts[k] wr B (by rw [← strs_take]; exact hse.take k)
      have hib := (Tryd.strings_IndexByte ts[k] 0 wr).mono (R' := fun e w' => e = .returned (.int .i64 (Lib.indexByte ts[k].data.toList (0 : Int).toNat.toUInt8)) ∧ wr = w') fun _ _ h => ⟨h.1, h.2.symm⟩
      have hz0 := zero_at ts[k]
      obtain ⟨s, hs⟩ : ∃ s, s = ts[k] := ⟨_, rfl⟩
      simp only [← hs] at s0 hzi hbadi hdupi hgo hct hib hz0
      generalize Lib.indexByte s.data.toList (0 : Int).toNat.toUInt8 = I at *
      generalize hasB (ts.take k) s = dup at *
      have hkc : (k : Int) ≤ (c : Int) := by omega
      have hkc' : k ≤ c := by omega
      have HBI := Lib.hid hbadi
      have HDI := Lib.hid hdupi
      have HGO := Lib.hid hgo
      have HCT := Lib.hid hct
      have HIB := Lib.hid hib
      have HZ0 := Lib.hid hz0
      unfold maxLen at hzi
      clear hs hse hbadi hdupi hgo hct hib hz0
      by_cases s1 : s.size = 0
      · obtain rfl : r = false := HBI.out (fun h => by have := h.1; omega)
        obtain ⟨f1, f2⟩ := empty_facts s1
        go_wp2_with fail
        go_ret
        exact ⟨rfl, HBW.out⟩
      obtain ⟨f1, f2⟩ := full_facts s1
      by_cases s8 : 63 < s.size
      · obtain rfl : r = false := HBI.out (fun h => by have := h.2.1; omega)
        have e2 : decide ((63 : Int) < (s.size : Int)) = true := by simp; omega
        go_wp2_with fail
        go_ret
        exact ⟨rfl, HBW.out⟩
      have e2 : decide ((63 : Int) < (s.size : Int)) = false := by simp; omega
      by_cases hI : 0 ≤ I
      · obtain rfl : r = false := HBI.out (fun h => HZ0.out.1 hI h.2.2)
        have e3 : decide (0 ≤ I) = true := by simp; omega
        go_wp2_with (first
          | (go_at_call 37; refine HIB.out.mono ?_; rintro e w4 ⟨rfl, rfl⟩))
        go_ret
        exact ⟨rfl, HBW.out⟩
      have e3 : decide (0 ≤ I) = false := by simp; omega
      rcases dup with _ | _
      · have hgo2 := HGO.out ⟨by omega, by omega, Classical.not_not.1 fun h => hI (HZ0.out.2 h)⟩ rfl
        have HGO2 := Lib.hid hgo2
        clear hgo2
        go_wp2_with (first
          | (go_at_call 37; refine HIB.out.mono ?_; rintro e w4 ⟨rfl, rfl⟩)
          | (go_at_call 38; refine HCT.out.mono ?_; rintro e w4 ⟨rfl, rfl⟩))
        exact ⟨⟨k + 1, by omega, by go_num, HGO2.out, HB.out⟩, by simp [intOf]; omega⟩
      · obtain rfl : r = false := HDI.out rfl
        go_wp2_with (first
          | (go_at_call 37; refine HIB.out.mono ?_; rintro e w4 ⟨rfl, rfl⟩)
          | (go_at_call 38; refine HCT.out.mono ?_; rintro e w4 ⟨rfl, rfl⟩))
        go_ret
        exact ⟨rfl, HBW.out⟩
    · obtain rfl : k = n := by omega
      obtain rfl : r = true := HYES.out (by omega) (by omega) HG.out
      go_wp2_with fail
      go_ret
      exact ⟨rfl, HBW.out⟩
end Go.Proofs.YtiheibcookcbdaaDoor
