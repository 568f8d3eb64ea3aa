/- The document's next: the contract. -/
/- The document's next: the contract. -/
import Derived.Test.YtmdnbajbfnhecaaDoorRefB
set_option linter.unusedVariables false
namespace Go.Proofs.YtmdnbajbfnhecaaDoor
open Go.RowKit
theorem str_nil (s : ByteArray) : s.toList.isEmpty = decide (s = ByteArray.empty) := by
  rw [ByteArray.toList_eq]
  obtain ⟨⟨l⟩⟩ := s
  rw [Bool.eq_iff_iff]
  simp only [List.isEmpty_iff, decide_eq_true_eq]
  constructor
  · rintro h
    show ByteArray.mk ⟨l⟩ = ByteArray.mk #[]
    rw [show l = [] from h]
  · intro h
    have := congrArg (fun b => b.data.toList) h
    exact this
/-- Whether a node fits, by its parts. -/
structure Fits (r : Bool) (l : List Nd) (i : Nat) (P : Int) (s : ByteArray) (bp bn : Bool) : Prop where
  big : 512 ≤ i → r = false
  props : bp = false → r = false
  root : i = 0 → bp = true → r = ((P == -1) && s.toList.isEmpty)
  name : i ≠ 0 → bn = false → r = false
  neg : i ≠ 0 → P < 0 → r = false
  late : i ≠ 0 → (i : Int) ≤ P → r = false
  path : i ≠ 0 → (above l ((i : Int) - 1)).contains P = false → r = false
  deep : i ≠ 0 → 16 < (above l P).length + 1 → r = false
  twin : ∀ (j : Nat) (h : j < l.length), 1 ≤ j → j < i → l[j].p = P → l[j].n = s → r = false
  ok : i ≠ 0 → i < 512 → bp = true → bn = true → 0 ≤ P → P < i → (above l ((i : Int) - 1)).contains P = true → (above l P).length + 1 ≤ 16 →
    (∀ (j : Nat) (h : j < l.length), 1 ≤ j → j < i → l[j].p = P → l[j].n ≠ s) → r = true
theorem fits {l : List Nd} {i : Nat} (hi : i < l.length) : Fits (nodeOkB l i) l i l[i].p l[i].n (propsB l[i].ps) (nameB l[i].n.data.toList) := by
  have hcast : i ≠ 0 → ((i - 1 : Nat) : Int) = (i : Int) - 1 := by omega
  refine ⟨?_, ?_, ?_, ?_, ?_, ?_, ?_, ?_, ?_, ?_⟩
  · intro h
    rw [node_some hi (by omega), decide_eq_false (by omega)]; rfl
  · intro h
    by_cases h0 : i = 0
    · subst h0; rw [node_zero hi, h]; rfl
    · rw [node_some hi h0, h]; simp
  · intro h0 h
    subst h0
    rw [node_zero hi, h, str_nil]; rfl
  · intro h0 h
    rw [node_some hi h0, h]; simp
  · intro h0 h
    rw [node_some hi h0, decide_eq_false (show ¬ 0 ≤ l[i].p by omega)]; simp
  · intro h0 h
    rw [node_some hi h0, decide_eq_false (show ¬ l[i].p < i by omega)]; simp
  · intro h0 h
    rw [node_some hi h0, hcast h0, h]; simp
  · intro h0 h
    rw [node_some hi h0, decide_eq_false (show ¬ (above l l[i].p).length + 1 ≤ 16 by omega)]; simp
  · intro j hj h1 h2 h3 h4
    rw [node_some hi (by omega), (twin_iff (by omega) _ _).2 ⟨j, hj, h1, h2, h3, h4⟩]; simp
  · intro h0 a1 a2 a3 a4 a5 a6 a7 a8
    have ht : twinB l i l[i].p l[i].n = false := by
      rw [Bool.eq_false_iff]
      intro ht
      obtain ⟨j, hj, h1, h2, h3, h4⟩ := (twin_iff (by omega) _ _).1 ht
      exact a8 j hj h1 h2 h3 h4
    rw [node_some hi h0, hcast h0, a2, a3, a6, ht, decide_eq_true a1, decide_eq_true a4, decide_eq_true a5, decide_eq_true a7]; rfl
set_option maxRecDepth 100000 in
set_option maxHeartbeats 4000000 in
theorem rnext_any (A : Option Addr) (cap n : Nat) (l : List Nm) (hn : n = l.length) (hnm : n ≤ 1125899906842624) (hz : Small (dat l)) (i : Nat) (hi : i < n) (hf : Fine (dat l) i) (hps : ∀ x ∈ l, x.d.ps.length ≤ 1125899906842624) (w : World) (B : Nat) (hB : B ≤ w.heap.size) (hs : Nodes w B A l) (hwf : ∀ x ∈ l, (Lit.int .i64 x.d.p).wf = true) :
    Calls Tryd.prog 84 #[.slice A n cap, .int .i64 i] w fun e w' => e = .returned (.bool (nodeOkB (dat l) i)) ∧ Below w.heap.size w w' := by
  have hil : i < l.length := by omega
  have hdl : i < (dat l).length := by rw [dat_len]; exact hil
  have hft := fits hdl
  rw [dat_get l hil] at hft
  obtain ⟨r, hr⟩ : ∃ r, r = nodeOkB (dat l) i := ⟨_, rfl⟩
  rw [← hr] at hft ⊢
  have hp : ∀ w1, Below B w w1 → Calls Tryd.prog 95 #[.slice l[i].A l[i].d.ps.length l[i].c] w1 fun e w' => e = .returned (.bool (propsB l[i].d.ps)) ∧ Below w1.heap.size w1 w' := fun w1 hb =>
    rprops_any _ _ _ _ rfl (hps _ (List.getElem_mem hil)) (hz l[i].d (by unfold dat; exact List.mem_map_of_mem (List.getElem_mem hil))).2 w1 B (by have := hb.size; omega) ((hs.props _ (List.getElem_mem hil)).below hb)
  have hnm2 : ∀ w1, Calls Tryd.prog 96 #[.string l[i].d.n] w1 fun e w' => e = .returned (.bool (nameB l[i].d.n.data.toList)) ∧ w1 = w' := fun w1 =>
    rname_any _ _ (by have := (hz l[i].d (by unfold dat; exact List.mem_map_of_mem (List.getElem_mem hil))).1; unfold maxLen; omega)
  obtain ⟨b, off, rfl, hbB, x0, x1, x2, x3⟩ := hs.at_ hil
  have hw0 := hwf _ (List.getElem_mem hil)
  obtain ⟨P, hP⟩ : ∃ P, P = l[i].d.p := ⟨_, rfl⟩
  obtain ⟨s, hss⟩ : ∃ s, s = l[i].d.n := ⟨_, rfl⟩
  obtain ⟨zA, hzA⟩ : ∃ zA, zA = l[i].A := ⟨_, rfl⟩
  obtain ⟨zc, hzc⟩ : ∃ zc, zc = l[i].c := ⟨_, rfl⟩
  obtain ⟨zn, hzn⟩ : ∃ zn, zn = l[i].d.ps.length := ⟨_, rfl⟩
  obtain ⟨bp, hbp⟩ : ∃ bp, bp = propsB l[i].d.ps := ⟨_, rfl⟩
  obtain ⟨bn, hbn⟩ : ∃ bn, bn = nameB l[i].d.n.data.toList := ⟨_, rfl⟩
  rw [← hbn, ← hP, ← hss, ← hbp] at hft
  simp only [← hzA, ← hzn, ← hzc, ← hbp] at hp
  rw [← hbn, ← hss] at hnm2
  rw [← hP] at x0 hw0
  rw [← hss] at x1
  rw [← hzA, ← hzn, ← hzc] at x2
  clear hP hss hzA hzc hzn hbp hbn x3 hps hr
  have esz : (w.alloc (.cells #[.int .i64 P, .string s, .slice zA zn zc] 43)).heap.size = w.heap.size + 1 := by simp
  have hq : ∀ w1, Below (w.heap.size + 1) (w.alloc (.cells #[.int .i64 P, .string s, .slice zA zn zc] 43)) w1 → w1.cell? ⟨w.heap.size, 0, none⟩ = some (.int .i64 P) ∧ w1.cell? ⟨w.heap.size, 1, none⟩ = some (.string s) ∧ Below w.heap.size w w1 ∧ Below B w w1 := fun w1 hb => by
    have h1 : Below w.heap.size w w1 := ((Below.refl _ _).alloc (Nat.le_refl _) _).trans (hb.mono (by omega))
    refine ⟨?_, ?_, h1, h1.mono hB⟩
    · rw [hb.cell (p := ⟨w.heap.size, 0, none⟩) (by show w.heap.size < w.heap.size + 1; omega), cell_of_row _ _ _ _ _ (0, 0) (heap_alloc_new w _)]; rfl
    · rw [hb.cell (p := ⟨w.heap.size, 1, none⟩) (by show w.heap.size < w.heap.size + 1; omega), cell_of_row _ _ _ _ _ (0, 0) (heap_alloc_new w _)]; rfl
  have hb0 : Below B w (w.alloc (.cells #[.int .i64 P, .string s, .slice zA zn zc] 43)) := (Below.refl B w).alloc hB _
  have hab : ∀ (w1 : World) (k : Int), Below (w.heap.size + 1) (w.alloc (.cells #[.int .i64 P, .string s, .slice zA zn zc] 43)) w1 → i ≤ 511 → k < i → Calls Tryd.prog 43 #[.slice (some ⟨b, off, none⟩) n cap, .int .i64 k] w1 fun e w' => ∃ A' c', e = .returned (.slice A' (above (dat l) k).length c') ∧ Seg w' w'.heap.size A' (i64s (above (dat l) k)) ∧ Below (w.heap.size + 1) (w.alloc (.cells #[.int .i64 P, .string s, .slice zA zn zc] 43)) w' := fun w1 k hb hi5 hk => by
    have hsz := hb.size
    rw [esz] at hsz
    refine (above_any (some ⟨b, off, none⟩) cap n i l hn k w1 B (by omega) (hs.below (hq w1 hb).2.2.2) hf (by omega) hk (by omega)).mono ?_
    rintro e w' ⟨A', c', rfl, hown, hb'⟩
    exact ⟨A', c', rfl, own_seg hown, hb.trans (hb'.mono hsz)⟩
  have hlen : ∀ k : Int, k < i → (above (dat l) k).length ≤ i := fun k hk => by
    by_cases h0 : k < 0
    · rw [above_neg _ h0]; simp
    · obtain ⟨k, rfl⟩ := Int.eq_ofNat_of_zero_le (show 0 ≤ k by omega)
      have := above_len hf (by omega) k (by omega)
      omega
  have hhas : ∀ (w1 : World) (A' : Option Addr) (c' : Nat) (k : Int), i ≤ 511 → k < i → Seg w1 w1.heap.size A' (i64s (above (dat l) k)) → Calls Tryd.prog 72 #[.slice A' (above (dat l) k).length c', .int .i64 P] w1 fun e w' => e = .returned (.bool ((above (dat l) k).contains P)) ∧ w1 = w' := fun w1 A' c' k hi5 hk hsg =>
    has_any A' c' _ _ rfl (by have := hlen k hk; omega) P w1 _ hsg
  have FT := Lib.hid hft
  have HP := Lib.hid hp
  have HN := Lib.hid hnm2
  have HS := Lib.hid hs
  have HL := Lib.hid hn
  have HF := Lib.hid hf
  have HQ := Lib.hid hq
  have HB0 := Lib.hid hb0
  have HAB := Lib.hid hab
  have HHAS := Lib.hid hhas
  have HLEN := Lib.hid hlen
  clear hft hp hnm2 hs hn hf hz hwf hq hb0 hab hhas hlen
  by_cases h512 : 512 ≤ i
  · obtain rfl : r = false := FT.out.big h512
    have e1 : decide (512 ≤ (i : Int)) = true := by simp; omega
    go_enter Tryd.func84, Tryd.ntmps84
    go_wp2
    go_ret
    exact ⟨rfl, (Below.refl _ _).alloc (Nat.le_refl _) _⟩
  have hi5 : i ≤ 511 := by omega
  have e5 : decide (512 ≤ (i : Int)) = false := by simp; omega
  rcases bp with _ | _
  · obtain rfl : r = false := FT.out.props rfl
    go_enter Tryd.func84, Tryd.ntmps84
    go_wp2_with (first
     | (go_at_call 95
        refine (HP.out _ HB0.out).mono ?_
        rintro e w1 ⟨rfl, hb1⟩
        rw [esz] at hb1
        obtain ⟨z0, z1, z2, z3⟩ := HQ.out w1 hb1
        have HB1 := Lib.hid hb1
        have HZ2 := Lib.hid z2
        clear hb1 z2 z3))
    go_ret
    exact ⟨rfl, HZ2.out⟩
  by_cases h0 : i = 0
  · subst h0
    have hr := FT.out.root rfl rfl
    subst hr
    simp only [Nat.zero_mul, Nat.add_zero] at x0 x1 x2
    rcases hpp : (P == -1) with _ | _
    · go_enter Tryd.func84, Tryd.ntmps84
      go_wp2_with (first
     | (go_at_call 95
        refine (HP.out _ HB0.out).mono ?_
        rintro e w1 ⟨rfl, hb1⟩
        rw [esz] at hb1
        obtain ⟨z0, z1, z2, z3⟩ := HQ.out w1 hb1
        have HB1 := Lib.hid hb1
        have HZ2 := Lib.hid z2
        clear hb1 z2 z3))
      go_ret
      exact ⟨rfl, HZ2.out⟩
    · go_enter Tryd.func84, Tryd.ntmps84
      go_wp2_with (first
     | (go_at_call 95
        refine (HP.out _ HB0.out).mono ?_
        rintro e w1 ⟨rfl, hb1⟩
        rw [esz] at hb1
        obtain ⟨z0, z1, z2, z3⟩ := HQ.out w1 hb1
        have HB1 := Lib.hid hb1
        have HZ2 := Lib.hid z2
        clear hb1 z2 z3))
      go_ret
      exact ⟨by simp, HZ2.out⟩
  have e0 : ((i : Int) == 0) = false := by simp; omega
  rcases bn with _ | _
  · obtain rfl : r = false := FT.out.name h0 rfl
    go_enter Tryd.func84, Tryd.ntmps84
    go_wp2_with (first
     | (go_at_call 95
        refine (HP.out _ HB0.out).mono ?_
        rintro e w1 ⟨rfl, hb1⟩
        rw [esz] at hb1
        obtain ⟨z0, z1, z2, z3⟩ := HQ.out w1 hb1
        have HB1 := Lib.hid hb1
        have HZ2 := Lib.hid z2
        clear hb1 z2 z3)
     | (go_at_call 96
        refine (HN.out _).mono ?_
        rintro e w' ⟨rfl, rfl⟩))
    go_ret
    exact ⟨rfl, HZ2.out⟩
  by_cases hneg : P < 0
  · obtain rfl : r = false := FT.out.neg h0 hneg
    have e1 : decide (P < 0) = true := by simpa using hneg
    go_enter Tryd.func84, Tryd.ntmps84
    go_wp2_with (first
     | (go_at_call 95
        refine (HP.out _ HB0.out).mono ?_
        rintro e w1 ⟨rfl, hb1⟩
        rw [esz] at hb1
        obtain ⟨z0, z1, z2, z3⟩ := HQ.out w1 hb1
        have HB1 := Lib.hid hb1
        have HZ2 := Lib.hid z2
        clear hb1 z2 z3)
     | (go_at_call 96
        refine (HN.out _).mono ?_
        rintro e w' ⟨rfl, rfl⟩))
    go_ret
    exact ⟨rfl, HZ2.out⟩
  have e1 : decide (P < 0) = false := by simpa using hneg
  by_cases hlate : (i : Int) ≤ P
  · obtain rfl : r = false := FT.out.late h0 hlate
    have e2 : decide ((i : Int) ≤ P) = true := by simpa using hlate
    go_enter Tryd.func84, Tryd.ntmps84
    go_wp2_with (first
     | (go_at_call 95
        refine (HP.out _ HB0.out).mono ?_
        rintro e w1 ⟨rfl, hb1⟩
        rw [esz] at hb1
        obtain ⟨z0, z1, z2, z3⟩ := HQ.out w1 hb1
        have HB1 := Lib.hid hb1
        have HZ2 := Lib.hid z2
        clear hb1 z2 z3)
     | (go_at_call 96
        refine (HN.out _).mono ?_
        rintro e w' ⟨rfl, rfl⟩))
    go_ret
    exact ⟨rfl, HZ2.out⟩
  have e2 : decide ((i : Int) ≤ P) = false := by simpa using hlate
  -- the parts ahead of the two calls of above
  have hf1 := FT.out.path h0
  have hf2 := FT.out.deep h0
  have hf3 := fun j h => FT.out.twin j h
  have hf4 := fun a b c => FT.out.ok h0 (by omega) rfl rfl (by omega) (by omega) a b c
  have hup := fun w1 hb => HAB.out w1 ((i : Int) - 1) hb hi5 (by omega)
  have hpp := fun w1 hb => HAB.out w1 P hb hi5 (by omega)
  have hha := fun w1 A' c' h => HHAS.out w1 A' c' ((i : Int) - 1) hi5 (by omega) h
  have hl1 := HLEN.out ((i : Int) - 1) (by omega)
  have hl2 := HLEN.out P (by omega)
  obtain ⟨up, hupe⟩ : ∃ up, up = above (dat l) ((i : Int) - 1) := ⟨_, rfl⟩
  obtain ⟨pp, hppe⟩ : ∃ pp, pp = above (dat l) P := ⟨_, rfl⟩
  rw [← hupe] at hf1 hl1
  rw [← hppe] at hf2 hl2
  simp only [← hupe] at hup hha
  simp only [← hppe] at hpp
  rw [← hupe, ← hppe] at hf4
  clear hupe hppe
  obtain ⟨un, hun⟩ : ∃ un, un = up.length := ⟨_, rfl⟩
  obtain ⟨pn, hpn⟩ : ∃ pn, pn = pp.length := ⟨_, rfl⟩
  obtain ⟨hb, hbe⟩ : ∃ hb, hb = up.contains P := ⟨_, rfl⟩
  rw [← hun] at hl1
  rw [← hpn] at hf2 hl2
  rw [← hbe] at hf1
  rw [← hbe, ← hpn] at hf4
  simp only [← hun] at hup hha
  simp only [← hbe] at hha
  have hup2 : ∀ w1, Below (w.heap.size + 1) (w.alloc (.cells #[.int .i64 P, .string s, .slice zA zn zc] 43)) w1 → Calls Tryd.prog 43 #[.slice (some ⟨b, off, none⟩) n cap, .int .i64 ((i : Int) - 1)] w1 fun e w' => ∃ A' c', e = .returned (.slice A' un c') ∧ Seg w' w'.heap.size A' (i64s up) ∧ Below (w.heap.size + 1) (w.alloc (.cells #[.int .i64 P, .string s, .slice zA zn zc] 43)) w' := hup
  have hpp2 : ∀ w1, Below (w.heap.size + 1) (w.alloc (.cells #[.int .i64 P, .string s, .slice zA zn zc] 43)) w1 → Calls Tryd.prog 43 #[.slice (some ⟨b, off, none⟩) n cap, .int .i64 P] w1 fun e w' => ∃ A' c', e = .returned (.slice A' pn c') ∧ Below (w.heap.size + 1) (w.alloc (.cells #[.int .i64 P, .string s, .slice zA zn zc] 43)) w' := fun w1 h1 => (hpp w1 h1).mono fun e w' ⟨A', c', h2, _, h3⟩ => ⟨A', c', by rw [h2, ← hpn], h3⟩
  have HUP := Lib.hid hup2
  have HPP := Lib.hid hpp2
  have HF1 := Lib.hid hf1
  have HF2 := Lib.hid hf2
  have HF3 := Lib.hid hf3
  have HF4 := Lib.hid hf4
  clear hup hpp hup2 hpp2 hf1 hf2 hf3 hf4 HAB HHAS HLEN hun hpn hbe FT HF
  have HHAS := Lib.hid hha
  clear hha
  rcases hb with _ | _
  · obtain rfl : r = false := HF1.out rfl
    go_enter Tryd.func84, Tryd.ntmps84
    go_wp2_with (first
     | (go_at_call 95
        refine (HP.out _ HB0.out).mono ?_
        rintro e w1 ⟨rfl, hb1⟩
        rw [esz] at hb1
        obtain ⟨z0, z1, z2, z3⟩ := HQ.out w1 hb1
        have HB1 := Lib.hid hb1
        have HZ2 := Lib.hid z2
        clear hb1 z2 z3)
     | (go_at_call 96
        refine (HN.out _).mono ?_
        rintro e w' ⟨rfl, rfl⟩)
     | (go_at_call 43
        refine (HUP.out _ HB1.out).mono ?_
        rintro e w2 ⟨A2, c2, rfl, hsg, hb2⟩
        obtain ⟨y0, y1, y2, y3⟩ := HQ.out w2 hb2
        have HB2 := Lib.hid hb2
        have HY2 := Lib.hid y2
        have HSG := Lib.hid hsg
        clear hb2 y2 y3 hsg)
     | (go_at_call 72
        refine (HHAS.out _ _ _ HSG.out).mono ?_
        rintro e w' ⟨rfl, rfl⟩))
    go_ret
    exact ⟨rfl, HY2.out⟩
  by_cases h16 : 16 < pn + 1
  · obtain rfl : r = false := HF2.out h16
    have e3 : decide (16 < (pn : Int) + 1) = true := by simp; omega
    go_enter Tryd.func84, Tryd.ntmps84
    go_wp2_with (first
     | (go_at_call 95
        refine (HP.out _ HB0.out).mono ?_
        rintro e w1 ⟨rfl, hb1⟩
        rw [esz] at hb1
        obtain ⟨z0, z1, z2, z3⟩ := HQ.out w1 hb1
        have HB1 := Lib.hid hb1
        have HZ2 := Lib.hid z2
        clear hb1 z2 z3)
     | (go_at_call 96
        refine (HN.out _).mono ?_
        rintro e w' ⟨rfl, rfl⟩)
     | (go_at_call 43
        refine (HPP.out _ HB2.out).mono ?_
        rintro e w3 ⟨A3, c3, rfl, hb3⟩
        obtain ⟨v0, v1, v2, v3⟩ := HQ.out w3 hb3
        have HB3 := Lib.hid hb3
        have HV2 := Lib.hid v2
        clear hb3 v2 v3)
     | (go_at_call 43
        refine (HUP.out _ HB1.out).mono ?_
        rintro e w2 ⟨A2, c2, rfl, hsg, hb2⟩
        obtain ⟨y0, y1, y2, y3⟩ := HQ.out w2 hb2
        have HB2 := Lib.hid hb2
        have HY2 := Lib.hid y2
        have HSG := Lib.hid hsg
        clear hb2 y2 y3 hsg)
     | (go_at_call 72
        refine (HHAS.out _ _ _ HSG.out).mono ?_
        rintro e w' ⟨rfl, rfl⟩))
    go_ret
    exact ⟨rfl, HV2.out⟩
  have e3 : decide (16 < (pn : Int) + 1) = false := by simp; omega
  have hok := fun hh => HF4.out rfl (by omega) hh
  have HOK := Lib.hid hok
  clear hok HF4 HF1 HF2
  go_enter Tryd.func84, Tryd.ntmps84
  go_wp2_with (first
     | (go_at_call 95
        refine (HP.out _ HB0.out).mono ?_
        rintro e w1 ⟨rfl, hb1⟩
        rw [esz] at hb1
        obtain ⟨z0, z1, z2, z3⟩ := HQ.out w1 hb1
        have HB1 := Lib.hid hb1
        have HZ2 := Lib.hid z2
        clear hb1 z2 z3)
     | (go_at_call 96
        refine (HN.out _).mono ?_
        rintro e w' ⟨rfl, rfl⟩)
     | (go_at_call 43
        refine (HPP.out _ HB2.out).mono ?_
        rintro e w3 ⟨A3, c3, rfl, hb3⟩
        obtain ⟨v0, v1, v2, v3⟩ := HQ.out w3 hb3
        have HB3 := Lib.hid hb3
        have HV2 := Lib.hid v2
        clear hb3 v2 v3)
     | (go_at_call 43
        refine (HUP.out _ HB1.out).mono ?_
        rintro e w2 ⟨A2, c2, rfl, hsg, hb2⟩
        obtain ⟨y0, y1, y2, y3⟩ := HQ.out w2 hb2
        have HB2 := Lib.hid hb2
        have HY2 := Lib.hid y2
        have HSG := Lib.hid hsg
        clear hb2 y2 y3 hsg)
     | (go_at_call 72
        refine (HHAS.out _ _ _ HSG.out).mono ?_
        rintro e w' ⟨rfl, rfl⟩))
  go_loopw [7] (fun iv wr => ∃ k : Nat, 1 ≤ k ∧ k ≤ i ∧ iv = .int .i64 k ∧ (∀ (j : Nat) (h : j < (dat l).length), 1 ≤ j → j < k → (dat l)[j].p = P → (dat l)[j].n ≠ s) ∧ Below (w.heap.size + 1) (w.alloc (.cells #[.int .i64 P, .string s, .slice zA zn zc] 43)) wr) (fun iv _ => i - (intOf iv).toNat)
  case atStart => exact ⟨1, by omega, by omega, rfl, fun j _ h1 h2 => absurd h2 (by omega), HB3.out⟩
  case round =>
    obtain ⟨k, hk1, hk, rfl, hap, hbr⟩ := hrel
    have HAP := Lib.hid hap
    have HBR := Lib.hid hbr
    obtain ⟨u0, u1, u2, u3⟩ := HQ.out _ hbr
    have HU2 := Lib.hid u2
    clear hap hbr x0 x1 x2 y0 y1 z0 z1 v0 v1 HY2 HZ2 HV2
    by_cases hlt : k < i
    · have hkl : k < l.length := by omega
      have hkd : k < (dat l).length := by rw [dat_len]; exact hkl
      have hki : (k : Int) < (i : Int) := by omega
      have hkn : k < n := by omega
      have hkni : (k : Int) < (n : Int) := by omega
      obtain ⟨b', off', e', _, t0, t1, _⟩ := (HS.out.below u3).at_ hkl
      injection e' with e'
      injection e' with e1 e2
      subst e1 e2
      have htw := HF3.out k hkd hk1 hlt
      rw [dat_get l hkl] at htw
      have hstep : (l[k].d.p = P → l[k].d.n ≠ s) → ∀ (j : Nat) (h : j < (dat l).length), 1 ≤ j → j < k + 1 → (dat l)[j].p = P → (dat l)[j].n ≠ s := fun hx j h h1 h2 => by
        rcases (show j < k ∨ j = k by omega) with h3 | rfl
        · exact HAP.out j h h1 h3
        · rw [dat_get l hkl]; exact hx
      obtain ⟨q, hq⟩ : ∃ q, q = l[k].d.p := ⟨_, rfl⟩
      obtain ⟨t, ht⟩ : ∃ t, t = l[k].d.n := ⟨_, rfl⟩
      rw [← hq, ← ht] at htw hstep
      rw [← hq] at t0
      rw [← ht] at t1
      have HTW := Lib.hid htw
      have HST := Lib.hid hstep
      clear htw hstep hq ht u2 u3
      rcases hqp : (q == P) with _ | _
      · have hap2 := HST.out (fun e => absurd e (by simpa using hqp))
        have HAP2 := Lib.hid hap2
        clear hap2
        go_wp2_with fail
        go_quiet (fail)
        go_wp2_with fail
        exact ⟨⟨k + 1, by omega, by omega, by go_num, HAP2.out, below_drewN HBR.out _⟩, by simp [intOf]; omega⟩
      · have hqe : q = P := by simpa using hqp
        by_cases hts : t = s
        · obtain rfl : r = false := HTW.out hqe hts
          subst hts
          go_wp2_with fail
          go_quiet (fail)
          go_wp2_with fail
          go_ret
          exact ⟨rfl, below_drewN HU2.out _⟩
        · have hap2 := HST.out (fun _ => hts)
          have HAP2 := Lib.hid hap2
          have hne := str_ne hts
          clear hap2 hts hqe
          go_wp2_with fail
          go_quiet (fail)
          go_wp2_with fail
          exact ⟨⟨k + 1, by omega, by omega, by go_num, HAP2.out, below_drewN HBR.out _⟩, by simp [intOf]; omega⟩
    · obtain rfl : k = i := by omega
      obtain rfl : r = true := HOK.out HAP.out
      go_wp2_with fail
      go_ret
      exact ⟨rfl, HU2.out⟩
end Go.Proofs.YtmdnbajbfnhecaaDoor
