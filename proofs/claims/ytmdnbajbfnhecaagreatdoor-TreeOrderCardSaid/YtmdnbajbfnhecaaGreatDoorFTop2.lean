/- Handle and Alias: the contracts of both sides. -/
import Derived.Test.YtmdnbajbfnhecaaGreatDoorFTop
set_option linter.unusedVariables false
namespace Go.Proofs.YtmdnbajbfnhecaaGreatDoor
open Go.RowKit
theorem hand_u32 (ps : List Pr) : handF ps < 4294967296 := by
  have h1 : (oneC (valS ps kPh)).1 < 4294967296 := by
    unfold oneC
    split
    · exact num_u32 (nl_lt _) (by rw [nl_len]; omega)
    · show 0 < 4294967296; omega
  unfold handF
  split
  · exact h1
  · omega
/-- What an alias' node says of it. -/
theorem alias_rest (l : List Nd) (k : ByteArray) {i : Nat} (h0 : (checkF l).2 = 0) (hF : findL l kAl.data.toList = some i) : aliasV l k = if valB (holdF.propsAt l i) k = true ∧ (textB (valS (holdF.propsAt l i) k)).2 = 0 then findV l (textB (valS (holdF.propsAt l i) k)).1 else (0, 6) := by
  unfold aliasV; rw [if_pos h0, hF]
theorem alias_none (l : List Nd) (k : ByteArray) (h0 : (checkF l).2 = 0) (hF : findL l kAl.data.toList = none) : aliasV l k = (0, 6) := by
  unfold aliasV; rw [if_pos h0, hF]
theorem alias_bad (l : List Nd) (k : ByteArray) (h0 : (checkF l).2 = 40) : aliasV l k = (0, 40) := by
  unfold aliasV; rw [if_neg (by rw [h0]; decide)]
theorem kal_size : kAl.size ≤ 1048576 := by decide
section
variable (A : Option Addr) (cap n : Nat) (l : List Nm) (hn : n = l.length) (hz : Sized l)
set_option maxRecDepth 100000 in
set_option maxHeartbeats 4000000 in
include hn hz in
theorem phandle_any (h : Nat) (hh : h < 4294967296) (w : World) (B : Nat) (hB : B ≤ w.heap.size) (hs : Nodes w B A l) :
    Calls Tryz.prog 18 #[.slice A n cap, .int .u32 h] w fun e w' => e = .returned (.tuple #[.int .i64 (handV (dat l) h).1, .int .i64 (handV (dat l) h).2]) ∧ Below w.heap.size w w' := by
  have hch := pCheck_any A cap n l hn hz w B hB hs
  rcases check_two (dat l) with h0 | h0
  · obtain ⟨hf, hpos, h5⟩ := check_fine h0
    have hv := fine_vals hf
    rw [dat_len, ← hn] at hpos h5
    have e : handV (dat l) h = if h = 0 then ((0 : Int), (1 : Int)) else match holdF (dat l) h with
      | none => (0, 6)
      | some i => ((i : Int), 0) := by unfold handV; rw [if_pos h0]; rfl
    rw [e]
    rw [h0] at hch
    have hno : (∀ j (hj : j < l.length), handF l[j].d.ps ≠ h) → holdF (dat l) h = none := fun hq => by
      unfold holdF
      rw [dat_len]
      exact first_none fun j hj => by rw [props_dat hj]; simpa using hq j hj
    have hyes : ∀ i (hi : i < l.length), handF l[i].d.ps = h → (∀ j (hj : j < l.length), j < i → handF l[j].d.ps ≠ h) → holdF (dat l) h = some i := fun i hi h1 h2 => by
      unfold holdF
      rw [dat_len]
      exact first_some hi (by rw [props_dat hi]; simpa using h1) fun j hj => by rw [props_dat (by omega)]; simpa using h2 j (by omega) hj
    generalize (checkF (dat l)).1 = R1 at *
    generalize holdF (dat l) h = R at *
    have HCH := Lib.hid hch
    have HN := Lib.hid hn
    have HS := Lib.hid hs
    have HZ := Lib.hid hz
    have HV := Lib.hid hv
    have HNO := Lib.hid hno
    have HYES := Lib.hid hyes
    clear hch hn hs hz hv hf h0 e hno hyes
    by_cases hh0 : h = 0
    · subst hh0
      rw [if_pos rfl]
      go_enter Tryz.func18, Tryz.ntmps18
      go_wp2_with (first
        | (go_at_call 23; refine HCH.out.mono ?_; rintro e w1 ⟨rfl, hb1⟩; have HB1 := Lib.hid hb1; clear hb1))
      go_ret2
      exact ⟨rfl, HB1.out⟩
    · rw [if_neg hh0]
      have hh1 : ((h : Int) == 0) = false := by simpa using hh0
      go_enter Tryz.func18, Tryz.ntmps18
      go_wp2_with (first
        | (go_at_call 23; refine HCH.out.mono ?_; rintro e w1 ⟨rfl, hb1⟩; have HB1 := Lib.hid hb1; clear hb1))
      go_loopw [22] (fun iv wx => ∃ i : Nat, i ≤ n ∧ iv = .int .i64 i ∧ (∀ j (hj : j < l.length), j < i → handF l[j].d.ps ≠ h) ∧ Below w.heap.size w wx) (fun iv _ => n - (intOf iv).toNat)
      case atStart => exact ⟨0, by omega, rfl, fun j _ h => absurd h (Nat.not_lt_zero j), HB1.out⟩
      case round =>
        obtain ⟨i, hi, rfl, hne, hb⟩ := hrel
        have HNE := Lib.hid hne
        have HB := Lib.hid hb
        have hbs := hb.size
        by_cases hlt : i < n
        · have hii : (i : Int) < (n : Int) := by omega
          have hil : i < l.length := by rw [← HN.out]; exact hlt
          obtain ⟨b, off, eA, _, x0, x1, x2, hseg⟩ := (HS.out.below (hb.mono hB)).at_ hil
          subst eA
          have hb0 : Below wr.heap.size wr (wr.alloc (.cells #[.int .i64 l[i].d.p, .string l[i].d.n, .slice l[i].A l[i].d.ps.length l[i].c] 50)) := (Below.refl _ wr).alloc (Nat.le_refl _) _
          have hnm := handle_any l[i].d.p l[i].d.n l[i].A l[i].c _ l[i].d.ps rfl (HZ.out.props _ (List.getElem_mem hil)) (HV.out _ (List.getElem_mem hil)) (wr.alloc (.cells #[.int .i64 l[i].d.p, .string l[i].d.n, .slice l[i].A l[i].d.ps.length l[i].c] 50)) B (Nat.le_trans (Nat.le_trans hB hbs) hb0.size) (hseg.below (hb0.mono (Nat.le_trans hB hbs)))
          have hyy := HYES.out i hil
          have hnn : ∀ j (hj : j < l.length), j < i + 1 → handF l[i].d.ps ≠ h → handF l[j].d.ps ≠ h := fun j hj hji hq => by
            by_cases e : j = i
            · subst e; exact hq
            · exact HNE.out j hj (by omega)
          have hlt2 : handF l[i].d.ps < 4294967296 := hand_u32 _
          have hb2 := below_next hb hb0
          generalize handF l[i].d.ps = H at *
          generalize l[i].d.ps.length = m at *
          generalize l[i].d.p = P at *
          generalize l[i].d.n = nm at *
          generalize l[i].A = xA at *
          generalize l[i].c = xc at *
          have HB2 := Lib.hid hb2
          have HNM := Lib.hid hnm
          have HYY := Lib.hid hyy
          have HNN := Lib.hid hnn
          clear hne hb hb0 hb2 hnm hyy hnn hseg
          by_cases he : H = h
          · subst he
            have hR := HYY.out rfl HNE.out
            subst hR
            go_wp2_with (first
              | (go_at_call 38
                 refine HNM.out.mono ?_
                 rintro e w2 ⟨rfl, hb3⟩
                 have HB3 := Lib.hid (below_next HB2.out hb3)
                 clear hb3))
            go_ret2
            exact ⟨rfl, HB3.out⟩
          · have he1 : ((H : Int) == (h : Int)) = false := by simp; omega
            have HE := Lib.hid he
            clear he
            go_wp2_with (first
              | (go_at_call 38
                 refine HNM.out.mono ?_
                 rintro e w2 ⟨rfl, hb3⟩
                 have HB3 := Lib.hid (below_next HB2.out hb3)
                 clear hb3))
            exact ⟨⟨i + 1, by omega, by go_num, fun j hj hji => HNN.out j hj hji HE.out, HB3.out⟩, by simp [intOf]; omega⟩
        · obtain rfl : i = n := by omega
          have hf0 : ¬ (i : Int) < (i : Int) := by omega
          have hR := HNO.out fun j hj => HNE.out j hj (by rw [HN.out]; exact hj)
          subst hR
          clear hne hb
          go_wp2_with fail
          go_ret2
          exact ⟨rfl, HB.out⟩
  · have e : handV (dat l) h = (0, 40) := by unfold handV; rw [if_neg (by rw [h0]; decide)]
    rw [e]
    rw [h0] at hch
    generalize (checkF (dat l)).1 = R1 at *
    have HCH := Lib.hid hch
    clear hch hn hs hz h0 e
    go_enter Tryz.func18, Tryz.ntmps18
    go_wp2_with (first
      | (go_at_call 23; refine HCH.out.mono ?_; rintro e w1 ⟨rfl, hb1⟩; have HB1 := Lib.hid hb1; clear hb1))
    go_ret2
    exact ⟨rfl, HB1.out⟩
set_option maxRecDepth 100000 in
set_option maxHeartbeats 4000000 in
include hn hz in
theorem palias_any (k : ByteArray) (w : World) (hv0 : Var0 w) (hw0 : 0 < w.heap.size) (B : Nat) (hB : B ≤ w.heap.size) (hs : Nodes w B A l) :
    Calls Tryz.prog 25 #[.slice A n cap, .string k] w fun e w' => e = .returned (.tuple #[.int .i64 (aliasV (dat l) k).1, .int .i64 (aliasV (dat l) k).2]) ∧ Below w.heap.size w w' := by
  have hf0 := pfind_any A cap n l hn hz kAl kal_size w hv0 hw0 B hB hs
  rcases check_two (dat l) with h0 | h0
  · obtain ⟨hf, hpos, h5⟩ := check_fine h0
    have hv := fine_vals hf
    have ht := fine_tr hf
    have hlt0 := fun i (hi : findL (dat l) kAl.data.toList = some i) => find_lt ht hpos hi
    rw [dat_len, ← hn] at hpos h5
    have e0 : findV (dat l) kAl = match findL (dat l) kAl.data.toList with
      | none => (0, 6)
      | some i => ((i : Int), 0) := by unfold findV; rw [if_pos h0]; rfl
    rw [e0] at hf0
    have hfd := fun s hs1 w1 (hb : Below w.heap.size w w1) => pfind_any A cap n l hn hz s hs1 w1 (hv0.below hb hw0) (Nat.lt_of_lt_of_le hw0 hb.size) B (Nat.le_trans hB hb.size) (hs.below (hb.mono hB))
    have eN := alias_none (dat l) k h0
    have eS := fun i => @alias_rest (dat l) k i h0
    rcases hF : findL (dat l) kAl.data.toList with _ | i
    · rw [eN hF]
      rw [hF] at hf0
      have HF0 := Lib.hid hf0
      clear hf0 hv0 e0 hn hs hz hv hf h0 eN eS hfd hF hlt0 ht
      go_enter Tryz.func25, Tryz.ntmps25
      go_wp2_with (first
        | (go_at_call 11; refine HF0.out.mono ?_; rintro e w2 ⟨rfl, hb2⟩; have HB2 := Lib.hid hb2; clear hb2))
      go_ret2
      exact ⟨rfl, HB2.out⟩
    have hil := hlt0 i hF
    rw [dat_len] at hil
    rw [eS i hF, props_dat hil]
    rw [hF] at hf0
    skip
    have hps := hz.props _ (List.getElem_mem hil)
    have hvv := hv _ (List.getElem_mem hil)
    have hva := fun w1 (hb : Below w.heap.size w w1) => value_any l[i].d.p l[i].d.n l[i].A l[i].c _ l[i].d.ps rfl hps k w1 B (Nat.le_trans hB hb.size) ((hs.below (hb.mono hB)).props _ (List.getElem_mem hil))
    have htx := fun w1 (hb : Below w.heap.size w w1) => ptext_any (valS l[i].d.ps k) (val_le hvv) w1 (hv0.below hb hw0)
    have htt := text_two (valS l[i].d.ps k)
    have hsz : (textB (valS l[i].d.ps k)).1.size ≤ 1048576 := Nat.le_trans (text_len _) (val_le hvv)
    have hfd1 := fun w1 (hb : Below w.heap.size w w1) => hfd (textB (valS l[i].d.ps k)).1 hsz w1 hb
    obtain ⟨b, off, eA, _, _⟩ := hs.at_ hil
    subst eA
    have hna : ∀ w1, Below w.heap.size w w1 → w1.cell? ⟨b, off + i * 3, none⟩ = some (.int .i64 l[i].d.p) ∧ w1.cell? ⟨b, off + i * 3 + 1, none⟩ = some (.string l[i].d.n) ∧ w1.cell? ⟨b, off + i * 3 + 2, none⟩ = some (.slice l[i].A l[i].d.ps.length l[i].c) := fun w1 hb => by
      obtain ⟨b', off', eA, _, x0, x1, x2, hseg⟩ := (hs.below (hb.mono hB)).at_ hil
      injection eA with eA
      injection eA with e1 e2 e3
      subst e1; subst e2
      exact ⟨x0, x1, x2⟩
    have hin : i < n := by rw [hn]; exact hil
    have hii : (i : Int) < (n : Int) := by omega
    have hi0 : (0 : Int) ≤ (i : Int) := by omega
    generalize valS l[i].d.ps k = vs at *
    generalize valB l[i].d.ps k = vb at *
    rcases hq : textB vs with ⟨o1, o2⟩
    rw [hq] at htx htt hsz hfd1
    simp only at htx htt hsz hfd1 ⊢
    generalize l[i].d.ps.length = m at *
    generalize l[i].d.p = P at *
    generalize l[i].d.n = nm at *
    generalize l[i].A = xA at *
    generalize l[i].c = xc at *
    generalize findV (dat l) o1 = R at *
    have HF0 := Lib.hid hf0
    have HVA := Lib.hid hva
    have HTX := Lib.hid htx
    have HFD := Lib.hid hfd1
    have HNA := Lib.hid hna
    clear hva htx hfd hfd1 hna hps hvv hsz hq eN eS hf0 hv0 e0 hn hs hz hv hf h0 hF hlt0 ht
    have ht := htt
    clear htt
    rcases vb with _ | _
    · rw [if_neg (by simp)]
      go_enter Tryz.func25, Tryz.ntmps25
      go_wp2_with (first
        | (go_at_call 11; refine HF0.out.mono ?_; rintro e w2 ⟨rfl, hb2⟩; have HB2 := Lib.hid hb2; obtain ⟨x0, x1, x2⟩ := HNA.out w2 hb2; clear hb2)
        | (go_at_call 39; refine (HVA.out w2 HB2.out).mono ?_; rintro e w3 ⟨rfl, hb3⟩; have HB3 := Lib.hid (below_next HB2.out hb3); clear hb3)
        | (go_at_call 50; refine (HTX.out w3 HB3.out).mono ?_; rintro e w4 ⟨rfl, hb4⟩; have HB4 := Lib.hid (below_next HB3.out hb4); clear hb4))
      go_ret2
      exact ⟨rfl, HB4.out⟩
    · rcases ht with rfl | rfl
      · rw [if_pos ⟨rfl, rfl⟩]
        go_enter Tryz.func25, Tryz.ntmps25
        go_wp2_with (first
          | (go_at_call 11; refine (HFD.out w4 HB4.out).mono ?_; rintro e w5 ⟨rfl, hb5⟩; have HB5 := Lib.hid (below_next HB4.out hb5); clear hb5)
          | (go_at_call 11; refine HF0.out.mono ?_; rintro e w2 ⟨rfl, hb2⟩; have HB2 := Lib.hid hb2; obtain ⟨x0, x1, x2⟩ := HNA.out w2 hb2; clear hb2)
          | (go_at_call 39; refine (HVA.out w2 HB2.out).mono ?_; rintro e w3 ⟨rfl, hb3⟩; have HB3 := Lib.hid (below_next HB2.out hb3); clear hb3)
          | (go_at_call 50; refine (HTX.out w3 HB3.out).mono ?_; rintro e w4 ⟨rfl, hb4⟩; have HB4 := Lib.hid (below_next HB3.out hb4); clear hb4))
        go_ret2
        exact ⟨rfl, HB5.out⟩
      · rw [if_neg (by simp)]
        go_enter Tryz.func25, Tryz.ntmps25
        go_wp2_with (first
          | (go_at_call 11; refine HF0.out.mono ?_; rintro e w2 ⟨rfl, hb2⟩; have HB2 := Lib.hid hb2; obtain ⟨x0, x1, x2⟩ := HNA.out w2 hb2; clear hb2)
          | (go_at_call 39; refine (HVA.out w2 HB2.out).mono ?_; rintro e w3 ⟨rfl, hb3⟩; have HB3 := Lib.hid (below_next HB2.out hb3); clear hb3)
          | (go_at_call 50; refine (HTX.out w3 HB3.out).mono ?_; rintro e w4 ⟨rfl, hb4⟩; have HB4 := Lib.hid (below_next HB3.out hb4); clear hb4))
        go_ret2
        exact ⟨rfl, HB4.out⟩
  · rw [alias_bad _ k h0]
    have e : findV (dat l) kAl = (0, 40) := by unfold findV; rw [if_neg (by rw [h0]; decide)]
    rw [e] at hf0
    have HF0 := Lib.hid hf0
    clear hf0 hn hs hz h0 e
    go_enter Tryz.func25, Tryz.ntmps25
    go_wp2_with (first
      | (go_at_call 11; refine HF0.out.mono ?_; rintro e w1 ⟨rfl, hb1⟩; have HB1 := Lib.hid hb1; clear hb1))
    go_ret2
    exact ⟨rfl, HB1.out⟩
end
end Go.Proofs.YtmdnbajbfnhecaaGreatDoor
