/- A node's props asked: value, handle, whether it is on, plain: the contracts of both sides. -/
import Derived.Test.YtmdnbajbfnhecaaDoorAW
import Derived.Test.YtmdnbajbfnhecaaDoorFTop2
set_option linter.unusedVariables false
namespace Go.Proofs.YtmdnbajbfnhecaaDoor
open Go.RowKit
def kSt : ByteArray := ⟨#[115, 116, 97, 116, 117, 115]⟩
def kOk : ByteArray := ⟨#[111, 107, 97, 121]⟩
def kCo : ByteArray := ⟨#[99, 111, 109, 112, 97, 116, 105, 98, 108, 101]⟩
/-- Does a node's own word let it be on? -/
def onN (ps : List Pr) : Bool := !valB ps kSt || decide (textB (valS ps kSt) = (kOk, 0))
def onB (l : List Nd) (i : Int) : Bool := (above l i).all fun k => onN (holdF.propsAt l k.toNat)
def onV (l : List Nd) (i : Int) : Bool := if wrongF l i = 0 then onB l i else false
def valueV (l : List Nd) (i : Int) (k : ByteArray) : ByteArray × Int := if wrongF l i = 0 then (if valB (holdF.propsAt l i.toNat) k = true then (valS (holdF.propsAt l i.toNat) k, 0) else (ByteArray.empty, 6)) else (ByteArray.empty, wrongF l i)
def handofV (l : List Nd) (i : Int) : Nat × Int := if wrongF l i = 0 then (if handF (holdF.propsAt l i.toNat) = 0 then (0, 6) else (handF (holdF.propsAt l i.toNat), 0)) else (0, wrongF l i)
def plainV (l : List Nd) (i : Int) : Bool := if wrongF l i = 0 then !valB (holdF.propsAt l i.toNat) kCo && onB l i else false
theorem on_cases (ps : List Pr) : (valB ps kSt = false ∧ onN ps = true) ∨ (valB ps kSt = true ∧ textB (valS ps kSt) = (kOk, 0) ∧ onN ps = true) ∨ (valB ps kSt = true ∧ (∃ t, textB (valS ps kSt) = (t, 0) ∧ t ≠ kOk) ∧ onN ps = false) ∨ (valB ps kSt = true ∧ (∃ t, textB (valS ps kSt) = (t, 4)) ∧ onN ps = false) := by
  unfold onN
  cases hv : valB ps kSt with
  | false => exact .inl ⟨rfl, rfl⟩
  | true =>
    rcases ht : textB (valS ps kSt) with ⟨t, e⟩
    have h2 := text_two (valS ps kSt)
    rw [ht] at h2
    simp only at h2
    rcases h2 with rfl | rfl
    · by_cases hk : t = kOk
      · subst hk; exact .inr (.inl ⟨rfl, rfl, by simp⟩)
      · refine .inr (.inr (.inl ⟨rfl, ⟨t, rfl, hk⟩, ?_⟩))
        simp [hk]
    · exact .inr (.inr (.inr ⟨rfl, ⟨t, rfl⟩, by simp⟩))
theorem on_step {l : List Nd} (hf : Fine l l.length) {k : Nat} (hk : k < l.length) : onB l k = (onN (holdF.propsAt l k) && onB l (parAt l k)) := by
  unfold onB
  rw [above_step hf (Nat.le_refl _) hk]
  simp
theorem ok_list : kOk.toList = [111, 107, 97, 121] := by rw [ByteArray.toList_eq]; rfl
theorem str_no {s t : ByteArray} (h : s ≠ t) : (s.toList == t.toList) = false := str_ne h
set_option maxRecDepth 100000 in
set_option maxHeartbeats 4000000 in
theorem enabled_any (A : Option Addr) (cap n : Nat) (l : List Nm) (hn : n = l.length) (hn5 : n ≤ 512) (hz : Sized l) (hf : Fine (dat l) (dat l).length) (i : Nat) (hi : i < n) (w : World) (hv0 : Var0 w) (hw0 : 0 < w.heap.size) (B : Nat) (hB : B ≤ w.heap.size) (hs : Nodes w B A l) :
    Calls Tryd.prog 73 #[.slice A n cap, .int .i64 i] w fun e w' => e = .returned (.bool (onB (dat l) i)) ∧ Below w.heap.size w w' := by
  have hv := fine_vals hf
  have hdn : ∀ j : Nat, (hj : j < l.length) → onB (dat l) j = (onN l[j].d.ps && onB (dat l) l[j].d.p) ∧ -1 ≤ l[j].d.p ∧ l[j].d.p < j := fun j hj => by
    have hj2 : j < (dat l).length := by rw [dat_len]; exact hj
    have h1 := fine_par hf hj2 hj2
    have h2 := on_step hf hj2
    rw [par_get l hj] at h1 h2
    rw [props_dat hj] at h2
    exact ⟨h2, h1.2.1, h1.1⟩
  obtain ⟨R, hR⟩ : ∃ R, R = onB (dat l) i := ⟨_, rfl⟩
  rw [← hR]
  have HR := Lib.hid hR
  have HN := Lib.hid hn
  have HS := Lib.hid hs
  have HZ := Lib.hid hz
  have HV := Lib.hid hv
  have HDN := Lib.hid hdn
  have HV0 := Lib.hid hv0
  clear hn hs hz hv hdn hR hv0 hf
  go_enter Tryd.func73, Tryd.ntmps73
  go_wp2_with fail
  go_loopw [1] (fun xv wx => ∃ x : Int, -1 ≤ x ∧ x < n ∧ xv = .int .i64 x ∧ onB (dat l) x = R ∧ Below w.heap.size w wx) (fun xv _ => (intOf xv + 1).toNat)
  case atStart => exact ⟨i, by omega, by omega, rfl, HR.out.symm, Below.refl _ _⟩
  case round =>
    obtain ⟨x, hx1, hx2, rfl, hx, hb⟩ := hrel
    have HX := Lib.hid hx
    have HB := Lib.hid hb
    have hbs := hb.size
    by_cases hx0 : 0 ≤ x
    · obtain ⟨j, rfl⟩ : ∃ j : Nat, x = (j : Int) := ⟨x.toNat, by omega⟩
      have hjl : j < l.length := by rw [← HN.out]; omega
      obtain ⟨b, off, eA, hbB, x0, x1, x2, _⟩ := (HS.out.below (hb.mono hB)).at_ hjl
      subst eA
      obtain ⟨h1, h2, h3⟩ := HDN.out j hjl
      rw [hx] at h1
      have hva := fun w1 (hb1 : Below w.heap.size w w1) => value_any l[j].d.p l[j].d.n l[j].A l[j].c _ l[j].d.ps rfl (HZ.out.props _ (List.getElem_mem hjl)) kSt w1 B (Nat.le_trans hB hb1.size) ((HS.out.below (hb1.mono hB)).props _ (List.getElem_mem hjl))
      have htx := fun w1 (hb1 : Below w.heap.size w w1) => ptext_any (valS l[j].d.ps kSt) (val_le (HV.out _ (List.getElem_mem hjl))) w1 (HV0.out.below hb1 hw0)
      have hpc : ∀ w1, Below w.heap.size w w1 → w1.cell? ⟨b, off + j * 3, none⟩ = some (.int .i64 l[j].d.p) := fun w1 hb1 => by
        obtain ⟨b', off', eA, _, y0, _⟩ := (HS.out.below (hb1.mono hB)).at_ hjl
        injection eA with eA
        injection eA with e1 e2 e3
        subst e1; subst e2
        exact y0
      have hoc := on_cases l[j].d.ps
      generalize onN l[j].d.ps = O at *
      generalize valS l[j].d.ps kSt = vs at *
      generalize valB l[j].d.ps kSt = vb at *
      generalize l[j].d.ps.length = m at *
      generalize l[j].d.p = P at *
      generalize l[j].d.n = nm at *
      generalize l[j].A = xA at *
      generalize l[j].c = xc at *
      have HVA := Lib.hid hva
      have HPC := Lib.hid hpc
      have H1 := Lib.hid h1
      rcases hoc with ⟨rfl, rfl⟩ | ⟨rfl, ht, rfl⟩ | ⟨rfl, ⟨t, ht, hne⟩, rfl⟩ | ⟨rfl, ⟨t, ht⟩, rfl⟩
      · clear hx hb hva htx hpc h1
        go_wp2_with (first
          | (go_at_call 36; refine (HVA.out wr HB.out).mono ?_; rintro e w1 ⟨rfl, hb1⟩; have HB1 := Lib.hid (below_next HB.out hb1); have y0 := HPC.out w1 HB1.out; clear hb1))
        exact ⟨⟨P, h2, by omega, rfl, by rw [H1.out]; simp, HB1.out⟩, by simp [intOf]; omega⟩
      · rw [ht] at htx
        have HTX := Lib.hid htx
        have hok1 : (kOk.toList == [111, 107, 97, 121]) = true := by rw [ok_list]; rfl
        clear hx hb hva htx hpc h1 ht
        go_wp2_with (first
          | (go_at_call 36; refine (HVA.out wr HB.out).mono ?_; rintro e w1 ⟨rfl, hb1⟩; have HB1 := Lib.hid (below_next HB.out hb1); clear hb1)
          | (go_at_call 37; refine (HTX.out w1 HB1.out).mono ?_; rintro e w2 ⟨rfl, hb2⟩; have HB2 := Lib.hid (below_next HB1.out hb2); have y0 := HPC.out w2 HB2.out; clear hb2))
        exact ⟨⟨P, h2, by omega, rfl, by rw [H1.out]; simp, HB2.out⟩, by simp [intOf]; omega⟩
      · rw [ht] at htx
        have HTX := Lib.hid htx
        have hne1 : (t.toList == [111, 107, 97, 121]) = false := by rw [← ok_list]; exact str_no hne
        obtain rfl : R = false := by rw [H1.out]; rfl
        clear hx hb hva htx hpc h1 ht hne
        go_wp2_with (first
          | (go_at_call 36; refine (HVA.out wr HB.out).mono ?_; rintro e w1 ⟨rfl, hb1⟩; have HB1 := Lib.hid (below_next HB.out hb1); clear hb1)
          | (go_at_call 37; refine (HTX.out w1 HB1.out).mono ?_; rintro e w2 ⟨rfl, hb2⟩; have HB2 := Lib.hid (below_next HB1.out hb2); have y0 := HPC.out w2 HB2.out; clear hb2))
        go_ret
        exact ⟨rfl, HB2.out⟩
      · rw [ht] at htx
        have HTX := Lib.hid htx
        obtain rfl : R = false := by rw [H1.out]; rfl
        clear hx hb hva htx hpc h1 ht
        go_wp2_with (first
          | (go_at_call 36; refine (HVA.out wr HB.out).mono ?_; rintro e w1 ⟨rfl, hb1⟩; have HB1 := Lib.hid (below_next HB.out hb1); clear hb1)
          | (go_at_call 37; refine (HTX.out w1 HB1.out).mono ?_; rintro e w2 ⟨rfl, hb2⟩; have HB2 := Lib.hid (below_next HB1.out hb2); have y0 := HPC.out w2 HB2.out; clear hb2))
        go_ret
        exact ⟨rfl, HB2.out⟩
    · obtain rfl : x = -1 := by omega
      obtain rfl : R = true := by rw [← hx]; unfold onB; rw [above_neg _ (by omega)]; rfl
      clear hx hb
      go_wp2_with fail
      go_ret
      exact ⟨rfl, HB.out⟩
set_option maxRecDepth 100000 in
set_option maxHeartbeats 4000000 in
theorem ron_any (A : Option Addr) (cap n : Nat) (l : List Nm) (hn : n = l.length) (hn5 : n ≤ 512) (hz : Sized l) (hf : Fine (dat l) (dat l).length) (i : Nat) (hi : i < n) (w : World) (B : Nat) (hB : B ≤ w.heap.size) (hs : Nodes w B A l) :
    Calls Tryd.prog 74 #[.slice A n cap, .int .i64 i] w fun e w' => e = .returned (.bool (onB (dat l) i)) ∧ Below w.heap.size w w' := by
  have hv := fine_vals hf
  have hdl : (dat l).length = n := by rw [dat_len, hn]
  have hab := above_any A cap n n l hn i w B hB hs (by rw [← hdl]; exact hf) (Nat.le_refl _) (by omega) (by omega)
  have hal := above_len hf (Nat.le_refl _) i (by rw [hdl]; exact hi)
  have ham : ∀ x ∈ above (dat l) i, ∃ k : Nat, x = (k : Int) ∧ k < n := fun x hx => by
    obtain ⟨h1, h2, _⟩ := above_mem hf (Nat.le_refl _) i (by rw [hdl]; exact hi) x hx
    exact ⟨x.toNat, by omega, by omega⟩
  obtain ⟨R, hR⟩ : ∃ R, R = onB (dat l) i := ⟨_, rfl⟩
  have hR2 := hR
  rw [← hR]
  unfold onB at hR2
  generalize above (dat l) i = U at *
  obtain ⟨L, hL⟩ : ∃ L, L = U.length := ⟨_, rfl⟩
  rw [← hL] at hab hal
  have HL := Lib.hid hL
  have HR := Lib.hid hR2
  have HN := Lib.hid hn
  have HS := Lib.hid hs
  have HZ := Lib.hid hz
  have HV := Lib.hid hv
  have HAM := Lib.hid ham
  have HAB := Lib.hid hab
  clear hn hs hz hv hR hf hdl hab ham hR2 hL
  go_enter Tryd.func74, Tryd.ntmps74
  go_wp2_with (first
    | (go_at_call 43
       refine HAB.out.mono ?_
       rintro e w1 ⟨A', c', rfl, ho, hb1⟩
       have HO := Lib.hid ho
       have HB1 := Lib.hid hb1
       clear ho hb1))
  go_loopw [6] (fun tv wx => ∃ t : Nat, t ≤ L ∧ tv = .int .i64 t ∧ ((U.drop t).all fun k => onN (holdF.propsAt (dat l) k.toNat)) = R ∧ Below w.heap.size w wx ∧ Below w1.heap.size w1 wx) (fun tv _ => L - (intOf tv).toNat)
  case atStart => exact ⟨0, Nat.zero_le _, rfl, by rw [HR.out]; rfl, HB1.out, Below.refl _ _⟩
  case round =>
    obtain ⟨t, ht1, rfl, hx, hb, hbx⟩ := hrel
    have HX := Lib.hid hx
    have HB := Lib.hid hb
    have HBX := Lib.hid hbx
    have hbs := hb.size
    by_cases hlt : t < L
    · have htL : (t : Int) < (L : Int) := by omega
      have htU : t < U.length := by rw [← HL.out]; exact hlt
      obtain ⟨j, hj, hjn⟩ := HAM.out U[t] (List.getElem_mem htU)
      obtain ⟨g, goff, hg, _, y0⟩ := ((own_seg HO.out).below hbx).i64 (k := t) htU
      subst hg
      rw [hj] at y0
      have hjl : j < l.length := by rw [← HN.out]; exact hjn
      have hji : (j : Int) < (n : Int) := by omega
      obtain ⟨b, off, eA, hbB, x0, x1, x2, _⟩ := (HS.out.below (hb.mono hB)).at_ hjl
      subst eA
      have h1 : (onN l[j].d.ps && (U.drop (t + 1)).all fun k => onN (holdF.propsAt (dat l) k.toNat)) = R := by
        rw [← hx, List.drop_eq_getElem_cons htU, List.all_cons, hj, Int.toNat_natCast, props_dat hjl]
      have hva := fun w1 (hb1 : Below w.heap.size w w1) => rvalue_any l[j].d.p l[j].d.n l[j].A l[j].c _ l[j].d.ps rfl (HZ.out.props _ (List.getElem_mem hjl)) kSt w1 B (Nat.le_trans hB hb1.size) ((HS.out.below (hb1.mono hB)).props _ (List.getElem_mem hjl))
      have htx := fun w1 => rtext_any (valS l[j].d.ps kSt) (val_le (HV.out _ (List.getElem_mem hjl))) w1
      have hoc := on_cases l[j].d.ps
      generalize onN l[j].d.ps = O at *
      generalize valS l[j].d.ps kSt = vs at *
      generalize valB l[j].d.ps kSt = vb at *
      generalize l[j].d.ps.length = m at *
      generalize l[j].d.p = P at *
      generalize l[j].d.n = nm at *
      generalize l[j].A = xA at *
      generalize l[j].c = xc at *
      have HVA := Lib.hid hva
      have H1 := Lib.hid h1
      rcases hoc with ⟨rfl, rfl⟩ | ⟨rfl, ht, rfl⟩ | ⟨rfl, ⟨t', ht, hne⟩, rfl⟩ | ⟨rfl, ⟨t', ht⟩, rfl⟩
      · rcases hq : textB vs with ⟨o1, o2⟩
        rw [hq] at htx
        have HTX := Lib.hid htx
        clear hx hb hva htx h1 hq hj hbx
        go_wp2_with (first
          | (go_at_call 38; refine (HVA.out wr HB.out).mono ?_; rintro e w2 ⟨rfl, hb2⟩; have HB2 := Lib.hid (below_next HB.out hb2); have HX2 := Lib.hid (below_next HBX.out hb2); clear hb2)
          | (go_at_call 39; refine (HTX.out w2).mono ?_; rintro e w3 ⟨rfl, hb3⟩; have HB3 := Lib.hid (below_next HB2.out hb3); have HX3 := Lib.hid (below_next HX2.out hb3); clear hb3))
        exact ⟨⟨t + 1, by omega, by go_num, by rw [← H1.out]; rfl, HB3.out, HX3.out⟩, by simp [intOf]; omega⟩
      · rw [ht] at htx
        have HTX := Lib.hid htx
        have hok1 : (kOk.toList == [111, 107, 97, 121]) = true := by rw [ok_list]; rfl
        clear hx hb hva htx h1 ht hj hbx
        go_wp2_with (first
          | (go_at_call 38; refine (HVA.out wr HB.out).mono ?_; rintro e w2 ⟨rfl, hb2⟩; have HB2 := Lib.hid (below_next HB.out hb2); have HX2 := Lib.hid (below_next HBX.out hb2); clear hb2)
          | (go_at_call 39; refine (HTX.out w2).mono ?_; rintro e w3 ⟨rfl, hb3⟩; have HB3 := Lib.hid (below_next HB2.out hb3); have HX3 := Lib.hid (below_next HX2.out hb3); clear hb3))
        exact ⟨⟨t + 1, by omega, by go_num, by rw [← H1.out]; rfl, HB3.out, HX3.out⟩, by simp [intOf]; omega⟩
      · rw [ht] at htx
        have HTX := Lib.hid htx
        have hne1 : (t'.toList == [111, 107, 97, 121]) = false := by rw [← ok_list]; exact str_no hne
        obtain rfl : R = false := by rw [← H1.out]; rfl
        clear hx hb hva htx h1 ht hne hj hbx
        go_wp2_with (first
          | (go_at_call 38; refine (HVA.out wr HB.out).mono ?_; rintro e w2 ⟨rfl, hb2⟩; have HB2 := Lib.hid (below_next HB.out hb2); have HX2 := Lib.hid (below_next HBX.out hb2); clear hb2)
          | (go_at_call 39; refine (HTX.out w2).mono ?_; rintro e w3 ⟨rfl, hb3⟩; have HB3 := Lib.hid (below_next HB2.out hb3); have HX3 := Lib.hid (below_next HX2.out hb3); clear hb3))
        go_ret
        exact ⟨rfl, HB3.out⟩
      · rw [ht] at htx
        have HTX := Lib.hid htx
        obtain rfl : R = false := by rw [← H1.out]; rfl
        clear hx hb hva htx h1 ht hj hbx
        go_wp2_with (first
          | (go_at_call 38; refine (HVA.out wr HB.out).mono ?_; rintro e w2 ⟨rfl, hb2⟩; have HB2 := Lib.hid (below_next HB.out hb2); have HX2 := Lib.hid (below_next HBX.out hb2); clear hb2)
          | (go_at_call 39; refine (HTX.out w2).mono ?_; rintro e w3 ⟨rfl, hb3⟩; have HB3 := Lib.hid (below_next HB2.out hb3); have HX3 := Lib.hid (below_next HX2.out hb3); clear hb3))
        go_ret
        exact ⟨rfl, HB3.out⟩
    · obtain rfl : t = L := by omega
      have hf0 : ¬ (t : Int) < (t : Int) := by omega
      obtain rfl : R = true := by rw [← hx, List.drop_of_length_le (by rw [← HL.out]; exact Nat.le_refl _)]; rfl
      clear hx hb hbx
      go_wp2_with fail
      go_ret
      exact ⟨rfl, HB.out⟩
end Go.Proofs.YtmdnbajbfnhecaaDoor
