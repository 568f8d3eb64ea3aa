/- The document's At and Holder: the contracts. -/
import Derived.Test.YtmdnbajbfnhecaaDoorFRef
import Derived.Test.YtmdnbajbfnhecaaDoorFHand
import Derived.Test.YtmdnbajbfnhecaaDoorRefD
set_option linter.unusedVariables false
namespace Go.Proofs.YtmdnbajbfnhecaaDoor
open Go.RowKit
/-- A place, or -1. -/
def optI : Option Nat → Int
  | none => -1
  | some i => (i : Int)
theorem first_none {n : Nat} {p : Nat → Bool} (h : ∀ j, j < n → p j = false) : (List.range n).find? p = none := by
  rw [List.find?_eq_none]
  intro j hj
  simp [h j (by simpa using hj)]
theorem first_some {n i : Nat} {p : Nat → Bool} (hi : i < n) (hp : p i = true) (h : ∀ j, j < i → p j = false) : (List.range n).find? p = some i := by
  rw [List.find?_range_eq_some]
  exact ⟨hp, by simpa using hi, fun j hj => by simp [h j hj]⟩
/-- The first node with a handle. -/
def holdF (l : List Nd) (h : Nat) : Option Nat := (List.range l.length).find? fun i => handF (propsAt l i) == h
where propsAt (l : List Nd) (i : Nat) : List Pr := match l[i]? with
  | none => []
  | some x => x.ps
theorem props_dat {l : List Nm} {k : Nat} (hk : k < l.length) : holdF.propsAt (dat l) k = l[k].d.ps := by
  unfold holdF.propsAt
  rw [List.getElem?_eq_getElem (by rw [dat_len]; exact hk)]
  simp only [dat_get l hk]
theorem bytes_eq {s t : ByteArray} (h : s.data.toList = t.data.toList) : s = t := by
  cases s with
  | mk a => cases t with
    | mk b =>
      simp only at h
      rw [Array.toList_inj.mp h]
set_option maxRecDepth 100000 in
set_option maxHeartbeats 2000000 in
theorem at_any (A : Option Addr) (cap n : Nat) (l : List Nm) (hn : n = l.length) (hn5 : n ≤ 512) (hf : Fine (dat l) (dat l).length) (s : ByteArray) (w : World) (B : Nat) (hB : B ≤ w.heap.size) (hs : Nodes w B A l) :
    Calls Tryd.prog 33 #[.slice A n cap, .string s] w fun e w' => e = .returned (.int .i64 (optI (atD (dat l) s.data.toList))) ∧ Below w.heap.size w w' := by
  have hpo := fun i hi w1 (hb : Below w.heap.size w w1) => pathof_any A cap n l hn hn5 hf i hi w1 B (Nat.le_trans hB hb.size) (hs.below (hb.mono hB))
  have hno : (∀ j, j < n → pathD (dat l) j ≠ s.data.toList) → atD (dat l) s.data.toList = none := fun h => by
    unfold atD
    rw [dat_len, ← hn]
    exact first_none fun j hj => by simpa using h j hj
  have hyes : ∀ i, i < n → pathD (dat l) i = s.data.toList → (∀ j, j < i → pathD (dat l) j ≠ s.data.toList) → atD (dat l) s.data.toList = some i := fun i hi h1 h2 => by
    unfold atD
    rw [dat_len, ← hn]
    exact first_some hi (by simpa using h1) fun j hj => by simpa using h2 j hj
  generalize atD (dat l) s.data.toList = R at *
  have HPO := Lib.hid hpo
  have HNO := Lib.hid hno
  have HYES := Lib.hid hyes
  clear hpo hno hyes hn hs hf
  go_enter Tryd.func33, Tryd.ntmps33
  go_wp2_with fail
  go_loopw [5] (fun iv wx => ∃ i : Nat, i ≤ n ∧ iv = .int .i64 i ∧ (∀ j, j < i → pathD (dat l) j ≠ s.data.toList) ∧ Below w.heap.size w wx) (fun iv _ => n - (intOf iv).toNat)
  case atStart => exact ⟨0, by omega, rfl, fun j h => absurd h (Nat.not_lt_zero j), Below.refl _ _⟩
  case round =>
    obtain ⟨i, hi, rfl, hne, hb⟩ := hrel
    have HNE := Lib.hid hne
    have HB := Lib.hid hb
    clear hne hb
    by_cases hlt : i < n
    · have hii : (i : Int) < (n : Int) := by omega
      by_cases he : pathD (dat l) i = s.data.toList
      · have hR := HYES.out i hlt he HNE.out
        subst hR
        have HE := Lib.hid he
        clear he
        go_wp2_with (first
          | (go_at_call 30
             refine (HPO.out i hlt wr HB.out).mono ?_
             rintro e w1 ⟨s1, rfl, hs1, hb1⟩
             obtain rfl : s1 = s := bytes_eq (hs1.trans HE.out)
             have HB1 := Lib.hid (below_next HB.out hb1)
             clear hs1 hb1))
        go_ret
        exact ⟨rfl, HB1.out⟩
      · have HE := Lib.hid he
        clear he
        go_wp2_with (first
          | (go_at_call 30
             refine (HPO.out i hlt wr HB.out).mono ?_
             rintro e w1 ⟨s1, rfl, hs1, hb1⟩
             have hne1 : (s1.toList == s.toList) = false := str_ne fun h => HE.out (by rw [← hs1, h])
             have HB1 := Lib.hid (below_next HB.out hb1)
             clear hs1 hb1))
        refine ⟨⟨i + 1, by omega, by go_num, fun j hj => ?_, HB1.out⟩, by simp [intOf]; omega⟩
        by_cases e : j = i
        · subst e; exact HE.out
        · exact HNE.out j (by omega)
    · obtain rfl : i = n := by omega
      have hf0 : ¬ (i : Int) < (i : Int) := by omega
      have hR := HNO.out HNE.out
      subst hR
      go_wp2_with fail
      go_ret
      exact ⟨rfl, HB.out⟩
set_option maxRecDepth 100000 in
set_option maxHeartbeats 2000000 in
theorem holder_any (A : Option Addr) (cap n : Nat) (l : List Nm) (hn : n = l.length) (hn5 : n ≤ 512) (hz : Sized l) (hv : ∀ x ∈ l, ∀ y ∈ x.d.ps, y.v.size ≤ 1048576) (h : Nat) (hh : h < 4294967296) (w : World) (B : Nat) (hB : B ≤ w.heap.size) (hs : Nodes w B A l) :
    Calls Tryd.prog 35 #[.slice A n cap, .int .u32 h] w fun e w' => e = .returned (.int .i64 (optI (holdF (dat l) h))) ∧ Below w.heap.size w w' := by
  have hno : (∀ j (hj : j < l.length), handF l[j].d.ps ≠ h) → holdF (dat l) h = none := fun hq => by
    unfold holdF
    rw [dat_len]
    exact first_none fun j hj => by rw [props_dat hj]; simpa using hq j hj
  have hyes : ∀ i (hi : i < l.length), handF l[i].d.ps = h → (∀ j (hj : j < l.length), j < i → handF l[j].d.ps ≠ h) → holdF (dat l) h = some i := fun i hi h1 h2 => by
    unfold holdF
    rw [dat_len]
    exact first_some hi (by rw [props_dat hi]; simpa using h1) fun j hj => by rw [props_dat (by omega)]; simpa using h2 j (by omega) hj
  generalize holdF (dat l) h = R at *
  have HN := Lib.hid hn
  have HS := Lib.hid hs
  have HZ := Lib.hid hz
  have HV := Lib.hid hv
  have HNO := Lib.hid hno
  have HYES := Lib.hid hyes
  clear hno hyes hn hs hz hv
  go_enter Tryd.func35, Tryd.ntmps35
  go_wp2_with fail
  go_loopw [5] (fun iv wx => ∃ i : Nat, i ≤ n ∧ iv = .int .i64 i ∧ (∀ j (hj : j < l.length), j < i → handF l[j].d.ps ≠ h) ∧ Below w.heap.size w wx) (fun iv _ => n - (intOf iv).toNat)
  case atStart => exact ⟨0, by omega, rfl, fun j _ h => absurd h (Nat.not_lt_zero j), Below.refl _ _⟩
  case round =>
    obtain ⟨i, hi, rfl, hne, hb⟩ := hrel
    have HNE := Lib.hid hne
    have HB := Lib.hid hb
    have hbs := hb.size
    by_cases hlt : i < n
    · have hii : (i : Int) < (n : Int) := by omega
      have hil : i < l.length := by rw [← HN.out]; exact hlt
      obtain ⟨b, off, eA, _, x0, x1, x2, hseg⟩ := (HS.out.below (hb.mono hB)).at_ hil
      subst eA
      have hnm := named_any l[i].d.p l[i].d.n l[i].A l[i].c _ l[i].d.ps rfl (HZ.out.props _ (List.getElem_mem hil)) (HV.out _ (List.getElem_mem hil)) wr B (Nat.le_trans hB hbs) hseg
      have hyy := HYES.out i hil
      have hnn : ∀ j (hj : j < l.length), j < i + 1 → handF l[i].d.ps ≠ h → handF l[j].d.ps ≠ h := fun j hj hji hq => by
        by_cases e : j = i
        · subst e; exact hq
        · exact HNE.out j hj (by omega)
      have hlt2 : handF l[i].d.ps < 4294967296 := by
        have h1 : (oneC (valS l[i].d.ps kPh)).1 < 4294967296 := by
          unfold oneC
          split
          · exact num_u32 (nl_lt _) (by rw [nl_len]; omega)
          · show 0 < 4294967296; omega
        unfold handF
        split
        · exact h1
        · omega
      generalize handF l[i].d.ps = H at *
      generalize l[i].d.ps.length = m at *
      generalize l[i].d.p = P at *
      generalize l[i].d.n = nm at *
      generalize l[i].A = xA at *
      generalize l[i].c = xc at *
      have HNM := Lib.hid hnm
      have HYY := Lib.hid hyy
      have HNN := Lib.hid hnn
      clear hne hb hnm hyy hnn hseg
      by_cases he : H = h
      · subst he
        have hR := HYY.out rfl HNE.out
        subst hR
        go_wp2_with (first
          | (go_at_call 67
             refine HNM.out.mono ?_
             rintro e w1 ⟨rfl, hb1⟩
             have HB1 := Lib.hid (below_next HB.out hb1)
             clear hb1))
        go_ret
        exact ⟨rfl, HB1.out⟩
      · have he1 : ((H : Int) == (h : Int)) = false := by simp; omega
        have HE := Lib.hid he
        clear he
        go_wp2_with (first
          | (go_at_call 67
             refine HNM.out.mono ?_
             rintro e w1 ⟨rfl, hb1⟩
             have HB1 := Lib.hid (below_next HB.out hb1)
             clear hb1))
        exact ⟨⟨i + 1, by omega, by go_num, fun j hj hji => HNN.out j hj hji HE.out, HB1.out⟩, by simp [intOf]; omega⟩
    · obtain rfl : i = n := by omega
      have hf0 : ¬ (i : Int) < (i : Int) := by omega
      have hR := HNO.out fun j hj => HNE.out j hj (by rw [HN.out]; exact hj)
      subst hR
      clear hne hb
      go_wp2_with fail
      go_ret
      exact ⟨rfl, HB.out⟩
end Go.Proofs.YtmdnbajbfnhecaaDoor
