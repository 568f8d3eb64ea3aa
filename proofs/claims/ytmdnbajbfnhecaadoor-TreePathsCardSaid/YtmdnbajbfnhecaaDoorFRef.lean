/- The document's PathOf and At: the contracts. -/
import Derived.Test.YtmdnbajbfnhecaaDoorRefA
import Derived.Test.YtmdnbajbfnhecaaDoorRefB
import Derived.Test.YtmdnbajbfnhecaaDoorFindLaw
set_option linter.unusedVariables false
namespace Go.Proofs.YtmdnbajbfnhecaaDoor
open Go.RowKit
/-- The names above a node, from the root down, each behind a stroke: as the document puts them together. -/
def dnL (l : List Nd) (i t : Nat) : List UInt8 := (((above l i).dropLast.reverse).take t).flatMap fun k => 47 :: nameAt l k.toNat
theorem dn_step (l : List Nd) (i t : Nat) (h : t < ((above l i).dropLast.reverse).length) : dnL l i (t + 1) = dnL l i t ++ 47 :: nameAt l (((above l i).dropLast.reverse)[t]).toNat := by
  unfold dnL
  rw [List.take_succ_eq_append_getElem h, List.flatMap_append]
  simp
theorem dn_all (l : List Nd) (i : Nat) : pathD l i = if dnL l i ((above l i).length - 1) = [] then [47] else dnL l i ((above l i).length - 1) := by
  unfold pathD dnL
  rw [List.take_of_length_le (by simp)]
theorem rev_at (U : List Int) (t : Nat) (h : t < (U.dropLast.reverse).length) : (U.dropLast.reverse)[t] = U[U.length - 2 - t]'(by simp at h; omega) := by
  rw [List.getElem_reverse, List.getElem_dropLast]
  congr 1
  simp
  omega
theorem fine_name {l : List Nd} (h : Fine l l.length) {i : Nat} (hi : i < l.length) : (nameAt l i).length ≤ 31 := by
  have hn := h i hi
  unfold nodeOkB at hn
  unfold nameAt
  rw [List.getElem?_eq_getElem hi] at hn ⊢
  simp only [Bool.and_eq_true] at hn ⊢
  by_cases h0 : i = 0
  · rw [if_pos h0] at hn
    simp only [Bool.and_eq_true, decide_eq_true_eq] at hn
    rw [hn.2.2]
    simp
  · rw [if_neg h0] at hn
    simp only [Bool.and_eq_true] at hn
    have := hn.2.1.1.1.1.1
    unfold nameB at this
    simp only [Bool.and_eq_true, decide_eq_true_eq] at this
    exact this.1.2
theorem nameAt_dat {l : List Nm} {k : Nat} (hk : k < l.length) : nameAt (dat l) k = l[k].d.n.data.toList := by
  unfold nameAt
  rw [List.getElem?_eq_getElem (by rw [dat_len]; exact hk)]
  simp only [dat_get l hk]
set_option maxRecDepth 100000 in
set_option maxHeartbeats 2000000 in
theorem pathof_any (A : Option Addr) (cap n : Nat) (l : List Nm) (hn : n = l.length) (hn5 : n ≤ 512) (hf : Fine (dat l) (dat l).length) (i : Nat) (hi : i < n) (w : World) (B : Nat) (hB : B ≤ w.heap.size) (hs : Nodes w B A l) :
    Calls Tryd.prog 30 #[.slice A n cap, .int .i64 i] w fun e w' => ∃ s : ByteArray, e = .returned (.string s) ∧ s.data.toList = pathD (dat l) i ∧ Below w.heap.size w w' := by
  have hdl : (dat l).length = n := by rw [dat_len, hn]
  have hab := above_any A cap n n l hn i w B hB hs (by rw [← hdl]; exact hf) (Nat.le_refl _) (by omega) (by omega)
  have hap := above_pos hf (Nat.le_refl _) (k := i) (by rw [hdl]; exact hi)
  have hal := above_len hf (Nat.le_refl _) i (by rw [hdl]; exact hi)
  have ham : ∀ x ∈ above (dat l) i, ∃ k : Nat, x = (k : Int) ∧ k < n := fun x hx => by
    obtain ⟨h1, h2, _⟩ := above_mem hf (Nat.le_refl _) i (by rw [hdl]; exact hi) x hx
    exact ⟨x.toNat, by omega, by omega⟩
  have hst := dn_step (dat l) i
  have hall := dn_all (dat l) i
  have hra := rev_at (above (dat l) i)
  have h31 : ∀ k, k < n → (nameAt (dat l) k).length ≤ 31 := fun k hk => fine_name hf (by rw [hdl]; exact hk)
  have hul : ((above (dat l) i).dropLast.reverse).length = (above (dat l) i).length - 1 := by simp
  generalize pathD (dat l) i = D at *
  generalize hU : above (dat l) i = U at *
  obtain ⟨L, hL⟩ : ∃ L, L = U.length := ⟨_, rfl⟩
  rw [← hL] at hab hap hal hul hall
  have HN := Lib.hid hn
  have HS := Lib.hid hs
  have HAB := Lib.hid hab
  have HAM := Lib.hid ham
  have HST := Lib.hid hst
  have HRA := Lib.hid hra
  have H31 := Lib.hid h31
  have HUL := Lib.hid hul
  have HALL := Lib.hid hall
  have HL := Lib.hid hL
  have hap1 := hap.1
  clear hn hs hab ham hst hall hra h31 hul hL hap hf hdl hU
  go_enter Tryd.func30, Tryd.ntmps30
  go_wp2_with (first
    | (go_at_call 43
       refine HAB.out.mono ?_
       rintro e w1 ⟨A', c', rfl, ho, hb1⟩
       have HO := Lib.hid ho
       have HB := Lib.hid hb1
       clear ho hb1))
  go_loop [6, 7] (fun sv kv => ∃ (t : Nat) (s : ByteArray), t + 1 ≤ L ∧ sv = .string s ∧ kv = .int .i64 ((L : Int) - 2 - (t : Int)) ∧ s.data.toList = dnL (dat l) i t ∧ s.size ≤ 32 * t) (fun _ kv => (intOf kv + 1).toNat)
  case atStart => exact ⟨0, ByteArray.empty, by omega, rfl, by go_num, rfl, by simp [ByteArray.size]⟩
  case round =>
    obtain ⟨t, s, ht, rfl, rfl, hd, hz⟩ := hrel
    have HD := Lib.hid hd
    clear hd
    by_cases hlt : t + 2 ≤ L
    · have hge : (0 : Int) ≤ (L : Int) - 2 - (t : Int) := by omega
      obtain ⟨q, hq⟩ : ∃ q : Nat, (L : Int) - 2 - (t : Int) = (q : Int) := ⟨L - 2 - t, by omega⟩
      have hqU : q < U.length := by rw [← HL.out]; omega
      have htU : t < (U.dropLast.reverse).length := by rw [HUL.out]; omega
      obtain ⟨k, hk, hkn⟩ := HAM.out U[q] (List.getElem_mem hqU)
      obtain ⟨g, goff, hg, _, y0⟩ := (own_seg HO.out).i64 (k := q) hqU
      subst hg
      rw [hk] at y0
      have hkl : k < l.length := by rw [← HN.out]; exact hkn
      obtain ⟨b, off, eA, _, _, x1, _, _⟩ := (HS.out.below (HB.out.mono hB)).at_ hkl
      subst eA
      have hstp := HST.out t htU
      have hra2 := HRA.out t htU
      have hnm := H31.out k hkn
      rw [nameAt_dat hkl] at hnm
      have hq2 : U.length - 2 - t = q := by rw [← HL.out]; omega
      have hrq : (U.dropLast.reverse)[t] = (k : Int) := by
        rw [hra2, ← hk]
        congr 1
      rw [hrq, Int.toNat_natCast, nameAt_dat hkl] at hstp
      obtain ⟨nm, hnme⟩ : ∃ nm, nm = l[k].d.n := ⟨_, rfl⟩
      rw [← hnme] at x1 hnm hstp
      have hnz : nm.size ≤ 31 := hnm
      have hqL : (q : Int) < (L : Int) := by omega
      have hkni : (k : Int) < (n : Int) := by omega
      have hq1 : IntKind.i64.wrap ((q : Int) - 1) = (L : Int) - 2 - ((t + 1 : Nat) : Int) := by rw [IntWalk.i64_in _ (by omega)]; omega
      rw [hq]
      have hge2 : (0 : Int) ≤ (q : Int) := by omega
      have HSTP := Lib.hid hstp
      have HQ := Lib.hid hq
      clear hstp hra2 hnm hq2 hrq hnme hk hq hge
      go_wp2_with fail
      refine ⟨⟨t + 1, s ++ ⟨#[47]⟩ ++ nm, by omega, rfl, by congr 1, ?_, ?_⟩, ?_⟩
      · rw [HSTP.out, ← HD.out]
        simp [ByteArray.data_append]
      · rw [ByteArray.size_append, ByteArray.size_append]
        have : (⟨#[47]⟩ : ByteArray).size = 1 := rfl
        omega
      · have := HQ.out
        simp [intOf]
        omega
    · have hge : (L : Int) - 2 - (t : Int) = -1 := by omega
      rw [hge]
      have htl : t = L - 1 := by omega
      rw [htl] at HD
      have HD := Lib.hid HD.out
      clear hge
      by_cases he : s = ByteArray.empty
      · subst he
        have hnil : dnL (dat l) i (L - 1) = [] := HD.out.symm
        have hD := HALL.out
        rw [hnil, if_pos rfl] at hD
        subst hD
        clear HD hnil htl
        go_wp2_with fail
        go_ret
        first | exact ⟨_, rfl, rfl, HB.out⟩ | exact ⟨rfl, HB.out⟩
      · have he2 : s.toList.isEmpty = false := by
          cases hs : s.toList with
          | nil =>
            rw [ByteArray.toList_eq] at hs
            exfalso
            apply he
            cases s with
            | mk d =>
              have : d = #[] := Array.toList_inj.mp hs
              rw [this]
              rfl
          | cons x r => rfl
        have hnn : dnL (dat l) i (L - 1) ≠ [] := fun h => he (by
          have h2 := HD.out
          rw [h] at h2
          cases s with
          | mk d =>
            simp only at h2
            have : d = #[] := Array.toList_inj.mp (by rw [h2])
            rw [this]
            rfl)
        have hD := HALL.out
        rw [if_neg hnn, ← HD.out] at hD
        have HNN := Lib.hid hD
        clear hD
        clear he hnn htl
        go_wp2_with fail
        go_ret
        first | exact ⟨s, rfl, HNN.out.symm, HB.out⟩ | exact ⟨HNN.out.symm, HB.out⟩
end Go.Proofs.YtmdnbajbfnhecaaDoor
