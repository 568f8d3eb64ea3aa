/- DomainsRuns: the statement's kept. -/
import Derived.Test.YtghcemfffhjmjaaOut
import Derived.Test.YtghcemfffhjmjaaRLaw
set_option linter.unusedVariables false
namespace Go.Proofs.Ytghcemfffhjmjaa
open Go.RowKit
theorem core_at {l l' : List Dmi} (h : l'.map Dmi.core = l.map Dmi.core) {i : Nat} (h1 : i < l'.length) (h2 : i < l.length) : l'[i].u = l[i].u ∧ l'[i].t = l[i].t := by
  have e := congrArg (fun x => x[i]?) h
  simp only [List.getElem?_map, List.getElem?_eq_getElem h1, List.getElem?_eq_getElem h2, Option.map_some, Option.some.injEq] at e
  exact ⟨congrArg Prod.fst e, congrArg Prod.snd e⟩
theorem out_cell {w : World} {g : Nat} {lo : List Dmi} {zs : List Value} (h : RowAt w g 57 (dmiCells lo ++ zs)) {i : Nat} (hi : i < lo.length) :
    w.cell? ⟨g, i * 2, none⟩ = some (.slice lo[i].A lo[i].u.length lo[i].c) ∧ w.cell? ⟨g, i * 2 + 1, none⟩ = some (.int .u8 (lo[i].t : Int)) := by
  have hl : (dmiCells lo).length = lo.length * 2 := flat_length Dmi.cells 2 dmi_len lo
  have key : ∀ j, j < 2 → w.cell? ⟨g, i * 2 + j, none⟩ = (Dmi.cells lo[i])[j]? := fun j hj => by
    rw [h.cell (by rw [List.length_append]; omega), List.getElem?_append_left (by omega)]
    exact flat_get Dmi.cells 2 dmi_len lo i j hi hj
  exact ⟨key 0 (by omega), key 1 (by omega)⟩
theorem out_mark {w : World} {g : Nat} {lo : List Dmi} {u v : Value} (h : RowAt w g 57 (dmiCells lo ++ [u, v])) {n : Nat} (hn : n = lo.length) : w.cell? ⟨g, n * 2 + 1, none⟩ = some v := by
  have hl : (dmiCells lo).length = lo.length * 2 := flat_length Dmi.cells 2 dmi_len lo
  rw [h.cell (by rw [List.length_append, hl, hn]; simp), List.getElem?_append_right (by omega), hl, hn, show lo.length * 2 + 1 - lo.length * 2 = 1 by omega]
  rfl
set_option maxRecDepth 100000 in
set_option maxHeartbeats 4000000 in
theorem kept_any (A Al : Option Addr) (c cap : Nat) (lo l : List Dmi) (n : Nat) (hn : n = l.length) (hmax : n ≤ 4398046510976) (hu : ∀ x ∈ l, x.u.length ≤ 17592186043904) (w : World) (B : Nat)
    (hs : Domi w w.heap.size Al l) (ho : OutAt w B n A c lo l) :
    Calls Try.prog 20 #[.slice A n c, .slice Al n cap] w fun e w' => e = .returned (.bool true) ∧ Below w.heap.size w w' := by
  obtain ⟨g, rfl, hgB, hg, hrow⟩ := RowAt.of_own ho.own (by omega)
  have hc : n + 1 ≤ c := by
    rcases ho.own.2 with ⟨hv, _⟩ | ⟨_, _, _, hv, _, _, hc, _⟩
    · cases hv
    · injection hv with _ _ hv; omega
  have hlo : n = lo.length := by rw [hn, core_len ho.same]
  have hm0 := out_mark hrow hlo
  have hci : (n : Int) + 1 ≤ (c : Int) := by omega
  have hni : (0 : Int) ≤ (n : Int) + 1 := by omega
  have hun := ho.under
  have hcp := ho.cap
  have hsm := ho.same
  have HROW := Lib.hid hrow
  have HUN := Lib.hid hun
  have HCP := Lib.hid hcp
  have HSM := Lib.hid hsm
  have HN := Lib.hid hn
  have HLO := Lib.hid hlo
  have HU := Lib.hid hu
  have HS := Lib.hid hs
  clear hrow hun hcp hsm hn hlo hu hs ho
  go_enter Try.func20, Try.ntmps20
  go_wp2_with fail
  go_loopw [5] (fun iv wr => ∃ i : Nat, i ≤ n ∧ iv = .int .i64 i ∧ Below w.heap.size w wr) (fun iv _ => n - (intOf iv).toNat)
  case atStart => exact ⟨0, by omega, rfl, Below.refl _ _⟩
  case round =>
    obtain ⟨i, hi, rfl, hb⟩ := hrel
    have HB := Lib.hid hb
    clear hb hm0
    by_cases hin : i < n
    · have hii : (i : Int) < (n : Int) := by omega
      have hil : i < l.length := by rw [← HN.out]; exact hin
      have hio : i < lo.length := by rw [← HLO.out]; exact hin
      obtain ⟨e1, e2⟩ := core_at HSM.out hio hil
      obtain ⟨b, off, rfl, hbb, x0, x1, hseg⟩ := (HS.out.below HB.out).at_ hil
      obtain ⟨y0, y1⟩ := out_cell (HROW.out.keep (HB.out.block g hg)) hio
      have hmm := HU.out _ (List.getElem_mem hil)
      have hcap := HCP.out _ (List.getElem_mem hio)
      obtain ⟨g2, hA2, hg2B, hrow2⟩ := ((HUN.out _ (List.getElem_mem hio)).below HB.out) (by simp)
      have hg2 := hrow2.lt
      rw [hA2] at y0
      rw [e1] at y0 hcap hrow2
      rw [e2] at y1
      obtain ⟨u, hu⟩ : ∃ u, u = l[i].u := ⟨_, rfl⟩
      rw [← hu] at x0 y0 hseg hcap hrow2 hmm
      obtain ⟨m, hm⟩ : ∃ m, m = u.length := ⟨_, rfl⟩
      rw [← hm] at x0 y0 hcap hmm
      have hmk := hrow2.cell (k := m) (by simp [ints_len, hm])
      rw [List.getElem?_append_right (by simp [ints_len, hm]), ints_len, ← hm, Nat.sub_self, List.getElem?_cons_zero] at hmk
      generalize l[i].A = a at x0 hseg
      generalize l[i].c = cx at x0
      generalize l[i].t = t at x1 y1
      generalize lo[i].c = cy at y0 hcap
      have hcyi : (m : Int) + 1 ≤ (cy : Int) := by omega
      have hmi : (0 : Int) ≤ (m : Int) + 1 := by omega
      have hm1 : (m : Int) < (m : Int) + 1 := by omega
      have HM := Lib.hid hm
      have HSEG := Lib.hid hseg
      have HR2 := Lib.hid hrow2
      have hbr : b < wr.heap.size := by have := HB.out.size; omega
      clear hA2 e1 e2 hu hm hseg hrow2
      go_wp2_with fail
      go_quiet (fail)
      have HB2 := Lib.hid (below_drewN HB.out nq)
      have HSEG2 := Lib.hid (HSEG.out.drewN nq)
      have HR3 := Lib.hid (HR2.out.keep (w' := wr.drewN nq) rfl)
      obtain ⟨w1, hw1⟩ : ∃ w1, w1 = wr.drewN nq := ⟨_, rfl⟩
      have X0 : w1.cell? ⟨b, off + i * 2, none⟩ = some (.slice a m cx) := by rw [hw1]; exact x0
      have Y0 : w1.cell? ⟨g, i * 2, none⟩ = some (.slice (some ⟨g2, 0, none⟩) m cy) := by rw [hw1]; exact y0
      rw [← hw1] at HB2 HSEG2 HR3 ⊢
      have hgs : g2 < w1.heap.size := HR3.out.lt
      clear x0 y0 x1 y1 hmk hw1 HB HSEG HR2
      go_wp2_with fail
      go_loopw [7] (fun jv wr => ∃ j : Nat, j ≤ m ∧ jv = .int .i64 j ∧ Below w1.heap.size w1 wr) (fun jv _ => m - (intOf jv).toNat)
      case atStart => exact ⟨0, by omega, rfl, Below.refl _ _⟩
      case round =>
        obtain ⟨j, hj, rfl, hb3⟩ := hrel
        have HB3 := Lib.hid hb3
        clear hb3
        by_cases hjm : j < m
        · have hji : (j : Int) < (m : Int) := by omega
          have hju : j < u.length := by rw [← HM.out]; exact hjm
          have hbw1 : b < w1.heap.size := by have := HB2.out.size; omega
          have hgw1 : g < w1.heap.size := by have := HB2.out.size; omega
          have x0 := (HB3.out.cell (p := ⟨b, off + i * 2, none⟩) hbw1).trans X0
          have y0 := (HB3.out.cell (p := ⟨g, i * 2, none⟩) hgw1).trans Y0
          obtain ⟨b4, off4, rfl, hb4, z0⟩ := (HSEG2.out.below (HB3.out.mono HB2.out.size)).ints hju
          have z1 := (HR3.out.keep (HB3.out.block g2 hgs)).cell (k := j) (by simp [ints_len]; omega)
          rw [List.getElem?_append_left (by rw [ints_len]; exact hju)] at z1
          unfold ints at z1
          rw [List.getElem?_map, List.getElem?_eq_getElem hju, Option.map_some] at z1
          generalize u[j] = v at z0 z1
          clear X0 Y0
          go_wp2_with fail
          go_quiet (fail)
          go_wp2_with fail
          exact ⟨⟨j + 1, by omega, by go_num, below_drewN HB3.out _⟩, by simp [intOf]; omega⟩
        · obtain rfl : j = m := by omega
          clear X0 Y0
          go_wp2_with fail
          exact ⟨⟨i + 1, by omega, by go_num, HB2.out.trans (HB3.out.mono HB2.out.size)⟩, by simp [intOf]; omega⟩
    · obtain rfl : i = n := by omega
      go_wp2_with fail
      go_ret
      exact ⟨by rfl, HB.out⟩
end Go.Proofs.Ytghcemfffhjmjaa
