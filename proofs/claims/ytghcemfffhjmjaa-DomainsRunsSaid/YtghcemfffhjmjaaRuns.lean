/- DomainsRuns: the walk. -/
import Derived.Test.YtghcemfffhjmjaaPlayed
import Derived.Test.YtghcemfffhjmjaaRefNew
import Derived.Test.YtghcemfffhjmjaaKept
set_option linter.unusedVariables false
namespace Go.Proofs.Ytghcemfffhjmjaa
open Go.RowKit
/-- The domains that were handed out, while they are written over. -/
structure Zer (W w1 : World) (B B1 g : Nat) (lo : List Dmi) : Prop where
  row : ∃ ys, RowAt W g 57 ys ∧ ∀ i (h : i < lo.length), ys[i * 2]? = some (.slice lo[i].A lo[i].u.length lo[i].c) ∧ i * 2 + 1 < ys.length
  under : ∀ x ∈ lo, ∃ g2 zs, x.A = some ⟨g2, 0, none⟩ ∧ B ≤ g2 ∧ g2 < B1 ∧ RowAt W g2 3 zs ∧ zs.length = x.u.length + 1
  frame : Frame (fun j => B ≤ j ∧ j < B1) w1 W
  gB : B ≤ g ∧ g < B1
theorem Zer.top {W w1 : World} {B B1 g : Nat} {lo : List Dmi} (h : Zer W w1 B B1 g lo) (i : Nat) (v : Value) : Zer (W.setCell ⟨g, i * 2 + 1, none⟩ v) w1 B B1 g lo := by
  obtain ⟨ys, h1, h2⟩ := h.row
  refine ⟨⟨ys.set (i * 2 + 1) v, h1.store _ v, fun j hj => ⟨?_, ?_⟩⟩, fun x hx => ?_, h.frame.setCell (p := ⟨g, i * 2 + 1, none⟩) (fun _ => h.gB) v, h.gB⟩
  · rw [List.getElem?_set_ne (by omega)]; exact (h2 j hj).1
  · rw [List.length_set]; exact (h2 j hj).2
  · obtain ⟨g2, zs, e1, e2, e3, e4, e5⟩ := h.under x hx
    exact ⟨g2, zs, e1, e2, e3, e4.keep (Below.heap_setCell _ _ _ _ (e4.ne_type h1 (by decide))), e5⟩
theorem Zer.put {W w1 : World} {B B1 g : Nat} {lo : List Dmi} (h : Zer W w1 B B1 g lo) {g2 : Nat} {zs : List Value} (hb : B ≤ g2 ∧ g2 < B1) (hr : RowAt W g2 3 zs) (k : Nat) (v : Value) : Zer (W.setCell ⟨g2, k, none⟩ v) w1 B B1 g lo := by
  obtain ⟨ys, h1, h2⟩ := h.row
  refine ⟨⟨ys, h1.keep (Below.heap_setCell _ _ _ _ (h1.ne_type hr (by decide))), h2⟩, fun x hx => ?_, h.frame.setCell (p := ⟨g2, k, none⟩) (fun _ => hb) v, h.gB⟩
  obtain ⟨g3, zs3, e1, e2, e3, e4, e5⟩ := h.under x hx
  by_cases e : g3 = g2
  · subst e
    exact ⟨g3, zs3.set k v, e1, e2, e3, e4.store k v, by rw [List.length_set]; exact e5⟩
  · exact ⟨g3, zs3, e1, e2, e3, e4.keep (Below.heap_setCell _ _ _ _ e), e5⟩
theorem Zer.drewN {W w1 : World} {B B1 g : Nat} {lo : List Dmi} (h : Zer W w1 B B1 g lo) (n : Nat) : Zer (W.drewN n) w1 B B1 g lo :=
  ⟨h.row, h.under, h.frame.drewN n, h.gB⟩
theorem OutAt.below {W W' : World} {B n c : Nat} {A : Option Addr} {lo l : List Dmi} (h : OutAt W B n A c lo l) (hb : Below W.heap.size W W') : OutAt W' B n A c lo l :=
  ⟨own_keep h.own fun g hg => hb.block g (h.own.lt g hg).2, h.same, fun x hx => (h.under x hx).below hb, h.cap⟩
theorem OutAt.zer {w1 W : World} {B n c : Nat} {A : Option Addr} {lo l : List Dmi} (h : OutAt w1 B n A c lo l) (hlo : n = lo.length) (hb : Below w1.heap.size w1 W) : ∃ g, A = some ⟨g, 0, none⟩ ∧ Zer W W B w1.heap.size g lo := by
  obtain ⟨g, rfl, hg1, hg2, hrow⟩ := RowAt.of_own h.own (by omega)
  refine ⟨g, rfl, ⟨_, hrow.keep (hb.block _ hg2), fun i hi => ?_⟩, fun x hx => ?_, Frame.refl _ _, hg1, hg2⟩
  · have hl : (dmiCells lo).length = lo.length * 2 := flat_length Dmi.cells 2 dmi_len lo
    refine ⟨?_, by rw [List.length_append]; omega⟩
    rw [List.getElem?_append_left (by omega)]
    exact flat_get Dmi.cells 2 dmi_len lo i 0 hi (by omega)
  · obtain ⟨g2, e1, e2, e3⟩ := h.under x hx (by simp)
    exact ⟨g2, _, e1, e2, e3.lt, e3.keep (hb.block _ e3.lt), by simp [ints_len]⟩
set_option maxRecDepth 100000 in
set_option maxHeartbeats 4000000 in
theorem runs_any (Al : Option Addr) (capl : Nat) (l : List Dmi) (n : Nat) (hn : n = l.length) (As : Option Addr) (caps : Nat) (S : List Stp) (m : Nat) (hm : m = S.length) (w : World)
    (hd : Domi w w.heap.size Al l) (hs : Seg w w.heap.size As (stCells S)) (hwf : ∀ y ∈ S, y.wf) (hl : n ≤ 4398046510976) (hlu : ∀ y ∈ l, y.u.length ≤ 17592186043904) (hlt : ∀ y ∈ l, y.t ≤ 255) :
    Calls Try.prog 6 #[.slice Al n capl, .slice As m caps] w fun e w' => e = .returned (.bool true) ∧ Below w.heap.size w w' := by
  have hmk : Calls Try.prog 10 #[.slice Al n capl] w fun e w1 => ∃ A1 c1 lo, e = .returned (.slice A1 n c1) ∧ Below w.heap.size w w1 ∧ OutAt w1 w.heap.size n A1 c1 lo l := out_any Al capl l n hn hl hlu w hd
  have hrn := fun w2 (hb : Below w.heap.size w w2) => rnew_any Al capl l n hn hlt w2 ((hd.below hb).more hb.size)
  have hnw := fun A1 c1 lo w1 (ho : OutAt w1 w.heap.size n A1 c1 lo l) => new_net A1 c1 lo n (by rw [core_len ho.same]; exact hn) (core_all (p := fun _ t => t ≤ 255) ho.same hlt) w1 ho.domi
  have hkp := fun A1 c1 lo w3 (ho : OutAt w3 w.heap.size n A1 c1 lo l) (hb : Below w.heap.size w w3) => kept_any A1 Al c1 capl lo l n hn hl hlu w3 w.heap.size ((hd.below hb).more hb.size) ho
  have HMK := Lib.hid hmk
  have HRN := Lib.hid hrn
  have HNW := Lib.hid hnw
  have HKP := Lib.hid hkp
  have HN := Lib.hid hn
  have HM := Lib.hid hm
  have HD := Lib.hid hd
  have HS := Lib.hid hs
  have HWF := Lib.hid hwf
  have HLU := Lib.hid hlu
  clear hmk hrn hnw hkp hn hm hd hs hwf hlu hlt
  by_cases hmay : mayD l
  · have hrn2 := fun w2 (hb : Below w.heap.size w w2) => (HRN.out w2 hb).mono (fun e w3 h => (show Below w2.heap.size w2 w3 ∧ ∃ rb, e = .returned (.tuple #[.pointer (some ⟨rb, 0, none⟩), .int .i64 0]) ∧ RNb w3 w2.heap.size rb 0 (dms l) (fun _ _ => 0) from ⟨h.1, h.2.elim (fun x => absurd hmay x.1) (fun x => x.2)⟩))
    have hnw2 := fun A1 c1 lo w1 (ho : OutAt w1 w.heap.size n A1 c1 lo l) => (HNW.out A1 c1 lo w1 ho).mono (fun e w2 h => (show Below w1.heap.size w1 w2 ∧ e = .returned (.tuple #[.pointer (some ⟨w1.heap.size + 1, 0, none⟩), .int .i64 0]) ∧ Nb w2 (w1.heap.size + 1) w1.heap.size w2.heap.size 0 (dms l) (fun _ _ => 0) from ⟨h.1, h.2.elim (fun x => absurd (core_may ho.same hmay) x.1) (fun x => ⟨x.2.1, by rw [← dms_same ho.same]; exact x.2.2.toNb⟩)⟩))
    have HRN2 := Lib.hid hrn2
    have HNW2 := Lib.hid hnw2
    clear hrn2 hnw2 HRN HNW hmay
    go_enter Try.func6, Try.ntmps6
    go_wp2_with (first
      | (go_at_call 20; refine (HKP.out A1 c1 lo w3 HO3.out HB3.out).mono ?_; rintro e w4 ⟨rfl, hb4⟩
         have HB4 := Lib.hid hb4
         clear hb4)
      | (go_at_call 19; refine (HRN2.out w2 HB2.out).mono ?_; rintro e w3 ⟨hb3, rb, rfl, hrnb⟩
         have ho3 := HO2.out.below hb3
         have hb3' := HB2.out.trans (hb3.mono HB2.out.size)
         have HO3 := Lib.hid ho3
         have HB3 := Lib.hid hb3'
         have HB23 := Lib.hid hb3
         have HRNB := Lib.hid hrnb
         clear ho3 hb3 hb3' hrnb)
      | (go_at_call 9; refine (HNW2.out A1 c1 lo w1 HO1.out).mono ?_; rintro e w2 ⟨hb2, rfl, hnb2⟩
         have ho2 := HO1.out.below hb2
         have hb2' := HB1.out.trans (hb2.mono HB1.out.size)
         have HO2 := Lib.hid ho2
         have HB2 := Lib.hid hb2'
         have HB12 := Lib.hid hb2
         have HNB2 := Lib.hid hnb2
         clear ho2 hb2 hb2' hnb2)
      | (go_at_call 10; refine HMK.out.mono ?_; rintro e w1 ⟨A1, c1, lo, rfl, hb1, ho1⟩
         have HB1 := Lib.hid hb1
         have HO1 := Lib.hid ho1
         clear hb1 ho1)
      | fail)
    have s1 := HB1.out.size
    have s2 := HB12.out.size
    have s3 := HB23.out.size
    have s4 := HB4.out.size
    have hb14 : Below w1.heap.size w1 w4 := HB12.out.trans ((HB23.out.trans (HB4.out.mono s3)).mono s2)
    have hb04 : Below w.heap.size w w4 := HB3.out.trans (HB4.out.mono HB3.out.size)
    have hlo : n = lo.length := by rw [core_len HO1.out.same]; exact HN.out
    obtain ⟨g, rfl, hz⟩ := HO1.out.zer hlo hb14
    have hnb4 := (HNB2.out.below HB23.out).below HB4.out
    have hrn4 := HRNB.out.below HB4.out
    have HZ := Lib.hid hz
    have HNB4 := Lib.hid hnb4
    have HRN4 := Lib.hid hrn4
    have HB04 := Lib.hid hb04
    have HLO := Lib.hid hlo
    have HLUO := Lib.hid (core_all (p := fun u _ => u.length ≤ 17592186043904) HO1.out.same HLU.out)
    clear hb14 hb04 hlo hz hnb4 hrn4 HMK HRN2 HNW2 HKP HO1 HO2 HO3 HB1 HB2 HB3 HB12 HB23 HB4 HNB2 HRNB
    go_loopw [10] (fun iv wr => ∃ i : Nat, i ≤ n ∧ iv = .int .i64 i ∧ Zer wr w4 w.heap.size w1.heap.size g lo) (fun iv _ => n - (intOf iv).toNat)
    case atStart => exact ⟨0, by omega, rfl, HZ.out⟩
    case round =>
      obtain ⟨i, hi, rfl, hz⟩ := hrel
      clear HZ
      have HZ := Lib.hid hz
      clear hz
      by_cases hin : i < n
      · have hii : (i : Int) < (n : Int) := by omega
        have hil : i < lo.length := by rw [← HLO.out]; exact hin
        obtain ⟨mi, hmi⟩ : ∃ mi, mi = lo[i].u.length := ⟨_, rfl⟩
        obtain ⟨Ai, hAi⟩ : ∃ Ai, Ai = lo[i].A := ⟨_, rfl⟩
        obtain ⟨ci, hci⟩ : ∃ ci, ci = lo[i].c := ⟨_, rfl⟩
        have hzr : ∀ W, Zer W w4 w.heap.size w1.heap.size g lo → W.cell? ⟨g, i * 2, none⟩ = some (.slice Ai mi ci) ∧ (∃ v, W.cell? ⟨g, i * 2 + 1, none⟩ = some v) ∧ W.frozen? ⟨g, i * 2 + 1, none⟩ = false ∧
            ∃ g2 zs, Ai = some ⟨g2, 0, none⟩ ∧ (w.heap.size ≤ g2 ∧ g2 < w1.heap.size) ∧ RowAt W g2 3 zs ∧ zs.length = mi + 1 := fun W hz => by
          obtain ⟨ys, h1, h2⟩ := hz.row
          obtain ⟨e1, e2⟩ := h2 i hil
          obtain ⟨g2, zs, f1, f2, f3, f4, f5⟩ := hz.under _ (List.getElem_mem hil)
          rw [hmi, hAi, hci]
          refine ⟨(h1.cell (by omega)).trans e1, ⟨ys[i * 2 + 1], (h1.cell e2).trans (List.getElem?_eq_getElem e2)⟩, h1.frozen _, g2, zs, f1, ⟨f2, f3⟩, f4, f5⟩
        have HZR := Lib.hid hzr
        have hmb := HLUO.out _ (List.getElem_mem hil)
        rw [← hmi] at hmb
        clear hmi hAi hci hzr
        go_wp2_with fail
        go_loopw [11] (fun jv wr => ∃ j : Nat, j ≤ mi ∧ jv = .int .i64 j ∧ Zer wr w4 w.heap.size w1.heap.size g lo) (fun jv _ => mi - (intOf jv).toNat)
        case atStart => exact ⟨0, by omega, rfl, HZ.out⟩
        case round =>
          obtain ⟨j, hj, rfl, hz⟩ := hrel
          clear HZ
          have HZ := Lib.hid hz
          clear hz
          obtain ⟨c0, ⟨v1, c1⟩, f1, g2, zs, rfl, hg2, hr2, hzl⟩ := HZR.out wr HZ.out
          by_cases hjm : j < mi
          · have hji : (j : Int) < (mi : Int) := by omega
            have hjl : j < zs.length := by omega
            have d1 := hr2.cell hjl
            rw [List.getElem?_eq_getElem hjl] at d1
            generalize zs[j] = v2 at d1
            have f2 := hr2.frozen j
            have HR2 := Lib.hid hr2
            clear hr2 hzl hjl
            go_wp2_with fail
            exact ⟨⟨j + 1, by omega, by go_num, HZ.out.put hg2 HR2.out j _⟩, by simp [intOf]; omega⟩
          · obtain rfl : j = mi := by omega
            clear hr2 hzl
            go_wp2_with fail
            exact ⟨⟨i + 1, by omega, by go_num, HZ.out.top i _⟩, by simp [intOf]; omega⟩
      · obtain rfl : i = n := by omega
        have hl4 := HNB4.out.lt
        have hf := HZ.out.frame
        have hbw : Below w.heap.size w wr := HB04.out.trans (hf.toBelow HB04.out.size (fun k hk hs => by omega))
        have hbo : Both wr wr (w1.heap.size + 1) w1.heap.size w2.heap.size w2.heap.size rb 0 (dms l) (fun _ _ => 0) :=
          ⟨HNB4.out.other hf (fun j hj => by omega), HRN4.out.other hf (fun j hj => by omega), Below.refl _ _, Nat.le_refl _⟩
        have hpl := played_any hbo As caps m S HM.out ((HS.out.below hbw).more s1) HWF.out
        have HPL := Lib.hid hpl
        have HBW := Lib.hid hbw
        clear hf hbw hbo hpl
        go_wp2_with (go_at_call 21; refine HPL.out.mono ?_; rintro e w6 ⟨rfl, hb6⟩; have HB6 := Lib.hid hb6; clear hb6)
        go_ret
        exact ⟨by rfl, HBW.out.trans (HB6.out.mono s1)⟩
  · have hrn2 := fun w2 (hb : Below w.heap.size w w2) => (HRN.out w2 hb).mono (fun e w3 h => (show Below w2.heap.size w2 w3 ∧ e = .returned (.tuple #[.pointer none, .int .i64 200]) from ⟨h.1, h.2.elim (fun x => x.2) (fun x => absurd x.1 hmay)⟩))
    have hnw2 := fun A1 c1 lo w1 (ho : OutAt w1 w.heap.size n A1 c1 lo l) => (HNW.out A1 c1 lo w1 ho).mono (fun e w2 h => (show Below w1.heap.size w1 w2 ∧ e = .returned (.tuple #[.pointer none, .int .i64 200]) from ⟨h.1, h.2.elim (fun x => x.2) (fun x => absurd (core_may ho.same.symm x.1) hmay)⟩))
    have HRN2 := Lib.hid hrn2
    have HNW2 := Lib.hid hnw2
    clear hrn2 hnw2 HRN HNW hmay
    go_enter Try.func6, Try.ntmps6
    go_wp2_with (first
      | (go_at_call 20; refine (HKP.out A1 c1 lo w3 HO3.out HB3.out).mono ?_; rintro e w4 ⟨rfl, hb4⟩
         have HB4 := Lib.hid hb4
         clear hb4)
      | (go_at_call 19; refine (HRN2.out w2 HB2.out).mono ?_; rintro e w3 ⟨hb3, rfl⟩
         have ho3 := HO2.out.below hb3
         have hb3' := HB2.out.trans (hb3.mono HB2.out.size)
         have HO3 := Lib.hid ho3
         have HB3 := Lib.hid hb3'
         clear ho3 hb3 hb3')
      | (go_at_call 9; refine (HNW2.out A1 c1 lo w1 HO1.out).mono ?_; rintro e w2 ⟨hb2, rfl⟩
         have ho2 := HO1.out.below hb2
         have hb2' := HB1.out.trans (hb2.mono HB1.out.size)
         have HO2 := Lib.hid ho2
         have HB2 := Lib.hid hb2'
         clear ho2 hb2 hb2')
      | (go_at_call 10; refine HMK.out.mono ?_; rintro e w1 ⟨A1, c1, lo, rfl, hb1, ho1⟩
         have HB1 := Lib.hid hb1
         have HO1 := Lib.hid ho1
         clear hb1 ho1)
      | fail)
    go_ret
    exact ⟨by rfl, HB3.out.trans (HB4.out.mono HB3.out.size)⟩
end Go.Proofs.Ytghcemfffhjmjaa
