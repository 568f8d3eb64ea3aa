/- DomainsRuns: the document's Why. -/
import Derived.Test.YtghcemfffhjmjaaRLeave
set_option linter.unusedVariables false
namespace Go.Proofs.Ytghcemfffhjmjaa
open Go.RowKit
/-- Who was found among the first wants. -/
def Found (l : List Wt) (d v : Nat) (us : Int) : Prop :=
  (us = -1 ∧ ∀ x ∈ l, ¬ (x.d = d ∧ x.lv = v)) ∨ (∃ q : Nat, us = (q : Int) ∧ (∃ x ∈ l, x.d = d ∧ x.lv = v ∧ x.u = q) ∧ ∀ x ∈ l, x.d = d → x.lv = v → q ≤ x.u)
theorem found_none (d v : Nat) : Found [] d v (-1) := .inl ⟨rfl, fun x hx => by cases hx⟩
theorem Found.skip {l : List Wt} {d v : Nat} {us : Int} (h : Found l d v us) {y : Wt} (hy : ¬ (y.d = d ∧ y.lv = v)) : Found (l ++ [y]) d v us := by
  rcases h with ⟨h1, h2⟩ | ⟨q, h1, ⟨x, hx, h2⟩, h3⟩
  · refine .inl ⟨h1, fun x hx => ?_⟩
    rcases List.mem_append.1 hx with hx | hx
    · exact h2 x hx
    · rw [List.mem_singleton] at hx; subst hx; exact hy
  · refine .inr ⟨q, h1, ⟨x, List.mem_append_left _ hx, h2⟩, fun z hz e1 e2 => ?_⟩
    rcases List.mem_append.1 hz with hz | hz
    · exact h3 z hz e1 e2
    · rw [List.mem_singleton] at hz; subst hz; exact absurd ⟨e1, e2⟩ hy
theorem Found.old {l : List Wt} {d v q : Nat} (h : Found l d v (q : Int)) {y : Wt} (hy : ¬ y.u < q) : Found (l ++ [y]) d v (q : Int) := by
  rcases h with ⟨h1, h2⟩ | ⟨q', h1, ⟨x, hx, h2⟩, h3⟩
  · omega
  · obtain rfl : q = q' := by omega
    refine .inr ⟨q, rfl, ⟨x, List.mem_append_left _ hx, h2⟩, fun z hz e1 e2 => ?_⟩
    rcases List.mem_append.1 hz with hz | hz
    · exact h3 z hz e1 e2
    · rw [List.mem_singleton] at hz; subst hz; omega
theorem Found.new {l : List Wt} {d v : Nat} {us : Int} (h : Found l d v us) {y : Wt} (h1 : y.d = d) (h2 : y.lv = v) (hy : us = -1 ∨ (y.u : Int) < us) : Found (l ++ [y]) d v (y.u : Int) := by
  refine .inr ⟨y.u, rfl, ⟨y, List.mem_append_right _ (List.mem_singleton.2 rfl), h1, h2, rfl⟩, fun z hz e1 e2 => ?_⟩
  rcases List.mem_append.1 hz with hz | hz
  · rcases h with ⟨_, h4⟩ | ⟨q, h3, _, h4⟩
    · exact absurd ⟨e1, e2⟩ (h4 z hz)
    · have := h4 z hz e1 e2
      omega
  · rw [List.mem_singleton] at hz; subst hz; exact Nat.le_refl _
theorem found_here {n : Nat} {wl : List Wt} {W : Int → Int → Nat} {ds : List Dm} {d q : Nat} (hrep : Rep n wl W) (h0 : 0 < lev ds W d) (h : Found wl d (lev ds W d) (q : Int)) : WhyR ds W d q d := by
  rcases h with ⟨h1, _⟩ | ⟨q', h1, ⟨x, hx, e1, e2, e3⟩, h3⟩
  · omega
  · obtain rfl : q = q' := by omega
    have hl := look_of hrep.one x hx
    rw [← hrep.get, e1, e3, e2] at hl
    refine .here d q (by rw [← e3]; exact (hrep.ok x hx).1) hl fun u' hu' e => ?_
    rw [hrep.get] at e
    rcases look_mem wl u' d with h4 | ⟨z, hz, g1, g2, g3⟩
    · omega
    · have := h3 z hz (by omega) (by omega)
      omega
theorem found_no {n : Nat} {wl : List Wt} {W : Int → Int → Nat} {ds : List Dm} {d : Nat} (hrep : Rep n wl W) (h0 : 0 < lev ds W d) (h : Found wl d (lev ds W d) (-1)) : ∀ u : Nat, u < 1024 → W u d ≠ lev ds W d := fun u hu e => by
  rcases h with ⟨_, h2⟩ | ⟨q', h1, _⟩
  · rw [hrep.get] at e
    rcases look_mem wl u d with h4 | ⟨z, hz, g1, g2, g3⟩
    · omega
    · exact h2 z hz ⟨by omega, by omega⟩
  · omega
set_option maxRecDepth 100000 in
set_option maxHeartbeats 4000000 in
theorem rwhy_step {B rb n m : Nat} {Ad : Option Addr} {cd : Nat} {Aw : Option Addr} {cw : Nat} {lr : List Dmi} {wl : List Wt} {W : Int → Int → Nat} (hmay : mayD lr) (htop : ∀ x ∈ lr, x.t ≤ 255) (hrep : Rep n wl W) (hm : m ≤ 100000) (d : Nat) (hd : d < n)
    (ih : ∀ k, d < k → k < n → ∀ w : World, RMem w B rb n m Ad cd Aw cw lr wl → 0 < lev (dms lr) W k → Calls Try.prog 40 #[.pointer (some ⟨rb, 0, none⟩), .int .i64 (k : Int)] w fun e w' => ∃ u a : Nat, e = .returned (.tuple #[.int .i64 (u : Int), .int .i64 (a : Int), .int .i64 0]) ∧ WhyR (dms lr) W k u a ∧ Below w.heap.size w w')
    (w : World) (h : RMem w B rb n m Ad cd Aw cw lr wl) (h0 : 0 < lev (dms lr) W d) :
    Calls Try.prog 40 #[.pointer (some ⟨rb, 0, none⟩), .int .i64 (d : Int)] w fun e w' => ∃ u a : Nat, e = .returned (.tuple #[.int .i64 (u : Int), .int .i64 (a : Int), .int .i64 0]) ∧ WhyR (dms lr) W d u a ∧ Below w.heap.size w w' := by
  have hn256 : n ≤ 256 := by rw [h.len]; exact hmay.1
  have hok := mayD_okd hmay htop
  have hnb : RNb w B rb m (dms lr) W := ⟨n, m, Ad, cd, Aw, cw, lr, wl, h, hmay, htop, rfl, hrep, Nat.le_refl _⟩
  have hdl : (dms lr).length = n := by rw [dms_len]; exact h.len.symm
  have hlv := rlevel_nb hnb hm (d : Int)
  have hl2 := fun w2 (hb : Below w.heap.size w w2) => rlev_nb (hnb.below hb) hm
  unfold levelAt at hlv
  rw [if_pos ⟨by omega, by rw [hdl]; omega⟩, Int.toNat_natCast] at hlv
  rw [hdl] at hl2
  obtain ⟨f, hf2⟩ : ∃ f, f = lev (dms lr) W := ⟨_, rfl⟩
  obtain ⟨v, hv⟩ : ∃ v, v = f d := ⟨_, rfl⟩
  rw [← hf2] at hl2 hlv
  rw [← hv] at hlv
  have hv0 : 0 < v := by rw [hv, hf2]; exact h0
  have hrb := h.lt
  have HLV := Lib.hid hlv
  have HL2 := Lib.hid hl2
  have HH := Lib.hid h
  have HIH := Lib.hid ih
  have HMAY := Lib.hid hmay
  have HTOP := Lib.hid htop
  have HREP := Lib.hid hrep
  have HOK := Lib.hid hok
  have HF := Lib.hid hf2
  have HV := Lib.hid hv
  have HDL := Lib.hid hdl
  have H0 := Lib.hid h0
  clear ih hlv hl2 h hmay htop hrep hok hnb hf2 hv hdl h0
  have hdi : (d : Int) < (n : Int) := by omega
  have hvi : ¬ (v : Int) = 0 := by omega
  have hv1 : ¬ v = 0 := by omega
  go_enter Try.func40, Try.ntmps40
  go_wp2_with (first
    | (go_at_call 35; refine (HL2.out w2 HB2.out).mono ?_; rintro e w3 ⟨rfl, hr3, hb3⟩
       have hb3' := HB2.out.trans (hb3.mono HB2.out.size)
       have HR3 := Lib.hid hr3
       have HB3 := Lib.hid hb3'
       clear hr3 hb3 hb3')
    | (go_at_call 41; refine HLV.out.mono ?_; rintro e w2 ⟨rfl, hb2⟩; have HB2 := Lib.hid hb2; clear hb2)
    | fail)
  generalize w2.heap.size = g at *
  have hgl : g < w3.heap.size := HR3.out.lt
  have hws : w.heap.size ≤ w3.heap.size := HB3.out.size
  have hh3 := HH.out.below HB3.out
  have HH3 := Lib.hid hh3
  clear hh3 HL2 HLV
  go_loopw [8, 9] (fun sv iv wr => ∃ (i : Nat) (us : Int), i ≤ m ∧ iv = .int .i64 i ∧ sv = .int .i64 us ∧ Found (wl.take i) d v us ∧ Below w3.heap.size w3 wr) (fun _ iv _ => m - (intOf iv).toNat)
  case atStart => exact ⟨0, -1, by omega, rfl, rfl, found_none d v, Below.refl _ _⟩
  case round =>
    obtain ⟨i, us, hi, rfl, rfl, hfo, hb4⟩ := hrel
    have HFO := Lib.hid hfo
    have HB4 := Lib.hid hb4
    have hh4 := HH3.out.below hb4
    have k0 := hh4.c0
    have k1 := hh4.c1
    have hs4 : w3.heap.size ≤ wr.heap.size := hb4.size
    have HH4 := Lib.hid hh4
    clear hfo hb4 hh4
    by_cases him : i < m
    · have hii : (i : Int) < (m : Int) := by omega
      have hil : i < wl.length := by rw [← HH.out.lenw]; exact him
      obtain ⟨b, off, rfl, hbb, z0, z1, z2⟩ := HH4.out.seg.wt hil
      have c2 := ((HR3.out.keep (HB4.out.block _ hgl)).cell (k := d) (by rw [lvs_len]; exact hd)).trans (lvs_get _ hd)
      rw [← HV.out] at c2
      have htk : wl.take (i + 1) = wl.take i ++ [wl[i]] := List.take_succ_eq_append_getElem hil
      obtain ⟨y, hy⟩ : ∃ y, y = wl[i] := ⟨_, rfl⟩
      rw [← hy] at z0 z1 z2 htk
      have HTK := Lib.hid htk
      clear hy htk
      go_upto_region 9 with fail
      have hal : Below wr.heap.size wr (wr.alloc (.cells #[.int .i64 (y.u : Int), .int .i64 (y.d : Int), .int .u8 (y.lv : Int)] 84)) := (Below.refl _ _).alloc (Nat.le_refl _) _
      have hrow : RowAt (wr.alloc (.cells #[.int .i64 (y.u : Int), .int .i64 (y.d : Int), .int .u8 (y.lv : Int)] 84)) wr.heap.size 84 [.int .i64 (y.u : Int), .int .i64 (y.d : Int), .int .u8 (y.lv : Int)] := ⟨_, heap_alloc_new _ _, rfl⟩
      have hb5 := HB4.out.trans (hal.mono hs4)
      have c3 := hal.cell (p := ⟨g, d, none⟩) (by show g < wr.heap.size; omega) |>.trans c2
      clear hal z0 z1 z2 c2 k0 k1
      generalize wr.alloc (.cells #[.int .i64 (y.u : Int), .int .i64 (y.d : Int), .int .u8 (y.lv : Int)] 84) = w5 at *
      generalize wr.heap.size = gx at *
      have x0 := hrow.cell (k := 0) (by simp)
      have x1 := hrow.cell (k := 1) (by simp)
      have x2 := hrow.cell (k := 2) (by simp)
      simp only [List.getElem?_cons_succ, List.getElem?_cons_zero] at x0 x1 x2
      have HB5 := Lib.hid hb5
      clear hrow hb5 HB4
      by_cases hyd : y.d = d
      · by_cases hyl : y.lv = v
        · rw [hyd] at x1
          rw [hyl] at x2
          by_cases hus : us < 0
          · have hnew := HFO.out.new hyd hyl (.inl (by
              rcases HFO.out with ⟨h1, _⟩ | ⟨q, h1, _⟩ <;> omega))
            have HNEW := Lib.hid hnew
            have e1 : decide (us < 0) = true := decide_eq_true hus
            clear hnew hyd hyl HFO
            go_quiet (fail)
            go_wp2_with fail
            exact ⟨⟨i + 1, _, by omega, by go_num, rfl, by rw [HTK.out]; exact HNEW.out, below_drewN HB5.out _⟩, by simp [intOf]; omega⟩
          · obtain ⟨q, rfl⟩ : ∃ q : Nat, us = (q : Int) := ⟨us.toNat, by omega⟩
            have e1 : decide ((q : Int) < 0) = false := decide_eq_false hus
            by_cases huq : y.u < q
            · have e2 : decide (y.u < q) = true := decide_eq_true huq
              have e3 : decide ((y.u : Int) < (q : Int)) = true := decide_eq_true (by omega)
              have hnew := HFO.out.new hyd hyl (.inr (by omega))
              have HNEW := Lib.hid hnew
              clear hnew hyd hyl HFO
              go_quiet (fail)
              go_wp2_with fail
              exact ⟨⟨i + 1, _, by omega, by go_num, rfl, by rw [HTK.out]; exact HNEW.out, below_drewN HB5.out _⟩, by simp [intOf]; omega⟩
            · have e2 : decide (y.u < q) = false := decide_eq_false huq
              have e3 : decide ((y.u : Int) < (q : Int)) = false := decide_eq_false (by omega)
              have hold := HFO.out.old (y := y) huq
              have HOLD := Lib.hid hold
              clear hold hyd hyl HFO
              go_quiet (fail)
              go_wp2_with fail
              exact ⟨⟨i + 1, _, by omega, by go_num, rfl, by rw [HTK.out]; exact HOLD.out, below_drewN HB5.out _⟩, by simp [intOf]; omega⟩
        · rw [hyd] at x1
          have hsk := HFO.out.skip (y := y) (fun h => hyl h.2)
          have HSK := Lib.hid hsk
          have e1 : ((y.lv : Int) == (v : Int)) = false := by rw [beq_eq_false_iff_ne]; omega
          have e2 : decide (y.lv = v) = false := decide_eq_false hyl
          have e3 : decide ((y.lv : Int) = (v : Int)) = false := decide_eq_false (by omega)
          clear hsk hyd HFO
          go_quiet (fail)
          go_wp2_with fail
          exact ⟨⟨i + 1, _, by omega, by go_num, rfl, by rw [HTK.out]; exact HSK.out, below_drewN HB5.out _⟩, by simp [intOf]; omega⟩
      · have hsk := HFO.out.skip (y := y) (fun h => hyd h.1)
        have HSK := Lib.hid hsk
        have e1 : ((y.d : Int) == (d : Int)) = false := by rw [beq_eq_false_iff_ne]; omega
        have e2 : decide (y.d = d) = false := decide_eq_false hyd
        have e3 : decide ((y.d : Int) = (d : Int)) = false := decide_eq_false (by omega)
        clear hsk HFO
        go_quiet (fail)
        go_wp2_with fail
        exact ⟨⟨i + 1, _, by omega, by go_num, rfl, by rw [HTK.out]; exact HSK.out, below_drewN HB5.out _⟩, by simp [intOf]; omega⟩
    · obtain rfl : i = m := by omega
      have hfo := HFO.out
      rw [HH.out.lenw, List.take_length, HV.out, HF.out] at hfo
      by_cases hus : us < 0
      · obtain rfl : us = -1 := by rcases hfo with ⟨h1, _⟩ | ⟨q, h1, _⟩ <;> omega
        have hno := found_no HREP.out H0.out hfo
        have hex := why_exists HOK.out H0.out hno
        have HNO2 := Lib.hid hno
        have HEX := Lib.hid hex
        obtain ⟨w4, rfl⟩ : ∃ w', w' = wr := ⟨wr, rfl⟩
        clear hfo hno hex HFO hus
        go_wp2_with fail
        go_loopw [11] (fun iv wr => ∃ k : Nat, d < k ∧ k ≤ n ∧ iv = .int .i64 k ∧ (∀ j, d < j → j < k → ¬ (f j = v ∧ d ∈ und (dms lr) j)) ∧ Below w3.heap.size w3 wr) (fun iv _ => n - (intOf iv).toNat)
        case atStart => exact ⟨d + 1, by omega, by omega, by go_num, fun j h1 h2 => by omega, HB4.out⟩
        case round =>
          obtain ⟨k, hdk, hkn, rfl, hall, hb5⟩ := hrel
          have HALL := Lib.hid hall
          have HB5 := Lib.hid hb5
          clear hall hb5
          by_cases hkn2 : k < n
          · have hki : (k : Int) < (n : Int) := by omega
            have hkl : k < lr.length := by rw [← HH.out.len]; exact hkn2
            have hund := und_dms lr hkl
            obtain ⟨u, hu⟩ : ∃ u, u = lr[k].u := ⟨_, rfl⟩
            have hgood := HMAY.out.2 k hkl
            rw [← hu] at hund hgood
            obtain ⟨mu, hmu⟩ : ∃ mu, mu = u.length := ⟨_, rfl⟩
            have hmu8 : mu ≤ 8 := by rw [hmu]; exact hgood.1
            have HU := Lib.hid hu
            have HUND := Lib.hid hund
            have HGOOD := Lib.hid hgood
            have HMU := Lib.hid hmu
            clear hu hund hgood hmu
            go_wp2_with fail
            go_loopw [12] (fun iv wr => ∃ j : Nat, j ≤ mu ∧ iv = .int .i64 j ∧ (∀ (a : Nat) (ha : a < u.length), a < j → ¬ (f k = v ∧ u[a] = (d : Int))) ∧ Below w3.heap.size w3 wr) (fun iv _ => mu - (intOf iv).toNat)
            case atStart => exact ⟨0, by omega, rfl, fun a h1 h2 => by omega, HB5.out⟩
            case round =>
              obtain ⟨j, hj, rfl, hno, hb6⟩ := hrel
              clear HB5
              have HNO := Lib.hid hno
              have HB6 := Lib.hid hb6
              have hs6 : w3.heap.size ≤ wr.heap.size := hb6.size
              have hh6 := HH3.out.below hb6
              have k0 := hh6.c0
              obtain ⟨b, off, rfl, hbb, z0, _, hun⟩ := hh6.domi.at_ hkl
              obtain ⟨Au, hAu⟩ : ∃ u, u = lr[k].A := ⟨_, rfl⟩
              obtain ⟨cu, hcu⟩ : ∃ u, u = lr[k].c := ⟨_, rfl⟩
              rw [← HU.out, ← HMU.out, ← hAu, ← hcu] at z0
              rw [← HU.out, ← hAu] at hun
              have HUN := Lib.hid hun
              have HH6 := Lib.hid hh6
              clear hno hb6 hh6 hun hAu hcu
              by_cases hjm : j < mu
              · have hji : (j : Int) < (mu : Int) := by omega
                have hju : j < u.length := by rw [← HMU.out]; exact hjm
                obtain ⟨b4, off4, rfl, hbb4, y0⟩ := HUN.out.ints hju
                obtain ⟨g1, g2, _⟩ := HGOOD.out.2 j hju
                have hrr := HR3.out.keep (HB6.out.block _ hgl)
                have c2 := (hrr.cell (k := d) (by rw [lvs_len]; exact hd)).trans (lvs_get _ hd)
                have c3 := (hrr.cell (k := k) (by rw [lvs_len]; exact hkn2)).trans (lvs_get _ hkn2)
                rw [← HV.out] at c2
                obtain ⟨q, hq⟩ : ∃ q : Int, q = u[j] := ⟨_, rfl⟩
                rw [← hq] at y0
                have HQ := Lib.hid hq
                obtain ⟨fk, hfk⟩ : ∃ x, x = f k := ⟨_, rfl⟩
                rw [← hfk] at c3
                have HFK := Lib.hid hfk
                clear hrr hq hfk g1 g2
                by_cases hqd : q = (d : Int)
                · by_cases hfv : fk = v
                  · have hin : d ∈ und (dms lr) k := by
                      rw [HUND.out]
                      exact List.mem_map.2 ⟨u[j], List.getElem_mem hju, by rw [← HQ.out, hqd]; exact Int.toNat_natCast d⟩
                    have hfkv : lev (dms lr) W k = lev (dms lr) W d := by rw [← HF.out, ← HFK.out, hfv, HV.out]
                    have hrec := fun w7 (hb : Below w3.heap.size w3 w7) => HIH.out k hdk hkn2 w7 (HH3.out.below hb) (by rw [hfkv]; exact H0.out)
                    have hup : ∀ u' a', WhyR (dms lr) W k u' a' → WhyR (dms lr) W d u' a' := fun u' a' h => .up d k u' a' HNO2.out hdk (by rw [HDL.out]; exact hkn2) hfkv hin (fun e h1 h2 h3 => HALL.out e h1 h2 ⟨by rw [HF.out, h3.1, HV.out, HF.out], h3.2⟩) h
                    have HREC := Lib.hid hrec
                    have HUP := Lib.hid hup
                    rw [hqd] at y0
                    rw [hfv] at c3
                    clear hin hfkv hrec hup hqd hfv
                    go_wp2_with fail
                    go_quiet (fail)
                    go_wp2_with (first
                      | (go_at_call 40; refine (HREC.out _ (below_drewN HB6.out _)).mono ?_; rintro e w7 ⟨u7, a7, rfl, hwr, hb7⟩
                         have HWR := Lib.hid hwr
                         have HB7 := Lib.hid hb7
                         clear hwr hb7)
                      | fail)
                    go_ret3
                    exact ⟨u7, a7, by rfl, HUP.out _ _ HWR.out, HB3.out.trans (((below_drewN HB6.out nq).trans (HB7.out.mono hs6)).mono HB3.out.size)⟩
                  · have hno2 : ∀ (a : Nat) (ha : a < u.length), a < j + 1 → ¬ (f k = v ∧ u[a] = (d : Int)) := fun a ha h1 h2 => hfv (by rw [HFK.out]; exact h2.1)
                    have HNO3 := Lib.hid hno2
                    have e1 : ((fk : Int) == (v : Int)) = false := by rw [beq_eq_false_iff_ne]; omega
                    have e2 : decide (fk = v) = false := decide_eq_false hfv
                    have e3 : decide ((fk : Int) = (v : Int)) = false := decide_eq_false (by omega)
                    rw [hqd] at y0
                    clear hno2 hqd
                    go_wp2_with fail
                    go_quiet (fail)
                    go_wp2_with fail
                    exact ⟨⟨j + 1, by omega, by go_num, HNO3.out, below_drewN HB6.out _⟩, by simp [intOf]; omega⟩
                · have hno2 : ∀ (a : Nat) (ha : a < u.length), a < j + 1 → ¬ (f k = v ∧ u[a] = (d : Int)) := fun a ha h1 h2 => by
                    rcases (show a < j ∨ a = j by omega) with h3 | rfl
                    · exact HNO.out a ha h3 h2
                    · exact hqd (by rw [HQ.out]; exact h2.2)
                  have HNO3 := Lib.hid hno2
                  have e1 : (q == (d : Int)) = false := by rw [beq_eq_false_iff_ne]; exact hqd
                  have e3 : decide (q = (d : Int)) = false := decide_eq_false hqd
                  clear hno2
                  go_wp2_with fail
                  go_quiet (fail)
                  go_wp2_with fail
                  exact ⟨⟨j + 1, by omega, by go_num, HNO3.out, below_drewN HB6.out _⟩, by simp [intOf]; omega⟩
              · obtain rfl : j = mu := by omega
                go_wp2_with fail
                refine ⟨⟨k + 1, by omega, by omega, by go_num, fun e h1 h2 h3 => ?_, HB6.out⟩, by simp [intOf]; omega⟩
                rcases (show e < k ∨ e = k by omega) with h4 | rfl
                · exact HALL.out e h1 h4 h3
                · obtain ⟨h5, h6⟩ := h3
                  rw [HUND.out] at h6
                  obtain ⟨x, hx, h7⟩ := List.mem_map.1 h6
                  obtain ⟨a, ha, rfl⟩ := List.getElem_of_mem hx
                  obtain ⟨g1, _, _⟩ := HGOOD.out.2 a ha
                  exact HNO.out a ha (by rw [HMU.out]; exact ha) ⟨h5, by omega⟩
          · obtain rfl : k = n := by omega
            exfalso
            obtain ⟨d', h1, h2, h3, h4⟩ := HEX.out
            exact HALL.out d' h1 (by rw [HDL.out] at h2; exact h2) ⟨by rw [HF.out, h3, HV.out, HF.out], h4⟩
      · obtain ⟨q, rfl⟩ : ∃ q : Nat, us = (q : Int) := ⟨us.toNat, by omega⟩
        have hwh := found_here HREP.out H0.out hfo
        have HWH := Lib.hid hwh
        clear hfo hwh HFO
        have hq0 : (0 : Int) ≤ (q : Int) := by omega
        go_wp2_with fail
        go_ret3
        exact ⟨q, d, by rfl, HWH.out, HB3.out.trans (HB4.out.mono HB3.out.size)⟩
theorem rwhy_any {B rb n m : Nat} {Ad : Option Addr} {cd : Nat} {Aw : Option Addr} {cw : Nat} {lr : List Dmi} {wl : List Wt} {W : Int → Int → Nat} (hmay : mayD lr) (htop : ∀ x ∈ lr, x.t ≤ 255) (hrep : Rep n wl W) (hm : m ≤ 100000) :
    ∀ (fuel d : Nat), d < n → n - d ≤ fuel → ∀ w : World, RMem w B rb n m Ad cd Aw cw lr wl → 0 < lev (dms lr) W d →
    Calls Try.prog 40 #[.pointer (some ⟨rb, 0, none⟩), .int .i64 (d : Int)] w fun e w' => ∃ u a : Nat, e = .returned (.tuple #[.int .i64 (u : Int), .int .i64 (a : Int), .int .i64 0]) ∧ WhyR (dms lr) W d u a ∧ Below w.heap.size w w'
  | 0, d, hd, hf => by omega
  | fuel + 1, d, hd, hf => fun w h h0 => rwhy_step hmay htop hrep hm d hd (fun k hdk hkn w2 h2 h3 => rwhy_any hmay htop hrep hm fuel k hkn (by omega) w2 h2 h3) w h h0
theorem rwhy_nb {w : World} {B rb N : Nat} {ds : List Dm} {W : Int → Int → Nat} (h : RNb w B rb N ds W) (hN : N ≤ 100000) {d : Nat} (hd : d < ds.length) (h0 : 0 < lev ds W d) :
    Calls Try.prog 40 #[.pointer (some ⟨rb, 0, none⟩), .int .i64 (d : Int)] w fun e w' => ∃ u a : Nat, e = .returned (.tuple #[.int .i64 (u : Int), .int .i64 (a : Int), .int .i64 0]) ∧ WhyR ds W d u a ∧ Below w.heap.size w w' := by
  obtain ⟨n, m, Ad, cd, Aw, cw, lr, wl, h1, h2, h3, h4, h5, h6⟩ := h
  have hn := h1.n_eq h4
  subst h4
  exact rwhy_any h2 h3 h5 (by omega) _ d (by omega) (Nat.le_refl _) w h1 h0
theorem rwhy_zero {w : World} {B rb N : Nat} {ds : List Dm} {W : Int → Int → Nat} (h : RNb w B rb N ds W) (hN : N ≤ 100000) {d : Int} (h0 : levelAt ds W d = 0) :
    Calls Try.prog 40 #[.pointer (some ⟨rb, 0, none⟩), .int .i64 d] w fun e w' => e = .returned (.tuple #[.int .i64 0, .int .i64 0, .int .i64 1]) ∧ Below w.heap.size w w' := by
  have hl := rlevel_nb h hN d
  rw [h0] at hl
  have HL := Lib.hid hl
  clear hl h h0
  go_enter Try.func40, Try.ntmps40
  go_wp2_with (first
    | (go_at_call 41; refine HL.out.mono ?_; rintro e w1 ⟨rfl, hb⟩; have HB := Lib.hid hb; clear hb)
    | fail)
  go_ret3
  exact ⟨by rfl, HB.out⟩
end Go.Proofs.Ytghcemfffhjmjaa
