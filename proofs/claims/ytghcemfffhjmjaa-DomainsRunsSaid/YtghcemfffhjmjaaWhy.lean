/- Why: the plain law and the contract. -/
import Derived.Test.YtghcemfffhjmjaaPair
import Derived.OwnWalk
set_option linter.unusedVariables false
namespace Go.Proofs.Ytghcemfffhjmjaa
open Go.RowKit
/-- Who is named for a domain. -/
inductive WhyR (ds : List Dm) (W : Int → Int → Nat) : Nat → Nat → Nat → Prop
  | here (d u : Nat) (hu : u < 1024) (hw : W u d = lev ds W d) (hno : ∀ u' : Nat, u' < u → W u' d ≠ lev ds W d) : WhyR ds W d u d
  | up (d d' u a : Nat) (hno : ∀ u : Nat, u < 1024 → W u d ≠ lev ds W d) (h1 : d < d') (h2 : d' < ds.length) (h3 : lev ds W d' = lev ds W d) (h4 : d ∈ und ds d') (h5 : ∀ k, d < k → k < d' → ¬ (lev ds W k = lev ds W d ∧ d ∈ und ds k)) (h : WhyR ds W d' u a) : WhyR ds W d u a
theorem supN_att (g : Nat → Nat) : ∀ k, supN g k = 0 ∨ ∃ u, u < k ∧ g u = supN g k
  | 0 => .inl rfl
  | k + 1 => by
    unfold supN
    rcases supN_att g k with h | ⟨u, h1, h2⟩
    · by_cases h0 : g k = 0
      · exact .inl (by rw [h, h0]; rfl)
      · exact .inr ⟨k, by omega, by rw [h]; omega⟩
    · by_cases hm : supN g k ≤ g k
      · exact .inr ⟨k, by omega, by omega⟩
      · exact .inr ⟨u, by omega, by rw [h2]; omega⟩
theorem why_exists {ds : List Dm} (hok : Okd ds) {W : Int → Int → Nat} {d : Nat} (h0 : 0 < lev ds W d) (hno : ∀ u : Nat, u < 1024 → W u d ≠ lev ds W d) : ∃ d', d < d' ∧ d' < ds.length ∧ lev ds W d' = lev ds W d ∧ d ∈ und ds d' := by
  have hbs : bs W d < lev ds W d := by
    refine Nat.lt_of_le_of_ne (settle_le ds (bs W) d) fun e => ?_
    rcases supN_att (fun u => if (true : Bool) = true then W u d else 0) 1024 with h | ⟨u, h1, h2⟩
    · have : bs W d = 0 := h
      omega
    · have h3 : (if (true : Bool) = true then W u d else 0) = bs W d := h2
      rw [if_pos rfl, e] at h3
      exact hno u h1 h3
  refine Classical.byContradiction fun hex => ?_
  have hcl := settle_closed hok (bs W)
  have hg : Closed ds fun i => if i = d then lev ds W d - 1 else lev ds W i := fun e u hu => by
    have h1 := hcl e u hu
    have h2 := und_lt hok hu
    show (if e = d then lev ds W d - 1 else lev ds W e) ≤ (if u = d then lev ds W d - 1 else lev ds W u)
    by_cases e1 : u = d
    · subst e1
      rw [if_neg (by omega), if_pos rfl]
      have hlt : e < ds.length := by
        rcases Nat.lt_or_ge e ds.length with h | h
        · exact h
        · unfold und at hu; rw [List.getElem?_eq_none h] at hu; cases hu
      have : lev ds W e ≠ lev ds W u := fun h => hex ⟨e, h2, hlt, h, hu⟩
      have h3 : lev ds W e ≤ lev ds W u := h1
      omega
    · rw [if_neg e1]
      split
      · rename_i e2
        subst e2
        have h3 : lev ds W e ≤ lev ds W u := h1
        omega
      · exact h1
  have := settle_min (f := bs W) hg (fun i => by
    show bs W i ≤ (if i = d then lev ds W d - 1 else lev ds W i)
    split
    · rename_i e; subst e; omega
    · exact settle_le ds (bs W) i) d
  have h4 : lev ds W d ≤ (if d = d then lev ds W d - 1 else lev ds W d) := this
  rw [if_pos rfl] at h4
  omega
theorem why_fst {ds : List Dm} {W : Int → Int → Nat} {d u a : Nat} (h : WhyR ds W d u a) : u < 1024 ∧ W u a = lev ds W d := by
  induction h with
  | here d u hu hw hno => exact ⟨hu, hw⟩
  | up d d' u a hno h1 h2 h3 h4 h5 h ih => exact ⟨ih.1, by rw [ih.2, h3]⟩
theorem mem_cast (us : List Nat) (d : Nat) : (d : Int) ∈ (us.map fun (x : Nat) => (x : Int)) ↔ d ∈ us := by
  rw [List.mem_map]
  exact ⟨fun ⟨a, h, e⟩ => by obtain rfl : a = d := by omega
                             exact h, fun h => ⟨d, h, rfl⟩⟩
set_option maxRecDepth 100000 in
set_option maxHeartbeats 4000000 in
theorem why_any {nb mb N n : Nat} {Ad : Option Addr} {cd : Nat} {l : List Dmm} {W : Int → Int → Nat} (hok : Okd (dsOf l)) (hW : Fitw n W) (hcap : ∀ x ∈ l, x.d.u.length ≤ 8) : ∀ (fuel d : Nat), d < n → n - d ≤ fuel → ∀ w : World, NetAt w nb mb N n Ad cd l W (lev (dsOf l) W) → 0 < lev (dsOf l) W d →
    Calls Try.prog 18 #[.pointer (some ⟨nb, 0, none⟩), .int .i64 (d : Int)] w fun e w' => ∃ u a : Nat, e = .returned (.tuple #[.int .i64 (u : Int), .int .i64 (a : Int), .int .i64 0]) ∧ WhyR (dsOf l) W d u a ∧ Below w.heap.size w w'
  | 0, d, hd, hf => by omega
  | fuel + 1, d, hd, hf => fun w h hl0 => by
    have hn256 : n ≤ 256 := by have := hok.len; rw [ds_len, ← h.len] at this; omega
    have hlc := level_ok h hn256 hd
    obtain ⟨f, hf2⟩ : ∃ f, f = lev (dsOf l) W := ⟨_, rfl⟩
    have hnb := h.lt
    have hlow := h.low
    have c0 := h.c0
    have c1 := h.c1
    have hlv : ∀ w1, Below w.heap.size w w1 → ∀ d, d < 256 → w1.cell? ⟨nb, 2 + d, none⟩ = some (.int .u8 (lev (dsOf l) W d)) := fun w1 hb d hd => (hb.cell (p := ⟨nb, 2 + d, none⟩) h.lt).trans (h.lv hd)
    have c2 := h.lv (d := d) (by omega)
    obtain ⟨D, hown, hrd⟩ := h.wants
    have hdi : (d : Int) < 256 := by omega
    rw [← hf2] at hlc hlv c2 hl0
    have HF := Lib.hid hf2
    obtain ⟨v, hv⟩ : ∃ v, v = f d := ⟨_, rfl⟩
    rw [← hv] at hlc c2 hl0
    have HV := Lib.hid hv
    have HLC := Lib.hid hlc
    have HLV := Lib.hid hlv
    have HO := Lib.hid hown
    have HRD := Lib.hid hrd
    have HN := Lib.hid h
    have HOKD := Lib.hid hok
    have HW := Lib.hid hW
    clear hf2 hv hlc hlv hown hrd h hok hW
    have hv0 : ¬ (v : Int) = 0 := by omega
    go_enter Try.func18, Try.ntmps18
    go_wp2_with (first
      | (go_at_call 13; refine HLC.out.mono ?_; rintro e w1 ⟨rfl, rfl⟩)
      | (at_range; refine wpList_range_own _ rfl _ 59 rfl 66 5 seat_law Try.underlying59 _ mb N _ rfl HO.out ?_; intro w0 hrg0 hg0 hs0)
      | fail)
    go_frame
    have hv0b : ((v : Int) == 0) = false := by simp; omega
    rw [hv0b]
    clear hv0b
    have hb0 : Below w.heap.size w w0 := (Below.refl _ _).grown hg0 (Nat.le_refl _) (fun k hk => by cases hk)
    have HB0 := Lib.hid hb0
    have HRG0 := Lib.hid hrg0
    clear hb0 hrg0 hg0 hs0 HO
    go_loopw [4, 9] (fun uv _ wr => ∃ (left : Lit → Bool) (cnt m : Nat), wr.ranges Try.prog 66 (plainElem Try.prog 5) mb w.heap.size N D left cnt ∧ (∀ kl, left kl = true → Go.Maps.has D kl = true) ∧ uv = .int .i64 (m : Int) ∧ m ≤ 1024 ∧ (m < 1024 → W m d = v) ∧
      (∀ u : Nat, u < 1024 → (∀ kl, keyOf Try.prog 66 (seat u d) = some kl → left kl = false) → W u d = v → m ≤ u) ∧ Below w.heap.size w wr) (fun _ _ wr => wr.rangeLeft mb w.heap.size)
    case atStart =>
      refine ⟨_, _, 1024, HRG0.out, fun kl h => h, by rfl, by omega, by omega, fun u hu hk hw => ?_, HB0.out⟩
      obtain ⟨kl, hkl⟩ := seat_key (u : Int) (d : Int) (WalkArith.wf_i64 (by omega)) (WalkArith.wf_i64 (by omega))
      have h1 := HRD.out.at_ u d kl hkl
      rw [Go.Maps.atKey_of_not_has (hk kl hkl)] at h1
      injection h1 with h1
      injection h1 with _ h1
      omega
    case round =>
      obtain ⟨left, cnt, m, hrg, hinv, rfl, hm, hmw, hlo, hb⟩ := hrel
      clear HB0 HRG0
      have HMW := Lib.hid hmw
      have HLO := Lib.hid hlo
      have HB := Lib.hid hb
      have HRG := Lib.hid hrg
      have HINV := Lib.hid hinv
      clear hmw hlo hb hrg hinv
      go_wp2_with (first
        | (at_next; refine wpList_next_seat rfl (.tmp 29) rfl mb w.heap.size N n D W HRD.out left cnt rfl HRG.out HINV.out ?_ ?_))
      · intro hl0'
        by_cases hm1 : m < 1024
        · have hmi : (m : Int) < 1024 := by omega
          go_wp2_with fail
          go_ret3
          refine ⟨m, d, by rfl, .here d m hm1 ?_ (fun u' hu' hw' => ?_), HB.out⟩
          · rw [HMW.out hm1, HV.out, HF.out]
          · have := HLO.out u' (by omega) (fun kl _ => hl0' kl) (by rw [hw', HV.out, HF.out])
            omega
        · have hmi : ¬ (m : Int) < 1024 := by omega
          have hnone : ∀ u : Nat, u < 1024 → W u d ≠ lev (dsOf l) W d := fun u hu hw' => by
            have := HLO.out u hu (fun kl _ => hl0' kl) (by rw [hw', HV.out, HF.out])
            omega
          have hex := why_exists HOKD.out (d := d) (by rw [← HF.out, ← HV.out]; exact hl0) hnone
          have HNONE := Lib.hid hnone
          have HEX := Lib.hid hex
          have HL0' := Lib.hid hl0'
          clear hnone hex hl0'
          go_wp2_with fail
          go_loopw [10] (fun iv wr => ∃ k : Nat, d < k ∧ k ≤ n ∧ iv = .int .i64 (k : Int) ∧ (∀ j, d < j → j < k → ¬ (lev (dsOf l) W j = lev (dsOf l) W d ∧ d ∈ und (dsOf l) j)) ∧ Below w.heap.size w wr) (fun iv _ => n - (intOf iv).toNat)
          case atStart => exact ⟨d + 1, by omega, by omega, by go_num, fun j h1 h2 => by omega, HB.out⟩
          case round =>
            obtain ⟨k, hdk, hkn, rfl, hno, hb⟩ := hrel
            clear HB HRG HINV
            have HNO := Lib.hid hno
            have HB := Lib.hid hb
            clear hno hb
            have hkn2 : k < n := by
              obtain ⟨d', e1, e2, e3, e4⟩ := HEX.out
              rw [ds_len, ← HN.out.len] at e2
              rcases Nat.lt_or_ge d' k with h | h
              · exact absurd ⟨e3, e4⟩ (HNO.out d' e1 h)
              · omega
            have hki : (k : Int) < 256 := by omega
            have hkn3 : (k : Int) < (n : Int) := by omega
            have c3 := HLV.out _ HB.out k (by omega)
            have cc0 := (HB.out.cell (p := ⟨nb, 0, none⟩) hnb).trans c0
            have hkl : k < l.length := by rw [← HN.out.len]; exact hkn2
            obtain ⟨b, off, rfl, hbB, x0, x1, hun⟩ := (HN.out.below HB.out).doms.at_ hkl
            have hund : und (dsOf l) k = l[k].d.u := und_at hkl
            obtain ⟨us, hus⟩ : ∃ us, us = l[k].d.u := ⟨_, rfl⟩
            have hus8 := hcap _ (List.getElem_mem hkl)
            rw [← hus] at x0 hun hund hus8
            have hct := contains_any l[k].A l[k].c (us.map fun (x : Nat) => (x : Int)) us.length (by rw [List.length_map]) (by omega) (d : Int) wr wr.heap.size (by
              have e : ints (us.map fun (x : Nat) => (x : Int)) = nats us := by simp [ints, nats]
              rw [e]; exact hun)
            generalize l[k].A = a1 at x0 hct
            generalize l[k].c = k1 at x0 hct
            have HCT := Lib.hid hct
            have HUND := Lib.hid hund
            obtain ⟨fk, hfk⟩ : ∃ fk, fk = f k := ⟨_, rfl⟩
            rw [← hfk] at c3
            have HFK := Lib.hid hfk
            clear hct hund hus hun hfk x1 hus8
            by_cases hkv : fk = v
            · subst hkv
              by_cases hin : d ∈ us
              · have hdc : decide ((d : Int) ∈ us.map fun (x : Nat) => (x : Int)) = true := decide_eq_true ((mem_cast us d).2 hin)
                have hlk : lev (dsOf l) W k = lev (dsOf l) W d := by rw [← HF.out, ← HFK.out, ← HV.out]
                have hrec := why_any HOKD.out HW.out hcap fuel k hkn2 (by omega) wr (HN.out.below HB.out) (by rw [← HF.out, ← HFK.out]; exact hl0)
                have HREC := Lib.hid hrec
                have HLK := Lib.hid hlk
                clear hrec hlk
                go_wp2_with (first
                  | (go_at_call 22; refine HCT.out.mono ?_; rw [hdc]; rintro e w2 ⟨rfl, rfl⟩)
                  | (go_at_call 18; refine HREC.out.mono ?_; rintro e w2 ⟨u, a, rfl, hwr, hb2⟩; have HWR := Lib.hid hwr; have HB2 := Lib.hid hb2; clear hwr hb2)
                  | fail)
                go_ret3
                exact ⟨u, a, by rfl, .up d k u a HNONE.out hdk (by rw [ds_len, ← HN.out.len]; exact hkn2) HLK.out (by rw [HUND.out]; exact hin) HNO.out HWR.out, HB.out.trans (HB2.out.mono HB.out.size)⟩
              · have hdc : decide ((d : Int) ∈ us.map fun (x : Nat) => (x : Int)) = false := decide_eq_false fun h => hin ((mem_cast us d).1 h)
                go_wp2_with (first
                  | (go_at_call 22; refine HCT.out.mono ?_; rw [hdc]; rintro e w2 ⟨rfl, rfl⟩)
                  | fail)
                refine ⟨⟨k + 1, by omega, by omega, by go_num, fun j h1 h2 => ?_, HB.out⟩, by simp [intOf]; omega⟩
                rcases (show j < k ∨ j = k by omega) with h3 | rfl
                · exact HNO.out j h1 h3
                · rw [HUND.out]; exact fun h => hin h.2
            · have hki2 : ¬ (fk : Int) = (v : Int) := by omega
              go_wp2_with fail
              refine ⟨⟨k + 1, by omega, by omega, by go_num, fun j h1 h2 => ?_, HB.out⟩, by simp [intOf]; omega⟩
              rcases (show j < k ∨ j = k by omega) with h3 | rfl
              · exact HNO.out j h1 h3
              · rw [← HF.out, ← HFK.out, ← HV.out]; exact fun h => hkv h.1
      · intro u d2 kl w1 cnt1 hu hd2 hk hrg1 hlt hg1 hs1 hen
        have hb1 := HB.out.grown hg1 HB.out.size (fun k hk => by injection hk; omega)
        have hinv2 : ∀ kl', (left kl' && !kl'.sameKey kl) = true → Go.Maps.has D kl' = true := fun kl' h => HINV.out kl' (by simp at h; exact h.1)
        have hrg2 := ranges_block (w' := w1.alloc (.cells #[.int .i64 (u : Int), .int .i64 (d2 : Int)] 66)) hrg1 (Below.heap_alloc _ _ _ hrg1.owns.lt) (Below.heap_alloc _ _ _ hrg1.lt)
        have hb2 : Below w.heap.size w (w1.alloc (.cells #[.int .i64 (u : Int), .int .i64 (d2 : Int)] 66)) := hb1.alloc hb1.size _
        have hlo2 : ∀ m' : Nat, m' ≤ m → (d2 = d → W u d = v → m' ≤ u) → ∀ u' : Nat, u' < 1024 → (∀ kl', keyOf Try.prog 66 (seat u' d) = some kl' → (left kl' && !kl'.sameKey kl) = false) → W u' d = v → m' ≤ u' := fun m' hm' hu2 u' hu' hkl' hw' => by
          by_cases e : u' = u ∧ d = d2
          · obtain ⟨rfl, e⟩ := e
            exact hu2 e.symm hw'
          · refine Nat.le_trans hm' (HLO.out u' hu' (fun kl' h' => ?_) hw')
            have h1 := hkl' kl' h'
            have hne : kl'.sameKey kl = false := by
              rw [Bool.eq_false_iff]
              intro hs
              have := WideAt.sameKey_eq hs
              subst this
              obtain ⟨e1, e2⟩ := seat_inj (seat_law.inj h' hk)
              exact e ⟨by omega, by omega⟩
            rw [hne] at h1
            simpa using h1
        rw [show seat u d2 = Value.agg #[.int .i64 (u : Int), .int .i64 (d2 : Int)] from rfl] at hen ⊢
        obtain ⟨q, hq⟩ : ∃ q, q = W u d2 := ⟨_, rfl⟩
        rw [← hq] at hen ⊢
        have HQ := Lib.hid hq
        have HLO2 := Lib.hid hlo2
        have HINV2 := Lib.hid hinv2
        have HB2 := Lib.hid hb2
        have HR2 := Lib.hid hrg2
        clear hlo2 hinv2 hb2 hrg1 hg1 hq hb1
        have hfin : (w1.alloc (.cells #[.int .i64 (u : Int), .int .i64 (d2 : Int)] 66)).rangeLeft mb w.heap.size < wr.rangeLeft mb w.heap.size := by
          rw [hrg2.left_eq, HRG.out.left_eq]
          exact hlt
        clear hrg2
        by_cases hdd : d2 = d
        · subst hdd
          by_cases hqv : q = v
          · subst hqv
            by_cases hum : u < m
            · have humi : (u : Int) < (m : Int) := by omega
              go_wp2_with fail
              exact ⟨⟨_, _, u, HR2.out, HINV2.out, by go_num, by omega, fun _ => HQ.out.symm, HLO2.out u (by omega) (fun _ _ => Nat.le_refl _), HB2.out⟩, hfin⟩
            · have humi : ¬ (u : Int) < (m : Int) := by omega
              go_wp2_with fail
              exact ⟨⟨_, _, m, HR2.out, HINV2.out, by go_num, hm, HMW.out, HLO2.out m (Nat.le_refl _) (fun _ _ => by omega), HB2.out⟩, hfin⟩
          · have hqi : ¬ (q : Int) = (v : Int) := by omega
            go_wp2_with fail
            exact ⟨⟨_, _, m, HR2.out, HINV2.out, rfl, hm, HMW.out, HLO2.out m (Nat.le_refl _) (fun _ h => absurd (HQ.out.trans h) hqv), HB2.out⟩, hfin⟩
        · have hdi2 : ¬ (d2 : Int) = (d : Int) := by omega
          go_wp2_with fail
          exact ⟨⟨_, _, m, HR2.out, HINV2.out, rfl, hm, HMW.out, HLO2.out m (Nat.le_refl _) (fun h _ => absurd h hdd), HB2.out⟩, hfin⟩
theorem why_zero {w : World} {nb mb N : Nat} {ds : List Dm} {W : Int → Int → Nat} (h : IsNet w nb mb N ds W) {d : Int} (h0 : levelAt ds W d = 0) :
    Calls Try.prog 18 #[.pointer (some ⟨nb, 0, none⟩), .int .i64 d] w fun e w' => e = .returned (.tuple #[.int .i64 0, .int .i64 0, .int .i64 1]) ∧ w = w' := by
  have hl := level_net h d
  rw [h0] at hl
  have HL := Lib.hid hl
  clear hl h h0
  go_enter Try.func18, Try.ntmps18
  go_wp2_with (go_at_call 13; refine HL.out.mono ?_; rintro e w1 ⟨rfl, rfl⟩)
  go_ret3
  exact ⟨by rfl, rfl⟩
theorem why_net {w : World} {nb mb N : Nat} {ds : List Dm} {W : Int → Int → Nat} (h : IsNet w nb mb N ds W) {d : Nat} (hd : d < ds.length) (h0 : 0 < lev ds W d) :
    Calls Try.prog 18 #[.pointer (some ⟨nb, 0, none⟩), .int .i64 (d : Int)] w fun e w' => ∃ u a : Nat, e = .returned (.tuple #[.int .i64 (u : Int), .int .i64 (a : Int), .int .i64 0]) ∧ WhyR ds W d u a ∧ Below w.heap.size w w' := by
  obtain ⟨N', Ad, cd, ls, h1, h2, h3, h4, h5, h6⟩ := h
  subst h3
  refine why_any h4 h5 (fun x hx => ?_) _ d hd (Nat.le_refl _) w h2 h0
  obtain ⟨i, hi, rfl⟩ := List.getElem_of_mem hx
  have := h4.few i (by rw [ds_len]; exact hi)
  rw [ds_get _ hi] at this
  exact this
end Go.Proofs.Ytghcemfffhjmjaa
