/- The program's reckon, with either of its two closures: the contract. -/
import Derived.Test.YtghcemfffhjmjaaWants
import Derived.Test.YtghcemfffhjmjaaSettled
set_option linter.unusedVariables false
namespace Go.Proofs.Ytghcemfffhjmjaa
open Go.RowKit
def supN (g : Nat → Nat) : Nat → Nat
  | 0 => 0
  | k + 1 => max (supN g k) (g k)
theorem supN_ge (g : Nat → Nat) : ∀ (k u : Nat), u < k → g u ≤ supN g k
  | k + 1, u, h => by
    show g u ≤ max (supN g k) (g k)
    rcases (show u < k ∨ u = k by omega) with h2 | rfl
    · have := supN_ge g k u h2; omega
    · omega
theorem supN_le {g : Nat → Nat} {b : Nat} : ∀ k : Nat, (∀ u, u < k → g u ≤ b) → supN g k ≤ b
  | 0, h => Nat.zero_le _
  | k + 1, h => by
    show max (supN g k) (g k) ≤ b
    have h1 := supN_le k (fun u hu => h u (by omega))
    have h2 := h k (by omega)
    omega
/-- How much is wanted of a domain by those that are kept. -/
def baseF (W : Int → Int → Nat) (kp : Int → Int → Bool) (d : Nat) : Nat := supN (fun u => if kp u d then W u d else 0) 1024
theorem base_ge (W : Int → Int → Nat) (kp : Int → Int → Bool) {u d : Nat} (h : u < 1024) (hk : kp u d = true) : W u d ≤ baseF W kp d := by
  have := supN_ge (fun u => if kp u d then W u d else 0) 1024 u h
  simp only [hk, if_true] at this
  exact this
theorem base_le {W : Int → Int → Nat} {kp : Int → Int → Bool} {d b : Nat} (h : ∀ u : Nat, u < 1024 → kp u d = true → W u d ≤ b) : baseF W kp d ≤ b := supN_le _ fun u hu => by
  by_cases hk : kp u d = true
  · simp only [hk, if_true]; exact h u hu hk
  · simp only [Bool.not_eq_true] at hk
    simp [hk]
/-- The step of a range over the wants. -/
theorem wpList_next_seat {w : World} {ops : Array Oper} {rest : List Oper} {o : Oper} {a : Act} {Q : Exit → Act → World → Prop} (hg : o.guard = none) (it : Operand) (hop : o.op = Op.next it false)
    (mb r N n : Nat) (D : DataW Unit) (W : Int → Int → Nat) (hr : Reads n D W) (left : Lit → Bool) (cnt : Nat) (hit : a.eval it = .pointer (some ⟨r, 0, none⟩)) (h : w.ranges Try.prog 66 (plainElem Try.prog 5) mb r N D left cnt)
    (hinv : ∀ kl, left kl = true → Go.Maps.has D kl = true)
    (hDone : (∀ kl, left kl = false) → wpList Try.prog ops Q rest (a.put o.dst (.tuple #[.bool false])) w)
    (hMore : ∀ (u d : Nat) (kl : Lit) (w' : World) (cnt' : Nat), u < 1024 → d < n → keyOf Try.prog 66 (seat u d) = some kl → w'.ranges Try.prog 66 (plainElem Try.prog 5) mb r N D (fun z => left z && !z.sameKey kl) cnt' → cnt' < cnt →
      w.grownBy w' (some r) → w'.heap.size = w.heap.size → (Instr.entry (.pointer (some ⟨r, 0, none⟩))).run Try.prog w' = .ok (.tuple #[seat u d, .int .u8 (W u d : Int)]) w' → wpList Try.prog ops Q rest (a.put o.dst (.tuple #[.bool true, seat u d, .int .u8 (W u d : Int)])) w') :
    wpList Try.prog ops Q (o :: rest) a w := by
  refine wpList_plain hg fun K' hK' => ?_
  unfold Oper.wp
  rcases h.next seat_law o.type with ⟨h0, hl, hrun⟩ | ⟨key, v, kl, y, w', cnt', hkey, hlk, hv, hat, hrun, hrg, hlt, hgr, hsz, hen⟩
  · simp [execOp, hop, hit, hrun, Result.andThen]
    exact hK' _ _ (hDone hl)
  · obtain ⟨u, d, hu, hd, hk⟩ := hr.has kl (hinv kl hlk)
    obtain rfl : key = seat u d := seat_law.inj hkey hk
    obtain ⟨c, rfl, rfl, hwc⟩ := plainElem_int_inv Try.underlying5 hv
    have hc := hr.at_ u d kl hk
    rw [hat] at hc
    injection hc with hc
    injection hc with _ hc
    subst hc
    simp [execOp, hop, hit, hrun, Result.andThen]
    exact hK' _ _ (hMore u d kl w' cnt' hu hd hk hrg hlt hgr hsz hen)
theorem ranges_block {w w' : World} {b r N : Nat} {D : DataW Unit} {left : Lit → Bool} {cnt : Nat} (h : w.ranges Try.prog 66 (plainElem Try.prog 5) b r N D left cnt) (hb : w'.heap[b]? = w.heap[b]?) (hr : w'.heap[r]? = w.heap[r]?) : w'.ranges Try.prog 66 (plainElem Try.prog 5) b r N D left cnt := by
  obtain ⟨es, clock, since, seen, c0, hb0, F, hs, hD, hr0, rest⟩ := h
  exact ⟨es, clock, since, seen, c0, hb.trans hb0, F, hs, hD, hr.trans hr0, rest⟩
set_option maxRecDepth 100000 in
set_option maxHeartbeats 4000000 in
theorem reckon25 (cv : Value) (kp : Int → Int → Bool) (nb mb N : Nat) (Ad : Option Addr) (n cd : Nat) (l : List Dmm) (hn : n = l.length) (hok : Okd (dsOf l)) (W : Int → Int → Nat) (hW : Fitw n W) (w : World) (B : Nat) (hB : B ≤ w.heap.size) (hnb : nb < w.heap.size)
    (h0 : w.cell? ⟨nb, 0, none⟩ = some (.slice Ad n cd)) (h1 : w.cell? ⟨nb, 1, none⟩ = some (.map (some mb))) (hs : Doms w B Ad l) (hm : WantsAt w mb N n W)
    (hkp : ∀ (w1 : World) (u d : Nat), u < 1024 → d < n → Below w.heap.size w w1 → Calls Try.prog 25 #[seat u d, cv] w1 fun e w' => e = .returned (.bool (kp u d)) ∧ Below w1.heap.size w1 w') :
    Calls Try.prog 24 #[.pointer (some ⟨nb, 0, none⟩), .func (.func 25) #[] #[cv]] w fun e w' => e = .returned (.agg (arr (settle (dsOf l) (baseF W kp))).toArray) ∧ Below w.heap.size w w' := by
  have hz := zero60
  have hn256 : n ≤ 256 := by have := hok.len; rw [ds_len] at this; omega
  obtain ⟨D, hown, hrd⟩ := hm
  have hmb := hown.lt
  have hc0 : ∀ w1, Below w.heap.size w w1 → w1.cell? ⟨nb, 0, none⟩ = some (.slice Ad n cd) ∧ w1.cell? ⟨nb, 1, none⟩ = some (.map (some mb)) := fun w1 hb => ⟨(hb.cell (p := ⟨nb, 0, none⟩) hnb).trans h0, (hb.cell (p := ⟨nb, 1, none⟩) hnb).trans h1⟩
  have hb2 : ∀ Z, Below w.heap.size w ((w.alloc (.cells Z 60)).alloc (.cells Z 60)) := fun Z => ((Below.refl _ _).alloc (Nat.le_refl _) _).alloc (by simp) _
  generalize hzz : (arr fun _ => 0).toArray = Z at hz
  have h1' := (hc0 _ (hb2 Z)).2
  have hown2 := (hown.alloc (.cells Z 60)).alloc (.cells Z 60)
  have HC0 := Lib.hid hc0
  have HN := Lib.hid hn
  have HS := Lib.hid hs
  have HOK := Lib.hid hok
  have HW := Lib.hid hW
  have HKP := Lib.hid hkp
  have HRD := Lib.hid hrd
  have HO2 := Lib.hid hown2
  have e2 : ((w.alloc (.cells Z 60)).alloc (.cells Z 60)).heap.size = w.heap.size + 1 + 1 := by simp
  clear hc0 hn hs hok hW hkp hrd hown hown2 h0 h1
  go_enter Try.func24, Try.ntmps24
  go_wp2_with (first
    | (at_range; refine wpList_range_own _ rfl _ 59 rfl 66 5 seat_law Try.underlying59 _ mb N _ rfl HO2.out ?_; intro w0 hrg0 hg0 hs0))
  go_frame
  rw [e2] at hrg0 hs0 ⊢
  have hr4 : RowAt w0 w.heap.size 60 (arr fun _ => 0) := by
    refine RowAt.keep (w := (w.alloc (.cells Z 60)).alloc (.cells Z 60)) ?_ (hg0.block _ (by simp; omega) (by simp))
    exact RowAt.keep (w := w.alloc (.cells Z 60)) ⟨_, heap_alloc_new _ _, by rw [← hzz]; exact List.take_of_length_le (Nat.le_refl _)⟩ (Below.heap_alloc _ _ _ (by simp))
  have hr5 : RowAt w0 (w.heap.size + 1) 60 (arr fun _ => 0) := by
    refine RowAt.keep (w := (w.alloc (.cells Z 60)).alloc (.cells Z 60)) ?_ (hg0.block _ (by simp) (by simp))
    have := heap_alloc_new (w.alloc (.cells Z 60)) (.cells Z 60)
    rw [show (w.alloc (.cells Z 60)).heap.size = w.heap.size + 1 by simp] at this
    exact ⟨_, this, by rw [← hzz]; exact List.take_of_length_le (Nat.le_refl _)⟩
  have hb0 : Below w.heap.size w w0 := (hb2 Z).grown hg0 (by simp; omega) (fun k hk => by cases hk)
  have R4 := Lib.hid hr4
  have R5 := Lib.hid hr5
  have HB0 := Lib.hid hb0
  have HRG0 := Lib.hid hrg0
  clear hr4 hr5 hb0 hrg0 hg0 hs0 hzz hz hb2 HO2 e2 h1'
  go_loopw [7] (fun _ wr => ∃ (left : Lit → Bool) (cnt : Nat) (f : Nat → Nat), wr.ranges Try.prog 66 (plainElem Try.prog 5) mb (w.heap.size + 1 + 1) N D left cnt ∧ (∀ kl, left kl = true → Go.Maps.has D kl = true) ∧
    RowAt wr w.heap.size 60 (arr fun _ => 0) ∧ RowAt wr (w.heap.size + 1) 60 (arr f) ∧ (∀ u d : Nat, u < 1024 → d < n → kp u d = true → (∀ kl, keyOf Try.prog 66 (seat u d) = some kl → left kl = false) → W u d ≤ f d) ∧ (∀ d, f d ≤ baseF W kp d) ∧ Below w.heap.size w wr) (fun _ wr => wr.rangeLeft mb (w.heap.size + 1 + 1))
  case atStart =>
    refine ⟨_, _, fun _ => 0, HRG0.out, fun kl h => h, R4.out, R5.out, fun u d hu hd _ hk => ?_, fun d => Nat.zero_le _, HB0.out⟩
    obtain ⟨kl, hkl⟩ := seat_key (u : Int) (d : Int) (WalkArith.wf_i64 (by omega)) (WalkArith.wf_i64 (by omega))
    have h1 := HRD.out.at_ u d kl hkl
    rw [Go.Maps.atKey_of_not_has (hk kl hkl)] at h1
    injection h1 with h1
    injection h1 with _ h1
    omega
  case round =>
    obtain ⟨left, cnt, f, hrg, hinv, hr4, hr5, hlo, hhi, hb⟩ := hrel
    clear R4 R5 HB0 HRG0
    have R4 := Lib.hid hr4
    have R5 := Lib.hid hr5
    have HLO := Lib.hid hlo
    have HHI := Lib.hid hhi
    have HB := Lib.hid hb
    have HRG := Lib.hid hrg
    have HINV := Lib.hid hinv
    clear hr4 hr5 hlo hhi hb hrg hinv
    go_wp2_with (first
      | (at_next; refine wpList_next_seat rfl (.tmp 12) rfl mb (w.heap.size + 1 + 1) N n D W HRD.out left cnt rfl HRG.out HINV.out ?_ ?_))
    · intro hl0
      have hfb : f = baseF W kp := by
        funext d
        refine Nat.le_antisymm (HHI.out d) (base_le fun u hu hk => ?_)
        by_cases hd : d < n
        · exact HLO.out u d hu hd hk (fun kl _ => hl0 kl)
        · rcases Nat.eq_zero_or_pos (W u d) with h0 | h0
          · omega
          · obtain ⟨u', d', _, e, _, hd'⟩ := HW.out.zero u d (by omega)
            omega
      subst hfb
      have hse := settled_any nb Ad n cd l HN.out HOK.out (baseF W kp) (fun d => base_le fun u _ _ => HW.out.le u d) wr B (Nat.le_trans hB HB.out.size) (Nat.lt_of_lt_of_le hnb HB.out.size) (HC0.out _ HB.out).1 (HS.out.below (HB.out.mono hB))
      have HSE := Lib.hid hse
      clear hse
      go_wp2_with (first
        | (refine wpList_load_mid rfl 60 (.tmp 5) rfl (w.heap.size + 1) 0 rfl (arr (baseF W kp)) _ (row_range R5.out) Try.underlying60 rfl (size60 _) ?_)
        | (go_at_call 26; refine HSE.out.mono ?_; rintro e w3 ⟨rfl, hb3⟩
           have r4 := R4.out.keep (w' := w3) (hb3.block _ R4.out.lt)
           have hth := row_there r4
           rw [arr_len] at hth
           have hsz : (arr (settle (dsOf l) (baseF W kp))).toArray.size = 256 := by rw [List.size_toArray, arr_len]
           rw [← hsz] at hth
           have hfin := row_setCells (arr (settle (dsOf l) (baseF W kp))) 0 _ _ r4 (by rw [arr_len, arr_len]; omega)
           rw [List.take_zero, List.nil_append, List.drop_of_length_le (by rw [arr_len, arr_len]; omega), List.append_nil] at hfin
           have HTH := Lib.hid hth
           have HFIN := Lib.hid hfin
           have HBF := Lib.hid (below_setCells (arr (settle (dsOf l) (baseF W kp))) 0 w3 (HB.out.trans (hb3.mono HB.out.size)) (Nat.le_refl w.heap.size))
           clear r4 hth hsz hfin hb3)
        | (refine wpList_store_mid rfl 60 (.tmp 4) (.tmp 32) rfl w.heap.size 0 (arr (settle (dsOf l) (baseF W kp))).toArray rfl rfl HTH.out (size60' _) (arr_one _) ?_))
      refine bodyPost_ret (results_cell_mid (p := 4) (ty := 60) rfl _ _ _ w.heap.size (arr (settle (dsOf l) (baseF W kp))) _ rfl (row_range HFIN.out) Try.underlying60 rfl (size60 _)) rfl ?_
      exact ⟨rfl, HBF.out⟩
    · intro u d kl w1 cnt1 hu hd hk hrg1 hlt hg1 hs1 hen
      have r4 := R4.out.keep (w' := w1) (hg1.block _ R4.out.lt (by simp; omega))
      have r5 := R5.out.keep (w' := w1) (hg1.block _ R5.out.lt (by simp))
      have hb1 := HB.out.grown hg1 HB.out.size (fun k hk => by injection hk; omega)
      have hrl := hrg1.lt
      have hmb1 := hrg1.owns.lt
      have hd1 : d < 256 := by omega
      have hdi : (d : Int) < 256 := by omega
      have hcall := HKP.out (w1.alloc (.cells #[.int .i64 (u : Int), .int .i64 (d : Int)] 66)) u d hu hd (hb1.alloc hb1.size _)
      have esz : (w1.alloc (.cells #[.int .i64 (u : Int), .int .i64 (d : Int)] 66)).heap.size = w1.heap.size + 1 := by simp
      rw [esz] at hcall
      have hkeep : ∀ w2, Below (w1.heap.size + 1) (w1.alloc (.cells #[.int .i64 (u : Int), .int .i64 (d : Int)] 66)) w2 → (∀ g, g < w1.heap.size → w2.heap[g]? = w1.heap[g]?) ∧ w2.cell? ⟨w1.heap.size, 1, none⟩ = some (.int .i64 (d : Int)) ∧ Below w.heap.size w w2 := fun w2 h2 => by
        refine ⟨fun g hg => ?_, ?_, (hb1.alloc hb1.size _).trans (h2.mono (by have := hb1.size; omega))⟩
        · rw [h2.block g (by omega), Below.heap_alloc _ _ _ hg]
        · rw [h2.cell (p := ⟨w1.heap.size, 1, none⟩) (by show w1.heap.size < w1.heap.size + 1; omega), cell_of_row _ _ _ _ _ (0, 0) (heap_alloc_new w1 _)]; rfl
      have hlo2 : ∀ g : Nat → Nat, (∀ i, f i ≤ g i) → (kp u d = true → W u d ≤ g d) → ∀ u' d' : Nat, u' < 1024 → d' < n → kp u' d' = true → (∀ kl', keyOf Try.prog 66 (seat u' d') = some kl' → (left kl' && !kl'.sameKey kl) = false) → W u' d' ≤ g d' := fun g hg hgd u' d' hu' hd' hk' hkl' => by
        by_cases e : u' = u ∧ d' = d
        · obtain ⟨rfl, rfl⟩ := e
          exact hgd hk'
        · refine Nat.le_trans (HLO.out u' d' hu' hd' hk' fun kl' h' => ?_) (hg d')
          have h1 := hkl' kl' h'
          have hne : kl'.sameKey kl = false := by
            rw [Bool.eq_false_iff]
            intro hs
            have := WideAt.sameKey_eq hs
            subst this
            obtain ⟨e1, e2⟩ := seat_inj (seat_law.inj h' hk)
            exact e ⟨by omega, by omega⟩
          rw [hne] at h1
          simpa using h1
      have hinv2 : ∀ kl', (left kl' && !kl'.sameKey kl) = true → Go.Maps.has D kl' = true := fun kl' h => HINV.out kl' (by simp at h; exact h.1)
      have hbg := base_ge W kp (u := u) (d := d) hu
      have hWle := HW.out.le u d
      rw [show seat u d = Value.agg #[.int .i64 (u : Int), .int .i64 (d : Int)] from rfl] at hen ⊢
      rw [show #[seat u d, cv] = #[Value.agg #[.int .i64 (u : Int), .int .i64 (d : Int)], cv] from rfl] at hcall
      generalize kp u d = b at *
      generalize W u d = lv at *
      have HLO2 := Lib.hid hlo2
      have HINV2 := Lib.hid hinv2
      have HK := Lib.hid hkeep
      have HCALL := Lib.hid hcall
      have HBG := Lib.hid hbg
      have R4' := Lib.hid r4
      have R5' := Lib.hid r5
      have HR1 := Lib.hid hrg1
      clear hlo2 hinv2 hkeep hcall hbg r4 r5 hg1
      rcases b with _ | _
      · go_wp2_with (first
          | (go_at_call 25; refine HCALL.out.mono ?_; rintro e w2 ⟨rfl, hb2⟩; obtain ⟨k1, k2, k3⟩ := HK.out w2 hb2; have K1 := Lib.hid k1; have K3 := Lib.hid k3; clear k1 k3 hb2))
        have hrg2 := ranges_block HR1.out (K1.out _ hmb1) (K1.out _ hrl)
        refine ⟨⟨_, _, f, hrg2, HINV2.out, R4'.out.keep (K1.out _ R4'.out.lt), R5'.out.keep (K1.out _ R5'.out.lt), HLO2.out f (fun _ => Nat.le_refl _) (by simp), HHI.out, K3.out⟩, ?_⟩
        rw [hrg2.left_eq, HRG.out.left_eq]
        exact hlt
      · go_wp2_with (first
          | (go_at_call 25; refine HCALL.out.mono ?_; rintro e w2 ⟨rfl, hb2⟩
             obtain ⟨k1, k2, k3⟩ := HK.out w2 hb2
             have K1 := Lib.hid k1
             have K3 := Lib.hid k3
             have r5 := R5'.out.keep (K1.out _ R5'.out.lt)
             have R5'' := Lib.hid r5
             have c1 := (r5.cell (k := d) (by rw [arr_len]; exact hd1)).trans (arr_get f hd1)
             have f1 := r5.frozen d
             rw [hs1] at k2
             clear k1 k3 hb2 r5))
        go_region
        go_wp2_with fail
        have e5 : (arr f).set d (.int .u8 (if f d < lv then (lv : Int) else (f d : Int))) = arr (upd f d (max (f d) lv)) := by
          rw [show (if f d < lv then (lv : Int) else (f d : Int)) = ((max (f d) lv : Nat) : Int) by split <;> omega, arr_set f hd1]
        have hr6 := R5''.out.store d (.int .u8 (if f d < lv then (lv : Int) else (f d : Int)))
        rw [e5] at hr6
        have hrg2 := ranges_block (w' := (w2.setCell ⟨w.heap.size + 1, d, none⟩ (.int .u8 (if f d < lv then (lv : Int) else (f d : Int)))).drew) HR1.out ((Below.heap_setCell _ _ _ _ (show mb ≠ w.heap.size + 1 by omega)).trans (K1.out _ hmb1)) ((Below.heap_setCell _ _ _ _ (show w.heap.size + 1 + 1 ≠ w.heap.size + 1 by omega)).trans (K1.out _ hrl))
        refine ⟨⟨_, _, upd f d (max (f d) lv), hrg2, HINV2.out, (R4'.out.keep (K1.out _ R4'.out.lt)).keep (Below.heap_setCell _ _ _ _ (show w.heap.size ≠ w.heap.size + 1 by omega)), hr6.keep rfl, HLO2.out _ (fun i => ?_) (fun _ => ?_), fun i => ?_, (K3.out.setCell (p := ⟨w.heap.size + 1, d, none⟩) (show w.heap.size ≤ w.heap.size + 1 by omega) _).drew⟩, ?_⟩
        · by_cases e : i = d
          · rw [e, upd_same]; exact Nat.le_max_left _ _
          · rw [upd_other _ _ e]; exact Nat.le_refl _
        · rw [upd_same]; exact Nat.le_max_right _ _
        · by_cases e : i = d
          · rw [e, upd_same]
            have h1 := HHI.out d
            have h2 := HBG.out trivial
            omega
          · rw [upd_other _ _ e]; exact HHI.out i
        · rw [hrg2.left_eq, HRG.out.left_eq]
          exact hlt
set_option maxRecDepth 100000 in
set_option maxHeartbeats 4000000 in
theorem reckon28 (cv : Value) (kp : Int → Int → Bool) (nb mb N : Nat) (Ad : Option Addr) (n cd : Nat) (l : List Dmm) (hn : n = l.length) (hok : Okd (dsOf l)) (W : Int → Int → Nat) (hW : Fitw n W) (w : World) (B : Nat) (hB : B ≤ w.heap.size) (hnb : nb < w.heap.size)
    (h0 : w.cell? ⟨nb, 0, none⟩ = some (.slice Ad n cd)) (h1 : w.cell? ⟨nb, 1, none⟩ = some (.map (some mb))) (hs : Doms w B Ad l) (hm : WantsAt w mb N n W)
    (hkp : ∀ (w1 : World) (u d : Nat), u < 1024 → d < n → Below w.heap.size w w1 → Calls Try.prog 28 #[seat u d, cv] w1 fun e w' => e = .returned (.bool (kp u d)) ∧ Below w1.heap.size w1 w') :
    Calls Try.prog 24 #[.pointer (some ⟨nb, 0, none⟩), .func (.func 28) #[] #[cv]] w fun e w' => e = .returned (.agg (arr (settle (dsOf l) (baseF W kp))).toArray) ∧ Below w.heap.size w w' := by
  have hz := zero60
  have hn256 : n ≤ 256 := by have := hok.len; rw [ds_len] at this; omega
  obtain ⟨D, hown, hrd⟩ := hm
  have hmb := hown.lt
  have hc0 : ∀ w1, Below w.heap.size w w1 → w1.cell? ⟨nb, 0, none⟩ = some (.slice Ad n cd) ∧ w1.cell? ⟨nb, 1, none⟩ = some (.map (some mb)) := fun w1 hb => ⟨(hb.cell (p := ⟨nb, 0, none⟩) hnb).trans h0, (hb.cell (p := ⟨nb, 1, none⟩) hnb).trans h1⟩
  have hb2 : ∀ Z, Below w.heap.size w ((w.alloc (.cells Z 60)).alloc (.cells Z 60)) := fun Z => ((Below.refl _ _).alloc (Nat.le_refl _) _).alloc (by simp) _
  generalize hzz : (arr fun _ => 0).toArray = Z at hz
  have h1' := (hc0 _ (hb2 Z)).2
  have hown2 := (hown.alloc (.cells Z 60)).alloc (.cells Z 60)
  have HC0 := Lib.hid hc0
  have HN := Lib.hid hn
  have HS := Lib.hid hs
  have HOK := Lib.hid hok
  have HW := Lib.hid hW
  have HKP := Lib.hid hkp
  have HRD := Lib.hid hrd
  have HO2 := Lib.hid hown2
  have e2 : ((w.alloc (.cells Z 60)).alloc (.cells Z 60)).heap.size = w.heap.size + 1 + 1 := by simp
  clear hc0 hn hs hok hW hkp hrd hown hown2 h0 h1
  go_enter Try.func24, Try.ntmps24
  go_wp2_with (first
    | (at_range; refine wpList_range_own _ rfl _ 59 rfl 66 5 seat_law Try.underlying59 _ mb N _ rfl HO2.out ?_; intro w0 hrg0 hg0 hs0))
  go_frame
  rw [e2] at hrg0 hs0 ⊢
  have hr4 : RowAt w0 w.heap.size 60 (arr fun _ => 0) := by
    refine RowAt.keep (w := (w.alloc (.cells Z 60)).alloc (.cells Z 60)) ?_ (hg0.block _ (by simp; omega) (by simp))
    exact RowAt.keep (w := w.alloc (.cells Z 60)) ⟨_, heap_alloc_new _ _, by rw [← hzz]; exact List.take_of_length_le (Nat.le_refl _)⟩ (Below.heap_alloc _ _ _ (by simp))
  have hr5 : RowAt w0 (w.heap.size + 1) 60 (arr fun _ => 0) := by
    refine RowAt.keep (w := (w.alloc (.cells Z 60)).alloc (.cells Z 60)) ?_ (hg0.block _ (by simp) (by simp))
    have := heap_alloc_new (w.alloc (.cells Z 60)) (.cells Z 60)
    rw [show (w.alloc (.cells Z 60)).heap.size = w.heap.size + 1 by simp] at this
    exact ⟨_, this, by rw [← hzz]; exact List.take_of_length_le (Nat.le_refl _)⟩
  have hb0 : Below w.heap.size w w0 := (hb2 Z).grown hg0 (by simp; omega) (fun k hk => by cases hk)
  have R4 := Lib.hid hr4
  have R5 := Lib.hid hr5
  have HB0 := Lib.hid hb0
  have HRG0 := Lib.hid hrg0
  clear hr4 hr5 hb0 hrg0 hg0 hs0 hzz hz hb2 HO2 e2 h1'
  go_loopw [7] (fun _ wr => ∃ (left : Lit → Bool) (cnt : Nat) (f : Nat → Nat), wr.ranges Try.prog 66 (plainElem Try.prog 5) mb (w.heap.size + 1 + 1) N D left cnt ∧ (∀ kl, left kl = true → Go.Maps.has D kl = true) ∧
    RowAt wr w.heap.size 60 (arr fun _ => 0) ∧ RowAt wr (w.heap.size + 1) 60 (arr f) ∧ (∀ u d : Nat, u < 1024 → d < n → kp u d = true → (∀ kl, keyOf Try.prog 66 (seat u d) = some kl → left kl = false) → W u d ≤ f d) ∧ (∀ d, f d ≤ baseF W kp d) ∧ Below w.heap.size w wr) (fun _ wr => wr.rangeLeft mb (w.heap.size + 1 + 1))
  case atStart =>
    refine ⟨_, _, fun _ => 0, HRG0.out, fun kl h => h, R4.out, R5.out, fun u d hu hd _ hk => ?_, fun d => Nat.zero_le _, HB0.out⟩
    obtain ⟨kl, hkl⟩ := seat_key (u : Int) (d : Int) (WalkArith.wf_i64 (by omega)) (WalkArith.wf_i64 (by omega))
    have h1 := HRD.out.at_ u d kl hkl
    rw [Go.Maps.atKey_of_not_has (hk kl hkl)] at h1
    injection h1 with h1
    injection h1 with _ h1
    omega
  case round =>
    obtain ⟨left, cnt, f, hrg, hinv, hr4, hr5, hlo, hhi, hb⟩ := hrel
    clear R4 R5 HB0 HRG0
    have R4 := Lib.hid hr4
    have R5 := Lib.hid hr5
    have HLO := Lib.hid hlo
    have HHI := Lib.hid hhi
    have HB := Lib.hid hb
    have HRG := Lib.hid hrg
    have HINV := Lib.hid hinv
    clear hr4 hr5 hlo hhi hb hrg hinv
    go_wp2_with (first
      | (at_next; refine wpList_next_seat rfl (.tmp 12) rfl mb (w.heap.size + 1 + 1) N n D W HRD.out left cnt rfl HRG.out HINV.out ?_ ?_))
    · intro hl0
      have hfb : f = baseF W kp := by
        funext d
        refine Nat.le_antisymm (HHI.out d) (base_le fun u hu hk => ?_)
        by_cases hd : d < n
        · exact HLO.out u d hu hd hk (fun kl _ => hl0 kl)
        · rcases Nat.eq_zero_or_pos (W u d) with h0 | h0
          · omega
          · obtain ⟨u', d', _, e, _, hd'⟩ := HW.out.zero u d (by omega)
            omega
      subst hfb
      have hse := settled_any nb Ad n cd l HN.out HOK.out (baseF W kp) (fun d => base_le fun u _ _ => HW.out.le u d) wr B (Nat.le_trans hB HB.out.size) (Nat.lt_of_lt_of_le hnb HB.out.size) (HC0.out _ HB.out).1 (HS.out.below (HB.out.mono hB))
      have HSE := Lib.hid hse
      clear hse
      go_wp2_with (first
        | (refine wpList_load_mid rfl 60 (.tmp 5) rfl (w.heap.size + 1) 0 rfl (arr (baseF W kp)) _ (row_range R5.out) Try.underlying60 rfl (size60 _) ?_)
        | (go_at_call 26; refine HSE.out.mono ?_; rintro e w3 ⟨rfl, hb3⟩
           have r4 := R4.out.keep (w' := w3) (hb3.block _ R4.out.lt)
           have hth := row_there r4
           rw [arr_len] at hth
           have hsz : (arr (settle (dsOf l) (baseF W kp))).toArray.size = 256 := by rw [List.size_toArray, arr_len]
           rw [← hsz] at hth
           have hfin := row_setCells (arr (settle (dsOf l) (baseF W kp))) 0 _ _ r4 (by rw [arr_len, arr_len]; omega)
           rw [List.take_zero, List.nil_append, List.drop_of_length_le (by rw [arr_len, arr_len]; omega), List.append_nil] at hfin
           have HTH := Lib.hid hth
           have HFIN := Lib.hid hfin
           have HBF := Lib.hid (below_setCells (arr (settle (dsOf l) (baseF W kp))) 0 w3 (HB.out.trans (hb3.mono HB.out.size)) (Nat.le_refl w.heap.size))
           clear r4 hth hsz hfin hb3)
        | (refine wpList_store_mid rfl 60 (.tmp 4) (.tmp 32) rfl w.heap.size 0 (arr (settle (dsOf l) (baseF W kp))).toArray rfl rfl HTH.out (size60' _) (arr_one _) ?_))
      refine bodyPost_ret (results_cell_mid (p := 4) (ty := 60) rfl _ _ _ w.heap.size (arr (settle (dsOf l) (baseF W kp))) _ rfl (row_range HFIN.out) Try.underlying60 rfl (size60 _)) rfl ?_
      exact ⟨rfl, HBF.out⟩
    · intro u d kl w1 cnt1 hu hd hk hrg1 hlt hg1 hs1 hen
      have r4 := R4.out.keep (w' := w1) (hg1.block _ R4.out.lt (by simp; omega))
      have r5 := R5.out.keep (w' := w1) (hg1.block _ R5.out.lt (by simp))
      have hb1 := HB.out.grown hg1 HB.out.size (fun k hk => by injection hk; omega)
      have hrl := hrg1.lt
      have hmb1 := hrg1.owns.lt
      have hd1 : d < 256 := by omega
      have hdi : (d : Int) < 256 := by omega
      have hcall := HKP.out (w1.alloc (.cells #[.int .i64 (u : Int), .int .i64 (d : Int)] 66)) u d hu hd (hb1.alloc hb1.size _)
      have esz : (w1.alloc (.cells #[.int .i64 (u : Int), .int .i64 (d : Int)] 66)).heap.size = w1.heap.size + 1 := by simp
      rw [esz] at hcall
      have hkeep : ∀ w2, Below (w1.heap.size + 1) (w1.alloc (.cells #[.int .i64 (u : Int), .int .i64 (d : Int)] 66)) w2 → (∀ g, g < w1.heap.size → w2.heap[g]? = w1.heap[g]?) ∧ w2.cell? ⟨w1.heap.size, 1, none⟩ = some (.int .i64 (d : Int)) ∧ Below w.heap.size w w2 := fun w2 h2 => by
        refine ⟨fun g hg => ?_, ?_, (hb1.alloc hb1.size _).trans (h2.mono (by have := hb1.size; omega))⟩
        · rw [h2.block g (by omega), Below.heap_alloc _ _ _ hg]
        · rw [h2.cell (p := ⟨w1.heap.size, 1, none⟩) (by show w1.heap.size < w1.heap.size + 1; omega), cell_of_row _ _ _ _ _ (0, 0) (heap_alloc_new w1 _)]; rfl
      have hlo2 : ∀ g : Nat → Nat, (∀ i, f i ≤ g i) → (kp u d = true → W u d ≤ g d) → ∀ u' d' : Nat, u' < 1024 → d' < n → kp u' d' = true → (∀ kl', keyOf Try.prog 66 (seat u' d') = some kl' → (left kl' && !kl'.sameKey kl) = false) → W u' d' ≤ g d' := fun g hg hgd u' d' hu' hd' hk' hkl' => by
        by_cases e : u' = u ∧ d' = d
        · obtain ⟨rfl, rfl⟩ := e
          exact hgd hk'
        · refine Nat.le_trans (HLO.out u' d' hu' hd' hk' fun kl' h' => ?_) (hg d')
          have h1 := hkl' kl' h'
          have hne : kl'.sameKey kl = false := by
            rw [Bool.eq_false_iff]
            intro hs
            have := WideAt.sameKey_eq hs
            subst this
            obtain ⟨e1, e2⟩ := seat_inj (seat_law.inj h' hk)
            exact e ⟨by omega, by omega⟩
          rw [hne] at h1
          simpa using h1
      have hinv2 : ∀ kl', (left kl' && !kl'.sameKey kl) = true → Go.Maps.has D kl' = true := fun kl' h => HINV.out kl' (by simp at h; exact h.1)
      have hbg := base_ge W kp (u := u) (d := d) hu
      have hWle := HW.out.le u d
      rw [show seat u d = Value.agg #[.int .i64 (u : Int), .int .i64 (d : Int)] from rfl] at hen ⊢
      rw [show #[seat u d, cv] = #[Value.agg #[.int .i64 (u : Int), .int .i64 (d : Int)], cv] from rfl] at hcall
      generalize kp u d = b at *
      generalize W u d = lv at *
      have HLO2 := Lib.hid hlo2
      have HINV2 := Lib.hid hinv2
      have HK := Lib.hid hkeep
      have HCALL := Lib.hid hcall
      have HBG := Lib.hid hbg
      have R4' := Lib.hid r4
      have R5' := Lib.hid r5
      have HR1 := Lib.hid hrg1
      clear hlo2 hinv2 hkeep hcall hbg r4 r5 hg1
      rcases b with _ | _
      · go_wp2_with (first
          | (go_at_call 28; refine HCALL.out.mono ?_; rintro e w2 ⟨rfl, hb2⟩; obtain ⟨k1, k2, k3⟩ := HK.out w2 hb2; have K1 := Lib.hid k1; have K3 := Lib.hid k3; clear k1 k3 hb2))
        have hrg2 := ranges_block HR1.out (K1.out _ hmb1) (K1.out _ hrl)
        refine ⟨⟨_, _, f, hrg2, HINV2.out, R4'.out.keep (K1.out _ R4'.out.lt), R5'.out.keep (K1.out _ R5'.out.lt), HLO2.out f (fun _ => Nat.le_refl _) (by simp), HHI.out, K3.out⟩, ?_⟩
        rw [hrg2.left_eq, HRG.out.left_eq]
        exact hlt
      · go_wp2_with (first
          | (go_at_call 28; refine HCALL.out.mono ?_; rintro e w2 ⟨rfl, hb2⟩
             obtain ⟨k1, k2, k3⟩ := HK.out w2 hb2
             have K1 := Lib.hid k1
             have K3 := Lib.hid k3
             have r5 := R5'.out.keep (K1.out _ R5'.out.lt)
             have R5'' := Lib.hid r5
             have c1 := (r5.cell (k := d) (by rw [arr_len]; exact hd1)).trans (arr_get f hd1)
             have f1 := r5.frozen d
             rw [hs1] at k2
             clear k1 k3 hb2 r5))
        go_region
        go_wp2_with fail
        have e5 : (arr f).set d (.int .u8 (if f d < lv then (lv : Int) else (f d : Int))) = arr (upd f d (max (f d) lv)) := by
          rw [show (if f d < lv then (lv : Int) else (f d : Int)) = ((max (f d) lv : Nat) : Int) by split <;> omega, arr_set f hd1]
        have hr6 := R5''.out.store d (.int .u8 (if f d < lv then (lv : Int) else (f d : Int)))
        rw [e5] at hr6
        have hrg2 := ranges_block (w' := (w2.setCell ⟨w.heap.size + 1, d, none⟩ (.int .u8 (if f d < lv then (lv : Int) else (f d : Int)))).drew) HR1.out ((Below.heap_setCell _ _ _ _ (show mb ≠ w.heap.size + 1 by omega)).trans (K1.out _ hmb1)) ((Below.heap_setCell _ _ _ _ (show w.heap.size + 1 + 1 ≠ w.heap.size + 1 by omega)).trans (K1.out _ hrl))
        refine ⟨⟨_, _, upd f d (max (f d) lv), hrg2, HINV2.out, (R4'.out.keep (K1.out _ R4'.out.lt)).keep (Below.heap_setCell _ _ _ _ (show w.heap.size ≠ w.heap.size + 1 by omega)), hr6.keep rfl, HLO2.out _ (fun i => ?_) (fun _ => ?_), fun i => ?_, (K3.out.setCell (p := ⟨w.heap.size + 1, d, none⟩) (show w.heap.size ≤ w.heap.size + 1 by omega) _).drew⟩, ?_⟩
        · by_cases e : i = d
          · rw [e, upd_same]; exact Nat.le_max_left _ _
          · rw [upd_other _ _ e]; exact Nat.le_refl _
        · rw [upd_same]; exact Nat.le_max_right _ _
        · by_cases e : i = d
          · rw [e, upd_same]
            have h1 := HHI.out d
            have h2 := HBG.out trivial
            omega
          · rw [upd_other _ _ e]; exact HHI.out i
        · rw [hrg2.left_eq, HRG.out.left_eq]
          exact hlt
end Go.Proofs.Ytghcemfffhjmjaa
