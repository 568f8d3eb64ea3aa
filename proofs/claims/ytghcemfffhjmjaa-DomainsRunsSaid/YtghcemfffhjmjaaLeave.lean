/- Leave and On: contracts. -/
import Derived.Test.YtghcemfffhjmjaaNets
import Derived.Deep.RegionHeld3
set_option linter.unusedVariables false
namespace Go.Proofs.Ytghcemfffhjmjaa
open Go.RowKit
/-- What is wanted when a user leaves. -/
def leaveW (W : Int → Int → Nat) (u : Int) : Int → Int → Nat := fun a b => if a = u then 0 else W a b
def leaveK (W : Int → Int → Nat) (u : Int) (k : Nat) : Int → Int → Nat := fun a b => if a = u ∧ 0 ≤ b ∧ b < (k : Int) then 0 else W a b
theorem leaveK_zero (W : Int → Int → Nat) (u : Int) : leaveK W u 0 = W := by
  funext a b
  unfold leaveK
  rw [if_neg (by omega)]
theorem leaveK_succ (W : Int → Int → Nat) (u : Int) (k : Nat) : updW (leaveK W u k) u k 0 = leaveK W u (k + 1) := by
  funext a b
  unfold updW leaveK
  by_cases h : a = u
  · by_cases h2 : b = k
    · rw [if_pos ⟨h, h2⟩, if_pos ⟨h, by omega, by omega⟩]
    · rw [if_neg (fun x => h2 x.2)]
      by_cases h3 : 0 ≤ b ∧ b < (k : Int)
      · rw [if_pos ⟨h, h3⟩, if_pos ⟨h, by omega, by omega⟩]
      · rw [if_neg (fun x => h3 x.2), if_neg (by omega)]
  · rw [if_neg (fun x => h x.1), if_neg (fun x => h x.1), if_neg (fun x => h x.1)]
theorem leaveK_end {n : Nat} {W : Int → Int → Nat} (h : Fitw n W) (u : Int) : leaveK W u n = leaveW W u := by
  funext a b
  unfold leaveK leaveW
  by_cases h1 : a = u
  · rw [if_pos h1]
    by_cases h2 : 0 ≤ b ∧ b < (n : Int)
    · rw [if_pos ⟨h1, h2⟩]
    · rw [if_neg (fun x => h2 x.2)]
      by_cases h3 : W a b = 0
      · exact h3
      · obtain ⟨u', d', e1, e2, _, h4⟩ := h.zero a b h3
        omega
  · rw [if_neg (fun x => h1 x.1), if_neg h1]
theorem Fitw.left {n : Nat} {W : Int → Int → Nat} (h : Fitw n W) (u : Int) : Fitw n (leaveW W u) := by
  refine ⟨fun a b hne => h.zero a b fun e => hne ?_, fun a b => ?_⟩
  · unfold leaveW; split
    · rfl
    · exact e
  · unfold leaveW; split
    · omega
    · exact h.le a b
theorem leave_le (W : Int → Int → Nat) (u a b : Int) : leaveW W u a b ≤ W a b := by
  unfold leaveW; split
  · omega
  · exact Nat.le_refl _
theorem base_leave (W : Int → Int → Nat) (u : Nat) : baseF W (fun a b => !decide (a = (u : Int))) = bs (leaveW W u) := by
  funext d
  refine Nat.le_antisymm (base_le fun u' hu' hk => ?_) (base_le fun u' hu' _ => ?_)
  · have hne : ¬ (u' : Int) = u := by simpa using hk
    have := base_ge (leaveW W u) (fun _ _ => true) (u := u') (d := d) hu' rfl
    unfold leaveW at this
    rw [if_neg hne] at this
    exact this
  · unfold leaveW
    by_cases hne : (u' : Int) = u
    · rw [if_pos hne]; omega
    · rw [if_neg hne]
      exact base_ge W (fun a b => !decide (a = (u : Int))) (u := u') (d := d) hu' (by simp [hne])
set_option maxRecDepth 100000 in
set_option maxHeartbeats 4000000 in
theorem leave_any {w : World} {nb mb N n : Nat} {Ad : Option Addr} {cd : Nat} {l : List Dmm} {W : Int → Int → Nat} {f : Nat → Nat} (h : NetAt w nb mb N n Ad cd l W f) (hok : Okd (dsOf l)) (hW : Fitw n W) {u : Nat} (hu : u < 1024) :
    Calls Try.prog 14 #[.pointer (some ⟨nb, 0, none⟩), .int .i64 (u : Int)] w fun e w' => ∃ A c, e = .returned (.tuple #[.slice A (chgs f (lev (dsOf l) (leaveW W u)) n).length c, .int .i64 0]) ∧
        w'.ownsRow w.heap.size 40 3 (.slice A (chgs f (lev (dsOf l) (leaveW W u)) n).length c) (chgs f (lev (dsOf l) (leaveW W u)) n).length (chCells (chgs f (lev (dsOf l) (leaveW W u)) n)) ∧
        NetAt w' nb mb N n Ad cd l (leaveW W u) (lev (dsOf l) (leaveW W u)) ∧ Frame (fun j => j = nb ∨ j = mb) w w' := by
  have hz := zero60
  have hnb := h.lt
  have hlen := h.len
  have hn256 : n ≤ 256 := by have := hok.len; rw [ds_len] at this; omega
  have hH : ∀ w1, Below w.heap.size w w1 → NetAt w1 nb mb N n Ad cd l W f := fun w1 hb => h.below hb
  have c0 := h.c0
  have hb1 : Below w.heap.size w (w.alloc (.cells #[.int .i64 (u : Int)] 3)) := (Below.refl _ _).alloc (Nat.le_refl _) _
  have hat : RowAt (w.alloc (.cells #[.int .i64 (u : Int)] 3)) w.heap.size 3 [.int .i64 (u : Int)] := ⟨_, heap_alloc_new _ _, rfl⟩
  have hrk := reckon28 (.pointer (some ⟨w.heap.size, 0, none⟩)) (fun a b => !decide (a = (u : Int))) nb mb N Ad n cd l hlen hok W hW (w.alloc (.cells #[.int .i64 (u : Int)] 3)) w.heap.size (by simp) (by simp; omega) (hH _ hb1).c0 (hH _ hb1).c1 (h.doms.below hb1) (hH _ hb1).wants
    (fun w1 a b ha hb hbe => by
      have hat1 := hat.keep (hbe.block w.heap.size (by simp))
      exact leave1_any a b u ha (by omega) hu w.heap.size w1 hat1.lt (hat1.cell (k := 0) (by simp)))
  rw [base_leave] at hrk
  obtain ⟨G, hG⟩ : ∃ G, G = lev (dsOf l) (leaveW W u) := ⟨_, rfl⟩
  rw [show settle (dsOf l) (bs (leaveW W u)) = G from hG.symm] at hrk
  rw [← hG]
  have hcc := hat.cell (k := 0) (by simp)
  have HR := Lib.hid hrk
  have HG := Lib.hid hG
  have HH := Lib.hid hH
  have HD := Lib.hid h
  have HAT := Lib.hid hat
  have HB1 := Lib.hid hb1
  have HFW := Lib.hid hW
  clear h hH hrk hat hb1 hok hW hG
  have HLEN := Lib.hid hlen
  clear hlen
  have hi1 : (u : Int) < 1024 := by omega
  have hi0 : (0 : Int) ≤ (u : Int) := by omega
  generalize hzz : (arr fun _ => 0).toArray = Z at hz
  go_enter Try.func14, Try.ntmps14
  go_wp2_with (first
    | (go_at_call 24; refine HR.out.mono ?_; rintro e w2 ⟨rfl, hb2⟩
       have hth := (fill60 w2 hzz G).1
       have hbw : Below w.heap.size w w2 := HB1.out.trans (hb2.mono HB1.out.size)
       have hat2 := HAT.out.keep (hb2.block _ HAT.out.lt)
       have HTH := Lib.hid hth
       have HBW := Lib.hid hbw
       have HAT2 := Lib.hid hat2
       clear hth hbw hat2 hb2)
    | (guard_target = wpList Try.prog _ _ ({ dst := none, op := Op.store 60 _ _, type := _, pos := _, after := _, guard := _ } :: _) _ _; refine wpList_store_mid rfl 60 (.tmp 6) (.tmp 20) rfl w2.heap.size 0 (arr G).toArray rfl rfl HTH.out (size60' _) (arr_one _) ?_
       have r1 := (fill60 w2 hzz G).2
       have hb5 := below_setCells (arr G) 0 _ (HBW.out.alloc HBW.out.size (.cells Z 60)) HBW.out.size
       have hat5 : RowAt ((w2.alloc (.cells Z 60)).setCells w2.heap.size 0 (arr G)) w.heap.size 3 [.int .i64 (u : Int)] := HAT2.out.keep ((setCells_heap _ _ _ _ (by have := HAT2.out.lt; omega)).trans (Below.heap_alloc _ _ _ HAT2.out.lt))
       have hlt5 : w2.heap.size < ((w2.alloc (.cells Z 60)).setCells w2.heap.size 0 (arr G)).heap.size := r1.lt
       rw [show (arr G).toArray.toList = arr G from rfl]
       generalize (w2.alloc (.cells Z 60)).setCells w2.heap.size 0 (arr G) = w5 at r1 hb5 hat5 hlt5 ⊢
       have hg2 := HAT2.out.lt
       have hbs := HBW.out.size
       generalize w2.heap.size = g at r1 hlt5 hg2 hbs ⊢
       have c5 := (HH.out _ hb5).c0
       have R5 := Lib.hid r1
       have HB5 := Lib.hid hb5
       have HAT5 := Lib.hid hat5
       clear r1 hb5 hat5 HTH HBW HAT2)
    | fail)
  have hw0 : NetAt w5 nb mb N n Ad cd l (leaveK W u 0) f := by rw [leaveK_zero]; exact HH.out _ HB5.out
  have HW0 := Lib.hid hw0
  clear hw0
  have hlow := HD.out.low
  go_loopw [26] (fun iv wr => ∃ k : Nat, k ≤ n ∧ iv = .int .i64 k ∧ NetAt wr nb mb N n Ad cd l (leaveK W u k) f ∧ RowAt wr g 60 (arr G) ∧ RowAt wr w.heap.size 3 [.int .i64 (u : Int)] ∧ Frame (fun j => j = mb) w wr) (fun iv _ => n - (intOf iv).toNat)
  case atStart => exact ⟨0, by omega, rfl, HW0.out, R5.out, HAT5.out, ⟨HB5.out.os, HB5.out.tape, HB5.out.output, HB5.out.size, fun j hj _ => HB5.out.block j hj⟩⟩
  case round =>
    obtain ⟨k, hk, rfl, hnk, hr, hat, hf⟩ := hrel
    clear c5
    have c1 := hnk.c1
    have t0 := hat.cell (k := 0) (by simp)
    simp only [List.getElem?_cons_zero] at t0
    have HNK := Lib.hid hnk
    have R := Lib.hid hr
    have AT := Lib.hid hat
    have HF := Lib.hid hf
    clear hnk hr hat hf HW0 R5 HAT5 HB5
    by_cases hkn : k < n
    · have hki : (k : Int) < (n : Int) := by omega
      go_wp2_with fail
      refine still_tail 7 (by kernel_rfl) (by kernel_rfl) ?_
      simp only [List.take_succ_cons, List.take_zero, List.drop_succ_cons, List.drop_zero]
      repeat still_step
      try refine wpStill_nil ?_
      go_wp2_with (at_delete; refine wpList_del rfl (.tmp 32) (.tmp 35) rfl (W := leaveK W u k) (n := n) (N := N) (mb := mb) HNK.out.wants hu (d := k) (by omega) rfl rfl ?_; intro w9 hw9' hg9'
                   have hw9 : WantsAt w9 mb N n (leaveK W u (k + 1)) := by rw [leaveK_succ] at hw9'; exact hw9'
                   have hg9 := undrew hg9'
                   have hn9 : NetAt w9 nb mb N n Ad cd l (leaveK W u (k + 1)) f := HNK.out.wanted hg9 hw9
                   have hr9 := R.out.keep (hg9.block g R.out.lt (by have := HD.out.lt; simp; omega))
                   have hat9 := AT.out.keep (hg9.block w.heap.size AT.out.lt (by have := HD.out.lt; simp; omega))
                   have hf9 : Frame (fun j => j = mb) w w9 := HF.out.grown hg9 (fun j e _ => by injection e with e; exact e.symm)
                   have HN9 := Lib.hid hn9
                   have HR9 := Lib.hid hr9
                   have HA9 := Lib.hid hat9
                   have HF9 := Lib.hid hf9
                   clear hw9 hw9' hg9 hg9' hn9 hr9 hat9 hf9)
      exact ⟨⟨k + 1, by omega, by go_num, HN9.out, HR9.out, HA9.out, HF9.out⟩, by simp [intOf]; omega⟩
    · obtain rfl : k = n := by omega
      have htn := turn_any HNK.out hn256 G
      have HTN := Lib.hid htn
      clear htn
      have hend := leaveK_end HFW.out u
      have HE := Lib.hid hend
      clear hend
      go_wp2_with (first
        | (guard_target = wpList Try.prog _ _ ({ dst := _, op := Op.load 60 (.tmp 6), type := _, pos := _, after := _, guard := _ } :: _) _ _; refine wpList_load_mid rfl 60 (.tmp 6) rfl g 0 rfl (arr G) _ (row_range R.out) Try.underlying60 rfl (size60 _) ?_)
        | (go_at_call 27; refine HTN.out.mono ?_; rintro e w10 ⟨A, c, rfl, ho, hn10, hf10⟩; have HO10 := Lib.hid ho; have HN10 := Lib.hid hn10; have HF10 := Lib.hid hf10; clear ho hn10 hf10))
      go_ret2
      have hn10 := HN10.out
      rw [HE.out] at hn10
      exact ⟨A, c, by rfl, own_base HO10.out HF.out.size, hn10, (HF.out.mono fun i _ h => .inr h).next HF10.out (fun i _ h => .inl h)⟩
theorem leave_arg {w : World} {nb : Nat} {u : Int} (hu : u < 0 ∨ 1024 ≤ u) : Calls Try.prog 14 #[.pointer (some ⟨nb, 0, none⟩), .int .i64 u] w fun e w' => e = .returned (.tuple #[.slice none 0 0, .int .i64 1]) ∧ Below w.heap.size w w' := by
  by_cases h1 : u < 0
  · go_enter Try.func14, Try.ntmps14
    go_wp2_with fail
    go_ret2
    exact ⟨by rfl, (Below.refl _ _).alloc (Nat.le_refl _) _⟩
  · have h2 : 1024 ≤ u := by omega
    go_enter Try.func14, Try.ntmps14
    go_wp2_with fail
    go_ret2
    exact ⟨by rfl, (Below.refl _ _).alloc (Nat.le_refl _) _⟩
theorem ups_same (f : Nat → Nat) : ∀ k, ups f f k = []
  | 0 => rfl
  | k + 1 => by unfold ups; rw [if_neg (by omega)]; exact ups_same f k
theorem dns_same (f : Nat → Nat) (n : Nat) : ∀ m, dns f f n [] m = []
  | 0 => rfl
  | m + 1 => by unfold dns; rw [if_neg (by omega)]; exact dns_same f n m
theorem chgs_same (f : Nat → Nat) (n : Nat) : chgs f f n = [] := by unfold chgs; rw [ups_same, dns_same]
theorem leaveW_out {n : Nat} {W : Int → Int → Nat} (h : Fitw n W) {u : Int} (hu : u < 0 ∨ 1024 ≤ u) : leaveW W u = W := by
  funext a b
  unfold leaveW
  by_cases h1 : a = u
  · rw [if_pos h1]
    by_cases h3 : W a b = 0
    · exact h3.symm
    · obtain ⟨u', d', e1, e2, h4, _⟩ := h.zero a b h3
      omega
  · rw [if_neg h1]
noncomputable def leaveE (u : Int) : Int := open Classical in if 0 ≤ u ∧ u < 1024 then 0 else 1
def leaveC (ds : List Dm) (W : Int → Int → Nat) (u : Int) : List (Nat × Nat × Nat) := chgs (lev ds W) (lev ds (leaveW W u)) ds.length
theorem lev_mono' {ds : List Dm} (hok : Okd ds) {W W' : Int → Int → Nat} (h : ∀ a b, W a b ≤ W' a b) (i : Nat) : lev ds W i ≤ lev ds W' i :=
  settle_mono hok (fun j => base_le fun u hu hk => Nat.le_trans (h u j) (base_ge W' (fun _ _ => true) hu hk)) i
theorem leave_net {w : World} {nb mb N : Nat} {ds : List Dm} {W : Int → Int → Nat} (h : IsNet w nb mb N ds W) (u : Int) :
    Calls Try.prog 14 #[.pointer (some ⟨nb, 0, none⟩), .int .i64 u] w fun e w' => ∃ A c, e = .returned (.tuple #[.slice A (leaveC ds W u).length c, .int .i64 (leaveE u)]) ∧
      w'.ownsRow w.heap.size 40 3 (.slice A (leaveC ds W u).length c) (leaveC ds W u).length (chCells (leaveC ds W u)) ∧ IsNet w' nb mb N ds (leaveW W u) ∧ Frame (fun j => j = nb ∨ j = mb) w w' := by
  obtain ⟨N', Ad, cd, ls, h1, h2, h3, h4, h5, h6⟩ := h
  by_cases hin : 0 ≤ u ∧ u < 1024
  · obtain ⟨u', rfl⟩ : ∃ u' : Nat, u = u' := ⟨u.toNat, (Int.toNat_of_nonneg hin.1).symm⟩
    have he : leaveE u' = 0 := by unfold leaveE; rw [if_pos hin]
    refine (leave_any h2 (by rw [h3]; exact h4) h5 (u := u') (by omega)).mono ?_
    rintro e w' ⟨A, c, rfl, ho, hn, hf⟩
    rw [h3] at ho hn ⊢
    rw [he]
    exact ⟨A, c, rfl, ho, ⟨N', Ad, cd, ls, h1, hn, h3, h4, h5.left u', fun i hi => Nat.le_trans (lev_mono' h4 (leave_le W u') i) (h6 i hi)⟩, hf⟩
  · have he : leaveE u = 1 := by unfold leaveE; rw [if_neg hin]
    have hw := leaveW_out h5 (u := u) (by omega)
    have hc : leaveC ds W u = [] := by unfold leaveC; rw [hw, chgs_same]
    rw [he, hw, hc]
    refine (leave_arg (nb := nb) (u := u) (by omega)).mono ?_
    rintro e w' ⟨rfl, hb⟩
    exact ⟨none, 0, rfl, World.ownsRow_nil _ _ _ _, ⟨N', Ad, cd, ls, h1, h2.below hb, h3, h4, h5, h6⟩, Frame.of_below hb⟩
/-- The domains that are on, of the first k. -/
def onL (f : Nat → Nat) : Nat → List Nat
  | 0 => []
  | k + 1 => if 0 < f k then onL f k ++ [k] else onL f k
theorem onL_len (f : Nat → Nat) : ∀ k, (onL f k).length ≤ k
  | 0 => Nat.le_refl _
  | k + 1 => by have := onL_len f k; unfold onL; split <;> simp <;> omega
set_option maxRecDepth 100000 in
set_option maxHeartbeats 4000000 in
theorem on_any {w : World} {nb mb N n : Nat} {Ad : Option Addr} {cd : Nat} {l : List Dmm} {W : Int → Int → Nat} {f : Nat → Nat} (h : NetAt w nb mb N n Ad cd l W f) (hn : n ≤ 256) :
    Calls Try.prog 15 #[.pointer (some ⟨nb, 0, none⟩)] w fun e w' => ∃ A c, e = .returned (.slice A (onL f n).length c) ∧ w'.ownsRow w.heap.size 3 1 (.slice A (onL f n).length c) (onL f n).length (nats (onL f n)) ∧ Below w.heap.size w w' := by
  have c0 := h.c0
  have hlv : ∀ w1, Below w.heap.size w w1 → ∀ d, d < 256 → w1.cell? ⟨nb, 2 + d, none⟩ = some (.int .u8 (f d)) := fun w1 hb d hd => (hb.cell (p := ⟨nb, 2 + d, none⟩) h.lt).trans (h.lv hd)
  have LV := Lib.hid hlv
  clear hlv h
  obtain ⟨i3, e3, z30, z31, z32⟩ := info_parts Try.info3
  go_enter Try.func15, Try.ntmps15
  go_wp2_with fail
  go_loopw [3, 12] (fun sv iv wr => ∃ (k : Nat) (A : Option Addr) (c : Nat), k ≤ n ∧ iv = .int .i64 k ∧ sv = .slice A (onL f k).length c ∧ wr.ownsRow w.heap.size 3 1 (.slice A (onL f k).length c) (onL f k).length (nats (onL f k)) ∧ Below w.heap.size w wr) (fun _ iv _ => n - (intOf iv).toNat)
  case atStart => exact ⟨0, none, 0, by omega, rfl, rfl, World.ownsRow_nil _ _ _ _, Below.refl _ _⟩
  case round =>
    obtain ⟨k, A, c, hk, rfl, rfl, hown, hb⟩ := hrel
    have HOWN := Lib.hid hown
    have HB := Lib.hid hb
    clear hown hb c0
    by_cases hkn : k < n
    · have hki : (k : Int) < (n : Int) := by omega
      have hk2 : (k : Int) < 256 := by omega
      have c2 := LV.out _ HB.out k (by omega)
      have hln := onL_len f k
      have e1 : onL f (k + 1) = if 0 < f k then onL f k ++ [k] else onL f k := rfl
      obtain ⟨q, hq⟩ : ∃ q, q = f k := ⟨_, rfl⟩
      rw [← hq] at c2 e1
      have E1 := Lib.hid e1
      clear hq e1
      by_cases hp : 0 < q
      · have hpi : (0 : Int) < (q : Int) := by omega
        have E2 := Lib.hid (E1.out.trans (if_pos hp))
        obtain ⟨x, hx⟩ : ∃ x, x = onL f k := ⟨_, rfl⟩
        have ho := HOWN.out
        have e2 := E2.out
        rw [← hx] at ho e2 hln ⊢
        have HO := Lib.hid ho
        have EE := Lib.hid e2
        clear ho e2 hx HOWN E1 E2
        have m1 : x.length + 1 ≤ maxLen := by unfold maxLen; omega
        have m2 : (x.length + 1) * 8 ≤ 140737488355328 := by omega
        have m3 : w.heap.size ≤ wr.heap.size + 1 := by have := HB.out.size; omega
        go_wp2_with (at_builtin; refine wpList_append_seg _ rfl (.tmp 22) (.tmp 24) 43 rfl w.heap.size 3 i3 _ 1 8 Try.underlying43 e3 z30 z31 z32 rfl (by decide) (.slice A x.length c) x.length (nats x) rfl (World.ownsRow.alloc HO.out _) (wr.heap.size + 1) (some ⟨wr.heap.size, 0, none⟩) 1 1 [.int .i64 (k : Int)] rfl rfl (seg_new _ 3 #[.int .i64 (k : Int)]) (by simp [Value.oneCell']) m1 m2 (by rw [World.size_alloc]; exact m3) ?_
                     intro v4 w8 hown4 hg4 _
                     obtain ⟨A4, c4, rfl⟩ := own_shape hown4
                     have hb8 : Below w.heap.size w w8 := (HB.out.alloc HB.out.size _).grown hg4 (by rw [World.size_alloc]; exact m3) (fun g hg => (HO.out.lt g hg).1)
                     have hnn : nats x ++ [.int .i64 (k : Int)] = nats (onL f (k + 1)) := by rw [EE.out]; simp [nats]
                     have hll : x.length + 1 = (onL f (k + 1)).length := by rw [EE.out]; simp
                     rw [hnn, hll] at hown4
                     have HOWN4 := Lib.hid hown4
                     have HB8 := Lib.hid hb8
                     have HLL := Lib.hid hll
                     clear hown4 hg4 hb8 hnn hll)
        exact ⟨⟨k + 1, A4, c4, by omega, by go_num, by rw [HLL.out], HOWN4.out, HB8.out⟩, by simp [intOf]; omega⟩
      · have hpi : ¬ (0 : Int) < (q : Int) := by omega
        have E2 := Lib.hid (E1.out.trans (if_neg hp))
        go_wp2_with fail
        exact ⟨⟨k + 1, A, c, by omega, by go_num, by rw [E2.out], by rw [E2.out]; exact HOWN.out, HB.out⟩, by simp [intOf]; omega⟩
    · obtain rfl : k = n := by omega
      go_wp2_with fail
      go_ret
      exact ⟨A, c, by rfl, HOWN.out, HB.out⟩
theorem on_net {w : World} {nb mb N : Nat} {ds : List Dm} {W : Int → Int → Nat} (h : IsNet w nb mb N ds W) :
    Calls Try.prog 15 #[.pointer (some ⟨nb, 0, none⟩)] w fun e w' => ∃ A c, e = .returned (.slice A (onL (lev ds W) ds.length).length c) ∧ w'.ownsRow w.heap.size 3 1 (.slice A (onL (lev ds W) ds.length).length c) (onL (lev ds W) ds.length).length (nats (onL (lev ds W) ds.length)) ∧ Below w.heap.size w w' := by
  obtain ⟨N', Ad, cd, ls, h1, h2, h3, h4, h5, h6⟩ := h
  exact on_any h2 h4.len
end Go.Proofs.Ytghcemfffhjmjaa
