/- DomainsRuns: stands. -/
import Derived.Test.YtghcemfffhjmjaaRSame
import Derived.Maps.AppendAt
set_option linter.unusedVariables false
namespace Go.Proofs.Ytghcemfffhjmjaa
open Go.RowKit
theorem own_set {w : World} {base g n c : Nat} {e : TypeId} {xs : List Value} (h : w.ownsRow base e 1 (.slice (some ⟨g, 0, none⟩) n c) n xs) (i : Nat) (u : Value) : (w.setCell ⟨g, i, none⟩ u).ownsRow base e 1 (.slice (some ⟨g, 0, none⟩) n c) n (xs.set i u) := by
  obtain ⟨hl, h2⟩ := h
  refine ⟨by rw [List.length_set]; exact hl, ?_⟩
  rcases h2 with ⟨h3, _⟩ | ⟨g', cap, cur, hv, hb, hg, hn, hc, hs, ht⟩
  · cases h3
  · obtain ⟨rfl, rfl⟩ : g' = g ∧ cap = c := by
      injection hv with h4 h5 h6
      injection h4 with h4
      injection h4 with h4
      exact ⟨h4.symm, h6.symm⟩
    refine .inr ⟨g', cap, cur.setIfInBounds i u, hv, hb, heap_setCell_same w g' i cur e u hg, hn, hc, by rw [Array.size_setIfInBounds]; exact hs, ?_⟩
    rw [Array.toList_setIfInBounds, List.take_set, ht]
theorem own_len {w : World} {base n c : Nat} {A : Option Addr} {e : TypeId} {xs : List Value} (h : w.ownsRow base e 1 (.slice A n c) n xs) : xs.length = n := by rw [h.1, Nat.mul_one]
section
variable {P : Program} {w : World}
theorem wpList_append_at {ops : Array Oper} {rest : List Oper} {o : Oper} {a : Act} {Q : Exit → Act → World → Prop} (hgd : o.guard = none) (s x : Operand) (t : TypeId)
    (ho : o.op = .call { callee := .builtin .append, args := #[s, x], argTypes := #[t, t] })
    (base : Nat) (e : TypeId) (i : TypeInfo) (z : Value) (size bytes : Nat) (ht : P.underlying t = some (.slice e)) (hi : P.info? e = some i) (hz : i.zero = some z)
    (hsize : i.size = size) (hby : i.bytes = bytes) (hzs : z.cells.size = size) (hsz : 0 < size)
    (v : Value) (n : Nat) (xs : List Value) (hs : a.eval s = v) (hown : w.ownsRow base e size v n xs)
    (ad : Addr) (m c : Nat) (news : List Value) (hx : a.eval x = .slice (some ad) m c) (hl : news.length = m * size) (hnews : ∀ j u, news[j]? = some u → w.cell? (ad.add j) = some u) (h1 : ∀ u ∈ news, u.oneCell' = true)
    (h63 : n + m ≤ maxLen) (hbytes : (n + m) * bytes ≤ 140737488355328) (hbase : base ≤ w.heap.size)
    (h : ∀ v' w', w'.ownsRow base e size v' (n + m) (xs ++ news) → w.grownBy w' v.ownBlock → (v'.ownBlock = v.ownBlock ∨ v'.ownBlock = some w.heap.size) → wpList P ops Q rest (a.put o.dst v') w') : wpList P ops Q (o :: rest) a w := by
  refine wpList_plain hgd fun _ hK => ?_
  obtain ⟨v', w', hrun, h2, h3, _, h4⟩ := run_append_own_at (P := P) w base t o.type e i z size bytes ht hi hz hsize hby hzs hsz v n xs hown ad m c news hl hnews h1 h63 hbytes hbase
  unfold Oper.wp execOp
  simp only [ho, resolve, invoke, builtin, Sem.run_bind, Sem.run_pure, Result.andThen_ok, List.map_toArray, List.map_cons, List.map_nil, hs, hx, hrun]
  exact hK _ _ (h v' w' h2 h3 h4)
end
theorem RNb.c0 {w : World} {B rb N : Nat} {ds : List Dm} {W : Int → Int → Nat} (h : RNb w B rb N ds W) : ∃ Ad cd, ∀ w', Below w.heap.size w w' → w'.cell? ⟨rb, 0, none⟩ = some (.slice Ad ds.length cd) := by
  obtain ⟨n, m, Ad, cd, Aw, cw, lr, wl, h1, h2, h3, h4, h5⟩ := h
  rw [← h1.n_eq h4]
  exact ⟨Ad, cd, fun w' hb => (h1.below hb).c0⟩
set_option maxRecDepth 100000 in
set_option maxHeartbeats 4000000 in
theorem stands_any {w : World} {nb mb Bp N Br rb M : Nat} {ds : List Dm} {W : Int → Int → Nat} (hn : Nb w nb mb Bp N ds W) (hr : RNb w Br rb M ds W) (hM : M ≤ 100000) :
    Calls Try.prog 33 #[.pointer (some ⟨nb, 0, none⟩), .pointer (some ⟨rb, 0, none⟩)] w fun e w' => e = .returned (.bool true) ∧ Below w.heap.size w w' := by
  have hn256 : ds.length ≤ 256 := hn.net.okd.len
  obtain ⟨on, hon⟩ : ∃ on, on = onL (lev ds W) ds.length := ⟨_, rfl⟩
  obtain ⟨k, hk⟩ : ∃ k, k = on.length := ⟨_, rfl⟩
  have hk256 : k ≤ 256 := by rw [hk, hon]; exact Nat.le_trans (onL_len _ _) hn256
  have hp : ∀ w1, Below w.heap.size w w1 → Calls Try.prog 15 #[.pointer (some ⟨nb, 0, none⟩)] w1 fun e w' => ∃ A c, e = .returned (.slice A k c) ∧ w'.ownsRow w1.heap.size 3 1 (.slice A k c) k (nats on) ∧ Below w1.heap.size w1 w' := fun w1 hb => by
    have := on_net (hn.below hb).net
    rw [← hon, ← hk] at this
    exact this
  have hq : ∀ w1, Below w.heap.size w w1 → Calls Try.prog 38 #[.pointer (some ⟨rb, 0, none⟩)] w1 fun e w' => ∃ A c, e = .returned (.slice A k c) ∧ w'.ownsRow w1.heap.size 3 1 (.slice A k c) k (nats on) ∧ Below w1.heap.size w1 w' := fun w1 hb => by
    have := ron_nb (hr.below hb) hM hn256
    rw [← hon, ← hk] at this
    exact this
  have HNB := Lib.hid hn
  have HRB := Lib.hid hr
  have HP := Lib.hid hp
  have HQ := Lib.hid hq
  have HK := Lib.hid hk
  clear hn hr hp hq hon hk
  obtain ⟨i3, e3, z30, z31, z32⟩ := info_parts Try.info3
  go_enter Try.func33, Try.ntmps33
  go_wp2_with (first
    | (go_at_call 39; refine (numbers_same A2 A3 c2 c3 on k HK.out (by omega) w4 (own_seg (own_keep HOWN2.out fun g hg => HB24.out.block g (HOWN2.out.lt g hg).2)) (own_seg (own_keep HOWN3.out fun g hg => HB34.out.block g (HOWN3.out.lt g hg).2))).mono ?_; rintro e w5 ⟨rfl, hb5⟩
       have hb35 := HB34.out.trans (hb5.mono HB34.out.size)
       have HB35 := Lib.hid hb35
       clear hb5 hb35)
    | (go_at_call 39; refine (numbers_same A1 A3 c1 c3 on k HK.out (by omega) w3 (own_seg (own_keep HOWN1.out fun g hg => HB13.out.block g (HOWN1.out.lt g hg).2)) (own_seg HOWN3.out)).mono ?_; rintro e w4 ⟨rfl, hb4⟩
       have hb24 := HB23.out.trans (hb4.mono HB23.out.size)
       have HB34 := Lib.hid hb4
       have HB24 := Lib.hid hb24
       clear hb4 hb24)
    | (go_at_call 38; refine (HQ.out w2 HB2.out).mono ?_; rintro e w3 ⟨A3, c3, rfl, hown3, hb3⟩
       have hb13 := HB12.out.trans (hb3.mono HB12.out.size)
       have hb03 := HB1.out.trans (hb13.mono HB1.out.size)
       have HOWN3 := Lib.hid hown3
       have HB3 := Lib.hid hb03
       have HB23 := Lib.hid hb3
       have HB13 := Lib.hid hb13
       clear hown3 hb3 hb13 hb03)
    | (go_at_call 15; refine (HP.out w1 HB1.out).mono ?_; rintro e w2 ⟨A2, c2, rfl, hown2, hb2⟩
       have hb02 := HB1.out.trans (hb2.mono HB1.out.size)
       have HOWN2 := Lib.hid hown2
       have HB2 := Lib.hid hb02
       have HB12 := Lib.hid hb2
       clear hown2 hb2 hb02)
    | (go_at_call 15; refine (HP.out w (Below.refl _ _)).mono ?_; rintro e w1 ⟨A1, c1, rfl, hown1, hb1⟩
       have HOWN1 := Lib.hid hown1
       have HB1 := Lib.hid hb1
       clear hown1 hb1)
    | fail)
  have s1 : w.heap.size ≤ w1.heap.size := HB1.out.size
  have s2 : w1.heap.size ≤ w2.heap.size := HB12.out.size
  have s3 : w2.heap.size ≤ w3.heap.size := HB23.out.size
  have s5 : w3.heap.size ≤ w5.heap.size := HB35.out.size
  have hb15 := HB13.out.trans (HB35.out.mono (by omega))
  have hb25 := HB23.out.trans (HB35.out.mono (by omega))
  have hb05 := HB1.out.trans (hb15.mono s1)
  have hownA := own_keep (w' := w5) HOWN1.out fun g hg => hb15.block g (HOWN1.out.lt g hg).2
  have hownB := own_keep (w' := w5) HOWN2.out fun g hg => hb25.block g (HOWN2.out.lt g hg).2
  have hownC := own_keep (w' := w5) HOWN3.out fun g hg => HB35.out.block g (HOWN3.out.lt g hg).2
  have hAl : ∀ g, (Value.slice A1 k c1).ownBlock = some g → g < w1.heap.size := fun g hg => (HOWN1.out.lt g hg).2
  have HAL := Lib.hid hAl
  have HA := Lib.hid hownA
  have HBB := Lib.hid hownB
  have HC := Lib.hid hownC
  have HB5 := Lib.hid hb05
  clear hb15 hb25 hb05 hownA hownB hownC hAl HOWN1 HOWN2 HOWN3 HB1 HB12 HB2 HB3 HB23 HB13 HB34 HB24 HB35 HP HQ
  go_loopw [8] (fun iv wr => ∃ (i : Nat) (ys : List Value), i ≤ k ∧ iv = .int .i64 i ∧ wr.ownsRow w.heap.size 3 1 (.slice A1 k c1) k ys ∧ Frame (fun j => w.heap.size ≤ j ∧ j < w1.heap.size) w5 wr) (fun iv _ => k - (intOf iv).toNat)
  case atStart => exact ⟨0, _, by omega, rfl, HA.out, Frame.refl _ _⟩
  case round =>
    obtain ⟨i, ys, hi, rfl, hown, hfr⟩ := hrel
    have HOWN := Lib.hid hown
    have HFR := Lib.hid hfr
    clear hown hfr
    by_cases hik : i < k
    · have hii : (i : Int) < (k : Int) := by omega
      obtain ⟨ga, rfl, hga1, hga2, hrow⟩ := RowAt.of_own HOWN.out (by omega)
      have hga3 := HAL.out ga rfl
      have hyl := own_len HOWN.out
      have c1' := hrow.cell (k := i) (by omega)
      rw [List.getElem?_eq_getElem (show i < ys.length by omega)] at c1'
      generalize ys[i] = yv at c1'
      have hfz := hrow.frozen i
      clear hrow
      go_wp2_with fail
      exact ⟨⟨i + 1, _, by omega, by go_num, own_set HOWN.out i _, Frame.setCell (S := fun j => w.heap.size ≤ j ∧ j < w1.heap.size) (p := ⟨ga, i, none⟩) HFR.out (fun _ => ⟨hga1, hga3⟩) _⟩, by simp [intOf]; omega⟩
    · obtain rfl : i = k := by omega
      have hws : w5.heap.size ≤ wr.heap.size := HFR.out.size
      obtain ⟨w6, rfl⟩ : ∃ w', w' = wr := ⟨wr, rfl⟩
      clear HA
      go_wp2_with fail
      go_loopw [5, 9] (fun sv iv wr => ∃ (j : Nat) (A : Option Addr) (c : Nat) (ys : List Value), j ≤ 20 ∧ iv = .int .i64 j ∧ sv = .slice A (i + j) c ∧ wr.ownsRow w.heap.size 3 1 (.slice A (i + j) c) (i + j) ys ∧ (∀ g, (Value.slice A (i + j) c).ownBlock = some g → g < w5.heap.size → g < w1.heap.size) ∧ Frame (fun j => w.heap.size ≤ j ∧ j < w1.heap.size) w5 wr) (fun _ iv _ => 20 - (intOf iv).toNat)
      case atStart => exact ⟨0, A1, c1, ys, by omega, rfl, rfl, HOWN.out, fun g hg _ => HAL.out g hg, HFR.out⟩
      case round =>
        obtain ⟨j, A, c, ys, hj, rfl, rfl, hown, hal, hfr⟩ := hrel
        clear HOWN HFR
        have HOWN := Lib.hid hown
        have HFR := Lib.hid hfr
        have HALJ := Lib.hid hal
        have hws2 : w5.heap.size ≤ wr.heap.size := hfr.size
        clear hown hfr hal
        by_cases hj20 : j < 20
        · have hji : (j : Int) < 20 := by omega
          have m1 : i + j + 1 ≤ maxLen := by unfold maxLen; omega
          have m2 : (i + j + 1) * 8 ≤ 140737488355328 := by omega
          go_wp2_with (at_builtin; refine wpList_append_at rfl (.tmp 46) (.tmp 47) 43 rfl w.heap.size 3 i3 _ 1 8 Try.underlying43 e3 z30 z31 z32 rfl (by decide) (.slice A (i + j) c) (i + j) ys rfl (World.ownsRow.alloc HOWN.out _) ⟨wr.heap.size, 0, none⟩ 1 1 [.int .i64 (-2)] rfl rfl ?_ (by simp [Value.oneCell']) m1 m2 (by rw [World.size_alloc]; omega) ?_
                       · intro q uu hq
                         obtain ⟨b', o', e', _, hcc⟩ := seg_new wr 3 #[.int .i64 (-2)] (by simp)
                         injection e' with e'
                         injection e' with e1 e2
                         subst e1 e2
                         rw [addr_add]
                         exact hcc q uu hq
                       intro v4 w8 hown4 hg4 hat4
                       obtain ⟨A4, c4, rfl⟩ := own_shape hown4
                       have hf8 : Frame (fun j => w.heap.size ≤ j ∧ j < w1.heap.size) w5 w8 := (HFR.out.alloc _).grown hg4 (fun g hg hlt => ⟨(HOWN.out.lt g hg).1, HALJ.out g hg hlt⟩)
                       have ha8 : ∀ g, (Value.slice A4 (i + j + 1) c4).ownBlock = some g → g < w5.heap.size → g < w1.heap.size := fun g hg hlt => by
                         rcases hat4 with h1 | h1
                         · rw [h1] at hg; exact HALJ.out g hg hlt
                         · rw [h1] at hg; injection hg with hg; rw [World.size_alloc] at hg; omega
                       have HOWN4 := Lib.hid hown4
                       have HF8 := Lib.hid hf8
                       have HA8 := Lib.hid ha8
                       clear hown4 hg4 hat4 hf8 ha8)
          exact ⟨⟨j + 1, A4, c4, _, by omega, by go_num, rfl, HOWN4.out, HA8.out, HF8.out⟩, by simp [intOf]; omega⟩
        · obtain rfl : j = 20 := by omega
          obtain ⟨w7, rfl⟩ : ∃ w', w' = wr := ⟨wr, rfl⟩
          have hb07 : Below w.heap.size w w7 := HB5.out.trans (HFR.out.toBelow (by omega) (fun j hj hs => by omega))
          have hsb : Seg w7 w7.heap.size A2 (nats on) := own_seg (own_keep HBB.out fun g hg => HFR.out.block g (HBB.out.lt g hg).2 (fun h => by have := (HBB.out.lt g hg).1; omega))
          have hsc : Seg w7 w7.heap.size A3 (nats on) := own_seg (own_keep HC.out fun g hg => HFR.out.block g (HC.out.lt g hg).2 (fun h => by have := (HC.out.lt g hg).1; omega))
          have hnum := numbers_same A2 A3 c2 c3 on i HK.out (by omega) w7 hsb hsc
          have HNUM := Lib.hid hnum
          have HB07 := Lib.hid hb07
          clear hb07 hsb hsc hnum HBB HC HFR HOWN HALJ HAL HB5
          have hi20 : ¬ ((i : Int) + 20 < 20) := by omega
          go_wp2_with (first
            | (go_at_call 39; refine HNUM.out.mono ?_; rintro e w8 ⟨rfl, hb8⟩
               have hb08 := HB07.out.trans (hb8.mono HB07.out.size)
               have HB08 := Lib.hid hb08
               clear hb8 hb08)
            | fail)
          have hn8 := HNB.out.below HB08.out
          have hr8 := HRB.out.below HB08.out
          have hws8 := HB08.out.size
          obtain ⟨Ad, cd, hc0⟩ := hr8.c0
          have HN8 := Lib.hid hn8
          have HR8 := Lib.hid hr8
          have HC0 := Lib.hid hc0
          clear hn8 hr8 hc0 HNUM HB07
          obtain ⟨n, hn⟩ : ∃ n, n = ds.length := ⟨_, rfl⟩
          rw [← hn] at HC0 hn256
          have HN := Lib.hid hn
          clear hn
          go_loopw [10] (fun iv wr => ∃ q : Nat, q ≤ n + 2 ∧ iv = .int .i64 ((q : Int) - 1) ∧ Below w8.heap.size w8 wr) (fun iv _ => n + 2 - (intOf iv + 1).toNat)
          case atStart => exact ⟨0, by omega, rfl, Below.refl _ _⟩
          case round =>
            obtain ⟨q, hq, rfl, hb9⟩ := hrel
            have HB9 := Lib.hid hb9
            have k0 := HC0.out wr hb9
            clear hb9
            obtain ⟨d, hd⟩ : ∃ d : Int, d = (q : Int) - 1 := ⟨_, rfl⟩
            rw [← hd]
            have hdm : -1 ≤ d := by omega
            by_cases hdn : d ≤ (n : Int)
            · have hnx : d + 1 = ((q + 1 : Nat) : Int) - 1 := by omega
              have HNX := Lib.hid hnx
              have HD := Lib.hid hd
              have hq1 : q + 1 ≤ n + 2 := by omega
              clear hnx hd
              by_cases h0 : levelAt ds W d = 0
              · have h1 := rwhy_zero (HR8.out.below HB9.out) hM h0
                have h2 := fun w10 (hb : Below wr.heap.size wr w10) => why_zero ((HN8.out.below HB9.out).below hb).net h0
                have h3 := fun w10 (hb : Below wr.heap.size wr w10) => level_net ((HN8.out.below HB9.out).below hb).net d
                have h4 := fun w10 (hb : Below wr.heap.size wr w10) => rlevel_nb ((HR8.out.below HB9.out).below hb) hM d
                rw [h0] at h3 h4
                have H1 := Lib.hid h1
                have H2 := Lib.hid h2
                have H3 := Lib.hid h3
                have H4 := Lib.hid h4
                clear h0 h1 h2 h3 h4
                go_wp2_with (first
                  | (go_at_call 41; refine (H4.out w10 HB10.out).mono ?_; rintro e w11 ⟨rfl, hb11⟩
                     have hb11' := HB10.out.trans (hb11.mono HB10.out.size)
                     have HB11 := Lib.hid hb11'
                     clear hb11 hb11')
                  | (go_at_call 13; refine (H3.out w10 HB10.out).mono ?_; rintro e w11 ⟨rfl, rfl⟩)
                  | (go_at_call 18; refine (H2.out w10 HB10.out).mono ?_; rintro e w11 ⟨rfl, rfl⟩)
                  | (go_at_call 40; refine H1.out.mono ?_; rintro e w10 ⟨rfl, hb10⟩; have HB10 := Lib.hid hb10; clear hb10)
                  | fail)
                exact ⟨⟨q + 1, hq1, by rw [← HNX.out], HB9.out.trans (HB11.out.mono HB9.out.size)⟩, by simp [intOf]; omega⟩
              · have hin : 0 ≤ d ∧ d < (ds.length : Int) := by
                  unfold levelAt at h0
                  split at h0
                  · assumption
                  · exact absurd rfl h0
                obtain ⟨d, rfl⟩ : ∃ d' : Nat, d = d' := ⟨d.toNat, (Int.toNat_of_nonneg hin.1).symm⟩
                have hdl : d < ds.length := by have := hin.2; omega
                have hlv : levelAt ds W (d : Int) = lev ds W d := by unfold levelAt; rw [if_pos hin, Int.toNat_natCast]
                rw [hlv] at h0
                have h1 := rwhy_nb (HR8.out.below HB9.out) hM hdl (by omega)
                have h2 := fun w10 (hb : Below wr.heap.size wr w10) => why_net ((HN8.out.below HB9.out).below hb).net hdl (by omega)
                have h3 := fun w10 (hb : Below wr.heap.size wr w10) => level_net ((HN8.out.below HB9.out).below hb).net (d : Int)
                have h4 := fun w10 (hb : Below wr.heap.size wr w10) => rlevel_nb ((HR8.out.below HB9.out).below hb) hM (d : Int)
                rw [hlv] at h3 h4
                generalize lev ds W d = v at h3 h4
                have H1 := Lib.hid h1
                have H2 := Lib.hid h2
                have H3 := Lib.hid h3
                have H4 := Lib.hid h4
                clear h0 h1 h2 h3 h4 hlv hin hdl
                go_wp2_with (first
                  | (go_at_call 41; refine (H4.out w11 HB11.out).mono ?_; rintro e w12 ⟨rfl, hb12⟩
                     have hb12' := HB11.out.trans (hb12.mono HB11.out.size)
                     have HB12 := Lib.hid hb12'
                     clear hb12 hb12')
                  | (go_at_call 13; refine (H3.out w11 HB11.out).mono ?_; rintro e w12 ⟨rfl, rfl⟩)
                  | (go_at_call 18; refine (H2.out w10 HB10.out).mono ?_; rintro e w11 ⟨u2, a2, rfl, hwy2, hb11⟩
                     obtain ⟨rfl, rfl⟩ := why_unique HWY.out hwy2
                     have hb11' := HB10.out.trans (hb11.mono HB10.out.size)
                     have HB11 := Lib.hid hb11'
                     clear hb11 hb11' hwy2)
                  | (go_at_call 40; refine H1.out.mono ?_; rintro e w10 ⟨u1, a1, rfl, hwy, hb10⟩; have HB10 := Lib.hid hb10; have HWY := Lib.hid hwy; clear hb10 hwy)
                  | fail)
                exact ⟨⟨q + 1, hq1, by rw [← HNX.out], HB9.out.trans (HB12.out.mono HB9.out.size)⟩, by simp [intOf]; omega⟩
            · go_wp2_with fail
              go_ret
              exact ⟨by rfl, HB08.out.trans (HB9.out.mono HB08.out.size)⟩
end Go.Proofs.Ytghcemfffhjmjaa
