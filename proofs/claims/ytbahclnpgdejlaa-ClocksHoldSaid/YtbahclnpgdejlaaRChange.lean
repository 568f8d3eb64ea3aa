/- The document's change: the contract. -/
import Derived.Test.YtbahclnpgdejlaaRTurns
import Derived.Test.YtbahclnpgdejlaaRRound
import Derived.Test.YtbahclnpgdejlaaSet
import Derived.Deep.RegionLaw
set_option linter.unusedVariables false
namespace Go.Proofs.Ytbahclnpgdejlaa
open Go.RowKit
theorem step_append_seg {P : Program} {w : World} {ops : Array Oper} {o : Oper} {a : Act} {K : Act → World → Prop} {Q : Exit → Act → World → Prop} {E : Prop} (hgd : o.guard = none) (s x : Operand) (t : TypeId)
    (ho : o.op = .call { callee := .builtin .append, args := #[s, x], argTypes := #[t, t] })
    (base : Nat) (e : TypeId) (i : TypeInfo) (z : Value) (size bytes : Nat) (ht : P.underlying t = some (.slice e)) (hi : P.info? e = some i) (hz : i.zero = some z)
    (hsize : i.size = size) (hby : i.bytes = bytes) (hzs : z.cells.size = size) (hsz : 0 < size)
    (v : Value) (n : Nat) (xs : List Value) (hs : a.eval s = v) (hown : w.ownsRow base e size v n xs)
    (B : Nat) (A : Option Addr) (m c : Nat) (news : List Value) (hx : a.eval x = .slice A m c) (hl : news.length = m * size) (hr : Seg w B A news) (h1 : ∀ u ∈ news, u.oneCell' = true)
    (h63 : n + m ≤ maxLen) (hbytes : (n + m) * bytes ≤ 140737488355328) (hbase : base ≤ w.heap.size)
    (h : ∀ v' w', w'.ownsRow base e size v' (n + m) (xs ++ news) → w.grownBy w' v.ownBlock → (v' = .slice none 0 0 → v = .slice none 0 0) → K (a.put o.dst v') w') :
    if Region.wanted o (yielded ops a.tmps) = true then Oper.wp P o a w K Q else E := by
  have hw : Region.wanted o (yielded ops a.tmps) = true := by simp [Region.wanted, hgd]
  rw [if_pos hw]
  obtain ⟨v', w', hrun, h2, h3, h4⟩ := run_append_seg (P := P) w base t o.type e i z size bytes ht hi hz hsize hby hzs hsz v n xs hown B A m c news hl hr h1 h63 hbytes hbase
  unfold Oper.wp execOp
  simp only [ho, resolve, invoke, builtin, Sem.run_bind, Sem.run_pure, Result.andThen_ok, List.map_toArray, List.map_cons, List.map_nil, hs, hx, hrun]
  exact h v' w' h2 h3 h4
theorem Try.info111 : (Try.prog.info? 111).map (fun i => (i.zero, i.size, i.bytes)) = some (some (.agg #[.int .i64 0, .int .i64 0, .int .i64 0]), 3, 24) := by kernel_rfl
theorem chgCells_snoc (t : List (Nat × Int × Int)) (x : Nat × Int × Int) : chgCells (t ++ [x]) = chgCells t ++ [.int .i64 (x.1 : Int), .int .i64 x.2.1, .int .i64 x.2.2] := by simp [chgCells]
theorem capOk_iff {l : List Clk} (hg : Good l) (n : Nat) (hn : n = l.length) : capOk l n = true ↔ ∀ j, j < n → fitsAt l j = true := by
  subst hn
  rw [← cap_all hg l.length (Nat.le_refl _)]
  simp [capOk, List.all_eq_true]
theorem rchange_rate {w : World} {B rb n : Nat} {Al Au A' : Option Addr} {cl cu c' : Nat} {l l' : List Clk} {us : List Int} (h : RNet w B rb n Al Au cl cu l us) (hg : Good l) (hg' : Good l') (hl : n = l'.length) (hn5 : n ≤ 512)
    (hs : Seg w w.heap.size A' (clkCells l')) (hbad : capOk l' n = false) :
    Calls Try.prog 51 #[.pointer (some ⟨rb, 0, none⟩), .slice A' n c'] w fun e w' => e = .returned (.tuple #[.slice none 0 0, .int .i64 181]) ∧ Below w.heap.size w w' := by
  have c0 := h.c0
  have hr1 := rates_any Al cl l n h.len hg w w.heap.size (Nat.le_refl _) h.vl.seg (by omega)
  have hr2 := fun w1 (hb : Below w.heap.size w w1) => rates_any A' c' l' n hl hg' w1 w.heap.size hb.size (hs.below hb) (by omega)
  have HR1 := Lib.hid hr1
  have HR2 := Lib.hid hr2
  have HBAD := Lib.hid hbad
  clear hr1 hr2 hbad hg hg' hl h hs
  go_enter Try.func51, Try.ntmps51
  go_wp2_with (first
    | (go_at_call 33; refine HR1.out.mono ?_; rintro e w2 ⟨A1, c1, rfl, _, hb1⟩; have HB1 := Lib.hid hb1; clear hb1 HR1)
    | (go_at_call 33; refine (HR2.out _ HB1.out).mono ?_; rintro e w3 ⟨A2, c2, rfl, _, hb2⟩; have HB2 := Lib.hid (HB1.out.trans (hb2.mono HB1.out.size)); clear hb2; rw [HBAD.out]))
  go_ret2
  exact ⟨rfl, HB2.out⟩
/-- A net whose clocks alone are others. -/
theorem rnet_clocks {w w' : World} {B rb n : Nat} {Al Au A' : Option Addr} {cl cu c' : Nat} {l l' : List Clk} {us : List Int} (h : RNet w B rb n Al Au cl cu l us) (hb : Below w.heap.size w w') (hl : n = l'.length) (hv : Vec w B A' 81 (clkCells l')) :
    RNet (w'.setCell ⟨rb, 0, none⟩ (.slice A' n c')) B rb n A' Au c' cu l' us := by
  have h' := h.below hb
  have h1 := heap_setCell_same w' rb 0 _ 87 (.slice A' n c') h'.box
  have keepv : ∀ A e xs, e ≠ 87 → Vec w' B A e xs → Vec (w'.setCell ⟨rb, 0, none⟩ (.slice A' n c')) B A e xs := fun A e xs he hv hx => by
    obtain ⟨g, ha, hb, hrg⟩ := hv hx
    refine ⟨g, ha, hb, hrg.keep (Below.heap_setCell _ _ _ _ ?_)⟩
    rintro rfl
    obtain ⟨cur, hh, _⟩ := hrg
    have hx := h'.box
    rw [hh] at hx
    injection hx with hx
    injection hx with _ ht
    exact he ht
  exact ⟨h.low, hl, h.lenu, by simpa using h1, keepv _ _ _ (by decide) (hv.below hb), keepv _ _ _ (by decide) h'.vu⟩
/-- What the document's change answers, all rates being in their ends. -/
def ChangeSays (w : World) (B rb n : Nat) (Au A' : Option Addr) (cu c' : Nat) (l' : List Clk) (us rs hs : List Int) (e : Ending) (w' : World) : Prop :=
  ((∃ j, j < n ∧ busyAt l' rs (ratesOf l') hs j = true) ∧ e = .returned (.tuple #[.slice none 0 0, .int .i64 182]) ∧ Below w.heap.size w w') ∨
  ((∀ j, j < n → busyAt l' rs (ratesOf l') hs j = false) ∧ ∃ A c, e = .returned (.tuple #[.slice A (chg rs (ratesOf l') n).length c, .int .i64 0]) ∧
    w'.ownsRow w.heap.size 111 3 (.slice A (chg rs (ratesOf l') n).length c) (chg rs (ratesOf l') n).length (chgCells (chg rs (ratesOf l') n)) ∧
    RNet w' B rb n A' Au c' cu l' us ∧ Frame (fun j => j = rb) w w')
set_option maxRecDepth 100000 in
set_option maxHeartbeats 4000000 in
theorem rchange_any {w : World} {B rb n : Nat} {Al Au A' : Option Addr} {cl cu c' : Nat} {l l' : List Clk} {us rs hs : List Int} (h : RNet w B rb n Al Au cl cu l us) (hg : Good l) (hg' : Good l') (hl : n = l'.length) (hn5 : n ≤ 512) (hrs : capRates l = rs)
    (hb : Bal l (fun j => us.getD j 0) hs) (hu : ∀ j, 0 ≤ us.getD j 0) (hv : Vec w B A' 81 (clkCells l')) (hfit : ∀ j, j < n → fitsAt l' j = true) :
    Calls Try.prog 51 #[.pointer (some ⟨rb, 0, none⟩), .slice A' n c'] w (ChangeSays w B rb n Au A' cu c' l' us rs hs) := by
  have c0 := h.c0
  have hlen := h.len
  have hr1 := rates_any Al cl l n h.len hg w w.heap.size (Nat.le_refl _) h.vl.seg (by omega)
  have hr2 := fun w1 (hb : Below w.heap.size w w1) => rates_any A' c' l' n hl hg' w1 w.heap.size hb.size (hv.seg.below hb) (by omega)
  have hon := fun w1 (hbw : Below w.heap.size w w1) => ron_any (h.below hbw) hg hn5 hb hu
  have hok := (capOk_iff hg' n hl).2 hfit
  have hcr : capRates l' = ratesOf l' := cap_rates hg' (by rw [← hl]; exact hfit)
  have hrl : rs.length = n := by rw [← hrs, capRates_len, hlen]
  have hrl' : (ratesOf l').length = n := by rw [ratesOf_len, hl]
  have hrb := h.lt
  have HR1 := Lib.hid hr1
  have HR2 := Lib.hid hr2
  have HOK := Lib.hid hok
  have HCR := Lib.hid hcr
  have HRS := Lib.hid hrs
  have HON := Lib.hid hon
  have HRL := Lib.hid hrl
  have HRL' := Lib.hid hrl'
  have HH := Lib.hid h
  have HL := Lib.hid hl
  have HLEN := Lib.hid hlen
  have HV := Lib.hid hv
  clear hr1 hr2 hok hcr hrs hon hrl hrl' h hg hg' hb hu hfit hl hv hlen
  obtain ⟨i0, fi, fz0, fz1, fz2⟩ := info_parts Try.info111
  go_enter Try.func51, Try.ntmps51
  go_wp2_with (first
    | (go_at_call 33; refine HR1.out.mono ?_; rintro e w2 ⟨A1, c1, rfl, hown1, hb1⟩; have HB1 := Lib.hid hb1; have HO1 := Lib.hid hown1; clear hb1 HR1 hown1)
    | (go_at_call 33; refine (HR2.out _ HB1.out).mono ?_; rintro e w3 ⟨A2, c2, rfl, hown2, hb2⟩; have HB2 := Lib.hid (HB1.out.trans (hb2.mono HB1.out.size)); have HBX := Lib.hid hb2; have HO2 := Lib.hid hown2; clear hb2 hown2; rw [HOK.out])
    | (go_at_call 42; refine (HON.out _ HB2.out).mono ?_; rintro e w4 ⟨rfl, hrow3, hb3⟩; have HB3 := Lib.hid hb3; have HO3 := Lib.hid hrow3; clear hb3 hrow3))
  have hs1 : Seg w4 w4.heap.size A1 (i64s rs) := by rw [← HRS.out]; exact (((own_seg HO1.out).below HBX.out).below (HB3.out.mono HBX.out.size)).more (Nat.le_trans HBX.out.size HB3.out.size)
  have hs2 : Seg w4 w4.heap.size A2 (i64s (ratesOf l')) := by rw [← HCR.out]; exact ((own_seg HO2.out).below HB3.out).more HB3.out.size
  have hb4 : Below w.heap.size w w4 := HB2.out.trans (HB3.out.mono HB2.out.size)
  have hs3 : Seg w4 w4.heap.size A' (clkCells l') := ((HV.out.seg).below hb4).more hb4.size
  have HB4 := Lib.hid hb4
  have HS1 := Lib.hid hs1
  have HS2 := Lib.hid hs2
  have HS3 := Lib.hid hs3
  clear hs1 hs2 hs3 hb4 HON HR2 HO1 HO2 HOK
  have hgl : w3.heap.size < w4.heap.size := HO3.out.lt
  go_loopw [11, 12] (fun o i wr => ∃ k : Nat, k ≤ n ∧ i = .int .i64 k ∧ (∃ A c, o = .slice A (chg rs (ratesOf l') k).length c) ∧ wr.ownsRow w4.heap.size 111 3 o (chg rs (ratesOf l') k).length (chgCells (chg rs (ratesOf l') k)) ∧ Below w4.heap.size w4 wr ∧ ∀ j, j < k → busyAt l' rs (ratesOf l') hs j = false) (fun _ i _ => n - (intOf i).toNat)
  case atStart => exact ⟨0, by omega, rfl, ⟨none, 0, rfl⟩, World.ownsRow_nil _ _ _ _, Below.refl _ _, by omega⟩
  case round =>
    obtain ⟨k, hk, rfl, ⟨Ao, co, rfl⟩, hown, hb5, hbu⟩ := hrel
    have HO := Lib.hid hown
    have HB5 := Lib.hid hb5
    have HBU := Lib.hid hbu
    have hcl := chg_len rs (ratesOf l') k
    clear hown hb5 hbu
    by_cases hlt : k < n
    · have hkl : k < l'.length := by rw [← HL.out]; exact hlt
      obtain ⟨b1, o1, rfl, z1, x1⟩ := (HS1.out.below HB5.out).i64 (k := k) (by rw [HRL.out]; exact hlt)
      obtain ⟨b2, o2, rfl, z2, x2⟩ := (HS2.out.below HB5.out).i64 (k := k) (by rw [HRL'.out]; exact hlt)
      obtain ⟨b3, o3, rfl, _, _, _, _, _, _, _, x3⟩ := (HS3.out.below HB5.out).clk hkl
      have x4 := bools_at ((HO3.out.below HB5.out)) (k := k) (by rw [onL_len, ← HLEN.out]; exact hlt)
      have hon : (onL l hs 0).getD k false = decide (0 < hs.getD k 0) := by
        rw [List.getD, onL_get _ _ _ _ (by rw [← HLEN.out]; exact hlt)]
        simp [onB]
      have hst : steadyAt l' k = l'[k].steady := by simp [steadyAt, hkl]
      have ha : rs.getD k 0 = rs[k]'(by rw [HRL.out]; exact hlt) := by simp [List.getD, HRL.out, hlt]
      have hb : (ratesOf l').getD k 0 = (ratesOf l')[k]'(by rw [HRL'.out]; exact hlt) := by simp [List.getD, HRL'.out, hlt]
      rw [hon] at x4
      rw [← hst] at x3
      rw [← ha] at x1
      rw [← hb] at x2
      have hchg : chg rs (ratesOf l') (k + 1) = if rs.getD k 0 = (ratesOf l').getD k 0 then chg rs (ratesOf l') k else chg rs (ratesOf l') k ++ [(k, rs.getD k 0, (ratesOf l').getD k 0)] := rfl
      have hbusy : busyAt l' rs (ratesOf l') hs k = (!(rs.getD k 0 == (ratesOf l').getD k 0) && decide (0 < hs.getD k 0) && steadyAt l' k) := rfl
      have hki : (k : Int) < (n : Int) := by omega
      clear hon hst ha hb
      generalize rs.getD k 0 = a at *
      generalize (ratesOf l').getD k 0 = b at *
      generalize hs.getD k 0 = z at *
      generalize steadyAt l' k = y at *
      have HC := Lib.hid hchg
      have HBY := Lib.hid hbusy
      clear hchg hbusy
      by_cases hab : a = b
      · have e1 : (a == b) = true := by simpa using hab
        have hc2 : chg rs (ratesOf l') (k + 1) = chg rs (ratesOf l') k := HC.out.trans (if_pos hab)
        have hb2 : busyAt l' rs (ratesOf l') hs k = false := by rw [HBY.out, e1]; rfl
        have HC2 := Lib.hid hc2
        have HB2' := Lib.hid hb2
        clear hab hc2 hb2 HC HBY
        go_wp2_with fail
        go_quiet (fail)
        go_wp2
        go_roundw
        case rel => exact ⟨k + 1, by omega, by go_num, ⟨Ao, co, by rw [HC2.out]⟩, by rw [HC2.out]; exact HO.out, below_drewN HB5.out _, fun j hj => if e : j = k then by rw [e]; exact HB2'.out else HBU.out j (by omega)⟩
        case measure => simp [intOf]; omega
      · have e1 : (a == b) = false := by simpa using hab
        have hc2 : chg rs (ratesOf l') (k + 1) = chg rs (ratesOf l') k ++ [(k, a, b)] := HC.out.trans (if_neg hab)
        have HC2 := Lib.hid hc2
        clear hab hc2 HC
        by_cases hzy : 0 < z ∧ y = true
        · obtain ⟨hz, rfl⟩ := hzy
          have hb2 : busyAt l' rs (ratesOf l') hs k = true := by rw [HBY.out, e1]; simp [hz]
          have HB2' := Lib.hid hb2
          clear hb2 HBY HC2
          go_wp2_with fail
          go_quiet (fail)
          go_wp2
          go_ret2
          exact .inl ⟨⟨k, hlt, HB2'.out⟩, rfl, HB4.out.trans ((below_drewN HB5.out _).mono HB4.out.size)⟩
        · have hb2 : busyAt l' rs (ratesOf l') hs k = false := by
            rw [HBY.out, e1]
            rcases y with _ | _
            · simp
            · simp at hzy ⊢; omega
          have HB2' := Lib.hid hb2
          have hzy2 : (0 < z ∧ y = false) ∨ z ≤ 0 := by
            rcases y with _ | _
            · by_cases hz : 0 < z
              · exact .inl ⟨hz, rfl⟩
              · right; omega
            · right; simp at hzy; exact hzy
          clear hb2 HBY hzy
          have m1 : ∀ u ∈ [Value.int .i64 (k : Int), .int .i64 a, .int .i64 b], u.oneCell' = true := by intro u hu; simp at hu; rcases hu with rfl | rfl | rfl <;> rfl
          have m2 : (chg rs (ratesOf l') k).length + 1 ≤ maxLen := by unfold maxLen; omega
          have m3 : ((chg rs (ratesOf l') k).length + 1) * 24 ≤ 140737488355328 := by omega
          have m4 : ∀ o, w4.heap.size ≤ (wr.alloc o).heap.size := fun o => by have := HB5.out.size; simp; omega
          have m4 := m4 (.cells #[.int .i64 k, .int .i64 a, .int .i64 b] 111)
          have y3 : ∀ e : some b1 = (Value.slice Ao (chg rs (ratesOf l') k).length co).ownBlock, False := fun e => by have := (HO.out.lt b1 e.symm).1; omega
          have y4 : ∀ e : some b2 = (Value.slice Ao (chg rs (ratesOf l') k).length co).ownBlock, False := fun e => by have := (HO.out.lt b2 e.symm).1; omega
          have y1 : b1 < wr.heap.size := Nat.lt_of_lt_of_le z1 HB5.out.size
          have y2 : b2 < wr.heap.size := Nat.lt_of_lt_of_le z2 HB5.out.size
          rcases hzy2 with ⟨hz, rfl⟩ | hz
          all_goals
            go_wp2_with fail
            go_quiet (fail)
            go_wp2_with fail
            go_region_held3 (fun W => W.cell? ⟨b1, o1 + k, none⟩ = some (.int .i64 a) ∧ W.cell? ⟨b2, o2 + k, none⟩ = some (.int .i64 b)) (first | exact ⟨x1, x2⟩ | exact ⟨(World.cell?_alloc_lt _ _ _ (by exact y1)).trans x1, (World.cell?_alloc_lt _ _ _ (by exact y2)).trans x2⟩ | exact ⟨(World.cell?_of_block (hg3.block b1 (by simp; omega) y3)).trans ((World.cell?_alloc_lt _ _ _ (by exact y1)).trans x1), (World.cell?_of_block (hg3.block b2 (by simp; omega) y4)).trans ((World.cell?_alloc_lt _ _ _ (by exact y2)).trans x2)⟩) (first
              | (refine step_append_seg rfl (.tmp 56) (.tmp 67) 92 rfl w4.heap.size 111 i0 _ 3 24 Try.underlying92 fi fz0 fz1 fz2 rfl (by decide) (.slice Ao (chg rs (ratesOf l') k).length co) _ (chgCells (chg rs (ratesOf l') k)) (by simp [Act.eval]) (World.ownsRow.alloc (w := _) (by exact HO.out) _) (wr.heap.size + 1) (some ⟨wr.heap.size, 0, none⟩) 1 1 [.int .i64 k, .int .i64 a, .int .i64 b] (by simp [Act.eval]) rfl (by exact seg_new _ 111 #[.int .i64 k, .int .i64 a, .int .i64 b]) m1 m2 m3 m4 ?_; intro v3 w3 hown3 hg3 _)
              | fail)
            obtain ⟨A3, c3, rfl⟩ := own_shape hown3
            have hb6 : Below w4.heap.size w4 w3 := ((below_drewN HB5.out (nq + 1)).alloc HB5.out.size _).grown hg3 (by have := HB5.out.size; simp; omega) (fun g hg => by have := (HO.out.lt g hg).1; omega)
            have ht : chgCells (chg rs (ratesOf l') k) ++ [.int .i64 (k : Int), .int .i64 a, .int .i64 b] = chgCells (chg rs (ratesOf l') (k + 1)) := by rw [HC2.out, chgCells_snoc]
            have hl2 : (chg rs (ratesOf l') k).length + 1 = (chg rs (ratesOf l') (k + 1)).length := by rw [HC2.out]; simp
            rw [ht, hl2] at hown3
            have H3 := Lib.hid hown3
            have H6 := Lib.hid hb6
            have HL3 := Lib.hid hl2
            clear hown3 hb6 hg3 ht hl2 m1 m2 m3 m4 y1 y2 y3 y4
            go_wp2
            go_roundw
            case rel => exact ⟨k + 1, by omega, by go_num, ⟨A3, c3, by rw [HL3.out]⟩, by rw [HL3.out]; exact H3.out, H6.out, fun j hj => if e : j = k then by rw [e]; exact HB2'.out else HBU.out j (by omega)⟩
            case measure => simp [intOf]; omega
    · obtain rfl : k = n := by omega
      have hbw : Below w.heap.size w wr := HB4.out.trans (HB5.out.mono HB4.out.size)
      have hnet := rnet_clocks (c' := c') HH.out hbw HL.out HV.out
      have hfz := frozen_of_row wr rb 0 _ _ ((HH.out.below hbw).box)
      have hc := (HH.out.below hbw).c0
      have hfr : Frame (fun j => j = rb) w (wr.setCell ⟨rb, 0, none⟩ (.slice A' k c')) := (Frame.of_below (S := fun j => j = rb) hbw).setCell (p := ⟨rb, 0, none⟩) (fun _ => rfl) _
      have hown2 := own_base (ownsRow_setCell_below HO.out (a := ⟨rb, 0, none⟩) (by show rb < _; have := HB4.out.size; omega) (.slice A' k c')) (base' := w.heap.size) HB4.out.size
      have HN := Lib.hid hnet
      have HFR := Lib.hid hfr
      have HOW := Lib.hid hown2
      clear hbw hnet hfr hown2
      go_wp2
      go_ret2
      exact .inr ⟨HBU.out, Ao, co, rfl, HOW.out, HN.out, HFR.out⟩
end Go.Proofs.Ytbahclnpgdejlaa
