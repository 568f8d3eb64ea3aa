/- The walk of WordsColumns. -/
import Derived.Test.YtfipljhlponcoaaDoorColM
import Derived.Maps.AppendAt
import Derived.RegionTactic
import Derived.StillTailTactics
set_option linter.unusedVariables false
namespace Go.Proofs.YtfipljhlponcoaaDoor
open Go.RowKit
def errN (R : Option (List (List Nat))) : Int := if R.isSome then 0 else 1
theorem ColRet.any {base : Nat} {R : Option (List (List Nat))} {e : Ending} {w' : World} (h : ColRet base R e w') : ∃ A c ts, e = .returned (.tuple #[.slice A ts.length c, .int .i64 (errN R)]) ∧ w'.ownsRow base 9 1 (.slice A ts.length c) ts.length (sV ts) ∧ ts.map nl = R.getD [] := by
  cases R with
  | none => exact ⟨none, 0, [], h, World.ownsRow_nil _ _ _ _, rfl⟩
  | some ls => exact h
/-- All blocks of w but those from lo to hi are as they were. -/
def Fr (lo hi : Nat) (w w' : World) : Prop := w.heap.size ≤ w'.heap.size ∧ ∀ g, g < w.heap.size → ¬ (lo ≤ g ∧ g < hi) → w'.heap[g]? = w.heap[g]?
theorem Fr.refl (lo hi : Nat) (w : World) : Fr lo hi w w := ⟨Nat.le_refl _, fun _ _ _ => rfl⟩
theorem Fr.drewN {lo hi : Nat} {w w' : World} (h : Fr lo hi w w') (q : Nat) : Fr lo hi w (w'.drewN q) := h
theorem Fr.grown {lo hi : Nat} {w w' w3 : World} {v : Value} (h : Fr lo hi w w') (hg : w'.grownBy w3 v.ownBlock) (hv : ∀ g, v.ownBlock = some g → (lo ≤ g ∧ g < hi) ∨ w.heap.size ≤ g) : Fr lo hi w w3 := by
  refine ⟨Nat.le_trans h.1 hg.size, fun g hlt hn => ?_⟩
  rw [hg.block g (Nat.lt_of_lt_of_le hlt h.1) (fun e => ?_), h.2 g hlt hn]
  rcases hv g e.symm with h1 | h1
  · exact hn h1
  · omega
theorem Fr.alloc {lo hi : Nat} {w w' : World} (h : Fr lo hi w w') (o : Obj) : Fr lo hi w (w'.alloc o) :=
  ⟨by rw [World.size_alloc]; have := h.1; omega, fun g hlt hn => by rw [Below.heap_alloc _ _ _ (Nat.lt_of_lt_of_le hlt h.1), h.2 g hlt hn]⟩
theorem Fr.setCell {lo hi : Nat} {w w' : World} (h : Fr lo hi w w') {g k : Nat} (hg : lo ≤ g ∧ g < hi) (v : Value) : Fr lo hi w (w'.setCell ⟨g, k, none⟩ v) := by
  refine ⟨by rw [World.size_setCell]; exact h.1, fun g' hlt hn => ?_⟩
  rw [Below.heap_setCell _ _ _ _ (fun e => hn (by have e2 : g' = g := e; omega)), h.2 g' hlt hn]
theorem Fr.seg {lo hi : Nat} {w w' : World} {B : Nat} {A : Option Addr} {xs : List Value} (h : Fr lo hi w w') (hs : Seg w B A xs) (hB : B ≤ w.heap.size) (hlo : B ≤ lo) : Seg w' B A xs :=
  hs.keep fun p hp => World.cell?_of_block (h.2 p.block (by omega) (by omega))
theorem Fr.own {lo hi : Nat} {w w' : World} {base size n : Nat} {e : TypeId} {v : Value} {xs : List Value} (h : Fr lo hi w w') (ho : w.ownsRow base e size v n xs) (hb : ∀ g, v.ownBlock = some g → ¬ (lo ≤ g ∧ g < hi)) : w'.ownsRow base e size v n xs :=
  own_keep2 ho fun g hg hlt => h.2 g hlt (hb g hg)
theorem same_eq {a b : List ByteArray} (h : a.map nl = b.map nl) : sameT a b = true := by unfold sameT; rw [decide_eq_true_iff]; exact h
theorem info3 : (Tryd.prog.info? 3).map (fun i => (i.zero, i.size, i.bytes)) = some (some (.int .i64 0), 1, 8) := by kernel_rfl
theorem tdat_eq {l l' : List Tx} (h : l'.map Tx.ts = l.map Tx.ts) : tdat l' = tdat l := by
  have : ∀ l : List Tx, tdat l = (l.map Tx.ts).map fun ts => ts.map nl := fun l => by simp [tdat]
  rw [this, this, h]
theorem sized_eq {l l' : List Tx} (h : l'.map Tx.ts = l.map Tx.ts) (hz : TSized l) : TSized l' := by
  have hl := congrArg List.length h
  rw [List.length_map, List.length_map] at hl
  have hm : ∀ x ∈ l', ∃ y ∈ l, x.ts = y.ts := fun x hx => by
    have : x.ts ∈ l'.map Tx.ts := List.mem_map_of_mem hx
    rw [h] at this
    obtain ⟨y, hy, e⟩ := List.mem_map.1 this
    exact ⟨y, hy, e.symm⟩
  refine ⟨by rw [hl]; exact hz.n, fun x hx => ?_, fun x hx => ?_⟩
  · obtain ⟨y, hy, e⟩ := hm x hx; rw [e]; exact hz.rows y hy
  · obtain ⟨y, hy, e⟩ := hm x hx; rw [e]; exact hz.texts y hy
theorem OwnS.cellR {w : World} {base n c : Nat} {A : Option Addr} {l : List Tx} (h : OwnS w base A n c l) {k : Nat} (hk : k < l.length) : ∃ go, A = some ⟨go, 0, none⟩ ∧ base ≤ go ∧ go < w.heap.size ∧ w.cell? ⟨go, k, none⟩ = some (.slice l[k].A l[k].ts.length l[k].c) := by
  obtain ⟨go, rfl, h1, h2⟩ := own_head h.row (by have := h.len; omega)
  refine ⟨go, rfl, h1, h2, ?_⟩
  rw [h.row.cellAt k (by have := h.len; omega)]
  simp [txCells, hk, Tx.val]
theorem OwnS.setInt {w : World} {base n c b3 m c3 g j : Nat} {A : Option Addr} {l : List Tx} {xs : List Value} (h : OwnS w base A n c l) (hi : w.ownsRow b3 3 1 (.slice (some ⟨g, 0, none⟩) m c3) m xs) (v : Value) : OwnS (w.setCell ⟨g, j, none⟩ v) base A n c l :=
  ⟨h.len, own_keep2 h.row fun g' hg' _ => Below.heap_setCell _ _ _ _ (by intro e; subst e; exact own_types h.row hi (by decide) _ hg' rfl),
    fun x hx => own_keep2 (h.rows x hx) fun g' hg' _ => Below.heap_setCell _ _ _ _ (by intro e; subst e; exact own_types (h.rows x hx) hi (by decide) _ hg' rfl), h.apart⟩
theorem ints_set {w : World} {base n c b3 m c3 g j k : Nat} {A A3 : Option Addr} {l : List Tx} {xs : List Value} (h : OwnS w base A n c l) (hk : k < l.length) (hA : l[k].A = some ⟨g, 0, none⟩) (hi : w.ownsRow b3 3 1 (.slice A3 m c3) m xs) (v : Value) : (w.setCell ⟨g, j, none⟩ v).ownsRow b3 3 1 (.slice A3 m c3) m xs :=
  own_keep2 hi fun g' hg' _ => Below.heap_setCell _ _ _ _ (by
    intro e
    subst e
    exact own_types hi (h.rows l[k] (List.getElem_mem hk)) (by decide) _ hg' (by unfold Tx.val; rw [hA]; rfl))
/-- Where row k is being lengthened, text by text. -/
def Mid (l l3 : List Tx) (k j : Nat) : Prop := l3.length = l.length ∧ TSized l3 ∧ (∀ i (h : i < l3.length) (h' : i < l.length), k < i → l3[i].ts = l[i].ts) ∧ ∀ (h : k < l3.length) (h' : k < l.length), l3[k].ts.length = l[k].ts.length ∧ ∀ i (hi : i < l3[k].ts.length), j ≤ i → l3[k].ts[i].size ≤ 1048574
theorem Mid.start {l l2 : List Tx} {k : Nat} (h1 : l2.length = l.length) (h2 : TSized l2) (h3 : ∀ i (h : i < l2.length) (h' : i < l.length), k ≤ i → l2[i].ts = l[i].ts) (hz : ∀ x ∈ l, ∀ t ∈ x.ts, t.size ≤ 1048574) : Mid l l2 k 0 := by
  refine ⟨h1, h2, fun i h h' hi => h3 i h h' (by omega), fun h h' => ?_⟩
  have e := h3 k h h' (Nat.le_refl _)
  refine ⟨by rw [e], fun i hi _ => ?_⟩
  have h4 : l2[k].ts[i] ∈ l[k].ts := by rw [← e]; exact List.getElem_mem hi
  exact hz l[k] (List.getElem_mem h') _ h4
theorem Mid.step {l l3 : List Tx} {k j : Nat} (h : Mid l l3 k j) (hk : k < l3.length) (hj : j < l3[k].ts.length) {s : ByteArray} (hs : s.size ≤ 1048576) : Mid l (l3.set k (l3[k].setT j s)) k (j + 1) := by
  obtain ⟨h1, h2, h3, h4⟩ := h
  have hk' : k < l.length := by omega
  refine ⟨by rw [List.length_set]; exact h1, ⟨by rw [List.length_set]; exact h2.n, ?_, ?_⟩, ?_, ?_⟩
  · intro x hx
    rcases List.mem_or_eq_of_mem_set hx with hx | rfl
    · exact h2.rows x hx
    · show (l3[k].ts.set j s).length ≤ _
      rw [List.length_set]
      exact h2.rows _ (List.getElem_mem hk)
  · intro x hx t ht
    rcases List.mem_or_eq_of_mem_set hx with hx | rfl
    · exact h2.texts x hx t ht
    · rcases List.mem_or_eq_of_mem_set (show t ∈ l3[k].ts.set j s from ht) with ht | rfl
      · exact h2.texts _ (List.getElem_mem hk) t ht
      · exact hs
  · intro i hi hi' hik
    rw [List.getElem_set_ne (by omega)]
    exact h3 i (by rw [List.length_set] at hi; exact hi) hi' hik
  · intro _ _
    simp only [List.getElem_set_self]
    obtain ⟨h5, h6⟩ := h4 hk hk'
    refine ⟨by show (l3[k].ts.set j s).length = _; rw [List.length_set]; exact h5, fun i hi hij => ?_⟩
    have hi2 : i < l3[k].ts.length := by have : i < (l3[k].ts.set j s).length := hi; rwa [List.length_set] at this
    have e : (l3[k].setT j s).ts[i]'hi = l3[k].ts[i] := List.getElem_set_ne (show j ≠ i by omega) _
    rw [e]
    exact h6 i hi2 (by omega)
theorem same_yes {W : World} {A A' : Option Addr} {c c' : Nat} {ts ts' : List ByteArray} {B B' : Nat} (h : ts.map nl = ts'.map nl) (hl : ts.length ≤ 1048576) (h1 : Seg W B A (sV ts)) (h2 : Seg W B' A' (sV ts')) :
    Calls Tryd.prog 19 #[.slice A ts.length c, .slice A' ts'.length c'] W fun e w' => e = .returned (.bool true) ∧ ∃ q, w' = W.drewN q := by
  have := same_any A c ts.length ts rfl A' c' ts'.length ts' rfl (by omega) W B B' h1 h2
  rw [same_eq h] at this
  exact this
theorem cols_len {l : List Tx} {ws : List Int} (h : l.length ≤ 1048576) : ((colsF (tdat l) ws).getD []).length ≤ 1048576 := by
  unfold colsF
  split
  · simp [tdat_len]; exact h
  · simp
set_option maxRecDepth 100000 in
set_option maxHeartbeats 16000000 in
theorem columns_walk (A : Option Addr) (c n : Nat) (l : List Tx) (hn : n = l.length) (hz : TSized l) (hz2 : ∀ x ∈ l, ∀ t ∈ x.ts, t.size ≤ 1048574) (Aw : Option Addr) (cw m : Nat) (ws : List Int) (hm : m = ws.length) (hmb : m ≤ 1048576) (w : World) (hr : Rowz w w.heap.size A l) (hw : Seg w w.heap.size Aw (ints ws)) :
    Calls Tryd.prog 4 #[.slice A n c, .slice Aw m cw] w fun e w' => e = .returned (.bool true) ∧ Below w.heap.size w w' := by
  obtain ⟨i0, fi, fz0, fz1, fz2⟩ := info_parts info9'
  obtain ⟨i3, gi, gz0, gz1, gz2⟩ := info_parts info3
  have HCE := Lib.hid (cells_any A c n l hn hz w w.heap.size (Nat.le_refl _) hr)
  have HRC := Lib.hid fun (W : World) (hb : Below w.heap.size w W) => rcols_any A c n l hn hz Aw cw m ws hm hmb W w.heap.size hb.size (hr.below hb) (hw.below hb)
  have HPC := Lib.hid fun (W : World) (A1 : Option Addr) (c1 : Nat) (l1 : List Tx) (A2 : Option Addr) (c2 : Nat) (h1 : n = l1.length) (h2 : l1.map Tx.ts = l.map Tx.ts) (B : Nat) (hB : B ≤ W.heap.size) (h3 : Rowz W B A1 l1) (h4 : Seg W B A2 (ints ws)) => (by
    have := pcols_any A1 c1 n l1 h1 (sized_eq h2 hz) A2 c2 m ws hm hmb W B hB h3 h4
    rw [tdat_eq h2] at this
    exact this : Calls Tryd.prog 18 #[.slice A1 n c1, .slice A2 m c2] W fun e w' => ColRet W.heap.size (colsF (tdat l) ws) e w' ∧ Below W.heap.size W w')
  have hrl := cols_len (ws := ws) hz.n
  obtain ⟨R, hR⟩ : ∃ R, colsF (tdat l) ws = R := ⟨_, rfl⟩
  rw [hR] at HRC HPC hrl
  have HRL := Lib.hid hrl
  obtain ⟨E, hE⟩ : ∃ E, errN R = E := ⟨_, rfl⟩
  have HN := Lib.hid hn
  have HM := Lib.hid hm
  have HZ := Lib.hid hz
  have HZ2 := Lib.hid hz2
  have HR := Lib.hid hr
  have HW := Lib.hid hw
  have HE := Lib.hid hE
  have hn2 : (n : Int) ≤ 1048576 := by have := hz.n; omega
  have hm2 : (m : Int) ≤ 1048576 := by omega
  have M1 := Lib.hid (show 0 + m ≤ maxLen by unfold maxLen; omega)
  have M2 := Lib.hid (show (0 + m) * 8 ≤ 140737488355328 by omega)
  clear hn hm hr hw hz hz2 hR hE hrl
  go_enter Tryd.func4, Tryd.ntmps4
  go_wp2_with (first
    | (go_at_call 17; refine (HRC.out _ B3.out).mono ?_; rintro e w4 ⟨hc4, hb4⟩; obtain ⟨A4, c4, t4, rfl, ho4, hd4⟩ := ColRet.any hc4; rw [HE.out]
       have OS4 := Lib.hid (OwnS.below OS3.out hb4); have OI4 := Lib.hid (own_below OI3.out hb4); have SW4 := Lib.hid (own_seg ho4); have DW := Lib.hid hd4; have B4 := Lib.hid (B3.out.trans (hb4.mono B3.out.size))
       clear hc4 hb4 ho4 hd4)
    | (go_at_call 16; refine HCE.out.mono ?_; rintro e w1 ⟨A1, c1, l1, rfl, hd1, ho1, hb1⟩
       have OE := Lib.hid (own_empty w1 w.heap.size 3 1 w1.heap.size rfl hb1.size); have OS1 := Lib.hid ho1; have HL1 := Lib.hid ho1.len; have HD1 := Lib.hid hd1; have B1 := Lib.hid hb1; have hs1 := hb1.size; have SW1 := Lib.hid (HW.out.below hb1); clear hd1 ho1 hb1)
    | (at_builtin; refine wpList_append_seg _ rfl (.tmp 21) (.tmp 22) 31 rfl w.heap.size 3 i3 _ 1 8 Tryd.underlying31 gi gz0 gz1 gz2 rfl (by decide) (.slice (some ⟨w1.heap.size, 0, none⟩) 0 0) 0 [] rfl OE.out w.heap.size Aw m cw (ints ws) rfl (by rw [ints_len, Nat.mul_one]; exact HM.out.symm) (SW1.out.alloc hs1 _) (ints_one ws) M1.out M2.out (by rw [World.size_alloc]; omega) ?_
       intro v3 w3 hown3 hg3 _
       rw [Nat.zero_add, List.nil_append] at hown3
       have hb3 : Below w1.heap.size w1 w3 := ((Below.refl _ w1).alloc (Nat.le_refl _) _).grown hg3 (by simp) (fun g hg => Nat.le_of_eq (Option.some.inj hg))
       obtain ⟨A2, c2, rfl⟩ := own_shape hown3
       have OI3 := Lib.hid hown3; have OS3 := Lib.hid (OwnS.below OS1.out hb3); have B3 := Lib.hid (B1.out.trans (hb3.mono hs1)); clear hown3 hg3 hb3)
    | (fail))
  refine (HPC.out _ A1 c1 l1 A2 c2 HL1.out HD1.out _ (Nat.le_refl _) (OwnS.rowz OS4.out) (own_seg OI4.out)).mono ?_
  rintro e w5 ⟨hc5, hb5⟩
  obtain ⟨Aa, ca, ta, rfl, hoa, hda⟩ := ColRet.any hc5
  rw [HE.out]
  have OA5 := Lib.hid hoa
  have OS5 := Lib.hid (OwnS.below OS4.out hb5)
  have OI5 := Lib.hid (own_below OI4.out hb5)
  have SW5 := Lib.hid (SW4.out.below hb5)
  have DA := Lib.hid hda
  have LA := Lib.hid (show ta.length ≤ 1048576 from by have h1 := congrArg List.length hda; rw [List.length_map] at h1; rw [h1]; exact HRL.out)
  have B5 := Lib.hid (B4.out.trans (hb5.mono B4.out.size))
  have HS5 := Lib.hid hb5.size
  have BB5 := Lib.hid hb5
  clear hc5 hb5 hoa hda
  go_wp2_with (fail)
  refine (HPC.out _ A1 c1 l1 A2 c2 HL1.out HD1.out _ (Nat.le_refl _) (OwnS.rowz OS5.out) (own_seg OI5.out)).mono ?_
  rintro e w6 ⟨hc6, hb6⟩
  obtain ⟨Ab, cb, tb, rfl, hob, hdb⟩ := ColRet.any hc6
  rw [HE.out]
  have OB6 := Lib.hid hob
  have OA6 := Lib.hid (own_below OA5.out hb6)
  have OS6 := Lib.hid (OwnS.below OS5.out hb6)
  have OI6 := Lib.hid (own_below OI5.out hb6)
  have SW6 := Lib.hid (SW5.out.below (hb6.mono HS5.out))
  have DB := Lib.hid hdb
  have LB := Lib.hid (show tb.length ≤ 1048576 from by have h1 := congrArg List.length hdb; rw [List.length_map] at h1; rw [h1]; exact HRL.out)
  have B6 := Lib.hid (B5.out.trans (hb6.mono B5.out.size))
  have HS6 := Lib.hid hb6.size
  have BB46 := Lib.hid (BB5.out.trans (hb6.mono HS5.out))
  have HS60 := Lib.hid B6.out.size
  clear hc6 hb6 hob hdb
  go_wp2_with (fail)
  refine (same_yes (A := Aa) (ts := ta) (A' := A4) (ts' := t4) (by rw [DA.out, DW.out]) LA.out (own_seg OA6.out) SW6.out).mono ?_
  rintro e w8 ⟨rfl, q8, rfl⟩
  go_wp2_with (fail)
  refine (same_yes (A := Ab) (ts := tb) (A' := A4) (ts' := t4) (by rw [DB.out, DW.out]) LB.out (own_seg (w := w6.drewN q8) OB6.out) (SW6.out.drewN q8)).mono ?_
  rintro e w9 ⟨rfl, q9, rfl⟩
  go_wp2_with (fail)
  have B7 := Lib.hid (below_drewN B6.out (q8 + q9))
  have F7 := Lib.hid (show Fr w4.heap.size w5.heap.size w6 (w6.drewN (q8 + q9)) from ⟨Nat.le_refl _, fun _ _ _ => rfl⟩)
  have O7 := Lib.hid (show (w6.drewN (q8 + q9)).ownsRow w4.heap.size 9 1 (.slice Aa ta.length ca) ta.length (sV ta) from OA6.out)
  have G7 := Lib.hid fun g (hg : (Value.slice Aa ta.length ca).ownBlock = some g) => OA5.out.lt g hg
  have hs46 := Lib.hid (show w.heap.size ≤ w4.heap.size from B4.out.size)
  have hta : (ta.length : Int) ≤ 1048576 := by have := LA.out; omega
  obtain ⟨p, hp⟩ : ∃ p, ta.length = p := ⟨_, rfl⟩
  rw [hp] at O7 G7 hta
  rw [hp]
  obtain ⟨W, hW⟩ : ∃ W, w6.drewN (q8 + q9) = W := ⟨_, rfl⟩
  rw [hW] at B7 F7 O7
  rw [hW]
  clear hW
  go_loopw [13] (fun iv wx => ∃ (k : Nat) (as' : List ByteArray), iv = .int .i64 k ∧ k ≤ p ∧ wx.ownsRow w4.heap.size 9 1 (.slice Aa p ca) p (sV as') ∧ Fr w4.heap.size w5.heap.size w6 wx ∧ Below w.heap.size w wx) (fun iv _ => p - (intOf iv).toNat)
  case atStart => exact ⟨0, ta, rfl, by omega, O7.out, F7.out, B7.out⟩
  case round =>
    obtain ⟨k, as', rfl, hk, hown, hfr, hb⟩ := hrel
    have HO := Lib.hid hown
    have HF := Lib.hid hfr
    have HB := Lib.hid hb
    by_cases hlt : k < p
    · have hki : (k : Int) < (p : Int) := by omega
      obtain ⟨g, rfl, hg1, hg2⟩ := own_head hown (by omega)
      have hg3 := (G7.out g rfl).2
      have hlen : (sV as').length = p * 1 := hown.1
      have hka : k < as'.length := by rw [sV_len] at hlen; omega
      have x0 : wr.cell? ⟨g, k, none⟩ = some (.string as'[k]) := by
        rw [hown.cellAt k (by omega)]
        simp [sV, hka]
      have x1 := hown.frozenAt k
      have hst := (hown.stored k (.string ⟨#[126]⟩)).1
      rw [show (sV as').set k (.string ⟨#[126]⟩) = sV (as'.set k ⟨#[126]⟩) from by simp [sV]] at hst
      have HST := Lib.hid hst
      have HF2 := Lib.hid (hfr.setCell (k := k) ⟨hg1, hg3⟩ (.string ⟨#[126]⟩))
      have HB2 := Lib.hid (hb.setCell (p := ⟨g, k, none⟩) (by show w.heap.size ≤ g; have := hs46.out; omega) (.string ⟨#[126]⟩))
      generalize as'[k] = tk at x0
      clear hown hfr hb hlen hst
      go_wp2
      exact ⟨⟨k + 1, _, by go_num, hlt, HST.out, HF2.out, HB2.out⟩, by simp [intOf]; omega⟩
    · have hki : ¬ (k : Int) < (p : Int) := by omega
      obtain rfl : k = p := by omega
      have G8 := Lib.hid fun g (hg : (Value.slice Aa k ca).ownBlock = some g) => (show (w4.heap.size ≤ g ∧ g < w5.heap.size) ∨ w6.heap.size ≤ g from .inl (G7.out g hg))
      clear hown hfr hb G7
      go_wp2
      obtain ⟨wo, rfl⟩ : ∃ wo : World, wo = wr := ⟨_, rfl⟩
      go_loopw [9, 14] (fun av iv wx => ∃ (j : Nat) (A' : Option Addr) (c' : Nat) (as2 : List ByteArray), iv = .int .i64 j ∧ j ≤ 20 ∧ av = .slice A' (k + j) c' ∧ wx.ownsRow w4.heap.size 9 1 (.slice A' (k + j) c') (k + j) (sV as2) ∧ (∀ g, (Value.slice A' (k + j) c').ownBlock = some g → (w4.heap.size ≤ g ∧ g < w5.heap.size) ∨ w6.heap.size ≤ g) ∧ Fr w4.heap.size w5.heap.size w6 wx ∧ Below w.heap.size w wx) (fun _ iv _ => 20 - (intOf iv).toNat)
      case atStart => exact ⟨0, Aa, ca, as', rfl, by omega, rfl, HO.out, G8.out, HF.out, HB.out⟩
      case round =>
        obtain ⟨j, A', c', as2, rfl, hj, rfl, hown, hat, hfr, hb⟩ := hrel
        have HO2 := Lib.hid hown
        have HF2 := Lib.hid hfr
        have HB2 := Lib.hid hb
        have HAT := Lib.hid hat
        have hsb := Lib.hid hb.size
        have hs6 := Lib.hid hfr.1
        clear hown hat hfr hb
        by_cases hj20 : j < 20
        · have hji : (j : Int) < 20 := by omega
          have m1 := Lib.hid (show k + j + 1 ≤ maxLen by unfold maxLen; omega)
          have m2 := Lib.hid (show (k + j + 1) * 16 ≤ 140737488355328 by omega)
          have hs4 := Lib.hid (show w4.heap.size ≤ wr.heap.size from Nat.le_trans (Nat.le_trans HS5.out HS6.out) hs6.out)
          have hnw := Lib.hid fun (q : Nat) uu (hq : [Value.string ⟨#[126]⟩][q]? = some uu) => (by
            obtain ⟨b', o', e', _, hcc⟩ := seg_new (w := wr) (e := 9) (cs := #[.string ⟨#[126]⟩]) (by simp)
            injection e' with e'
            injection e' with e1 e2
            subst e1 e2
            rw [addr_add]
            exact hcc q uu hq : (wr.alloc (.cells #[.string ⟨#[126]⟩] 9)).cell? ((⟨wr.heap.size, 0, none⟩ : Addr).add q) = some uu)
          go_wp2_with (first
            | (at_builtin; refine wpList_append_own_at _ rfl (.tmp 75) (.tmp 76) 33 rfl w4.heap.size 9 i0 _ 1 16 Tryd.underlying33 fi fz0 fz1 fz2 rfl (by decide) (.slice A' (k + j) c') (k + j) (sV as2) rfl (World.ownsRow.alloc HO2.out _) ⟨wr.heap.size, 0, none⟩ 1 1 [.string ⟨#[126]⟩] rfl rfl hnw.out (by simp [Value.oneCell']) m1.out m2.out (by rw [World.size_alloc]; have := hs4.out; omega) ?_
               intro v3 w3 hown3 hg3 _ hat3
               have hf3 := (HF2.out.alloc (.cells #[.string ⟨#[126]⟩] 9)).grown hg3 HAT.out
               have hb3 : Below w.heap.size w w3 := (HB2.out.alloc hsb.out _).grown hg3 (by rw [World.size_alloc]; have := hsb.out; omega) (fun g hg => by
                 rcases HAT.out g hg with h | h
                 · have := hs46.out; omega
                 · have := HS60.out; omega)
               have ha3 : ∀ g, v3.ownBlock = some g → (w4.heap.size ≤ g ∧ g < w5.heap.size) ∨ w6.heap.size ≤ g := fun g hg => by
                 rcases hat3 with h | h
                 · rw [h] at hg; exact HAT.out g hg
                 · rw [h] at hg; have e := Option.some.inj hg; rw [World.size_alloc] at e; have := hs6.out; exact .inr (by omega)
               obtain ⟨A3, c3, rfl⟩ := own_shape hown3
               have HO3 := Lib.hid hown3; have HF3 := Lib.hid hf3; have HB3 := Lib.hid hb3; have HA3 := Lib.hid ha3; clear hown3 hg3 hat3 hf3 hb3 ha3)
            | (fail))
          exact ⟨⟨j + 1, A3, c3, as2 ++ [⟨#[126]⟩], by go_num, by omega, rfl, by rw [sV_app]; exact HO3.out, HA3.out, HF3.out, HB3.out⟩, by simp [intOf]; omega⟩
        · have hji : ¬ (j : Int) < 20 := by omega
          obtain rfl : j = 20 := by omega
          have hk20 : decide (k + 20 < 20) = false := by simp
          have hk20i : ¬ ((k + 20 : Nat) : Int) < 20 := by omega
          have OBr := Lib.hid (HF2.out.own OB6.out (fun g hg => by have := (OB6.out.lt g hg).1; omega))
          have SWr := Lib.hid (HF2.out.seg SW6.out (Nat.le_trans HS5.out HS6.out) (Nat.le_refl _))
          have OSr := Lib.hid (OS4.out.keep (w' := wr) fun g _ hlt => (HF2.out.2 g (by have := Nat.le_trans HS5.out HS6.out; omega) (by omega)).trans (BB46.out.block g hlt))
          have OIr := Lib.hid (own_keep2 (w' := wr) OI4.out fun g _ hlt => (HF2.out.2 g (by have := Nat.le_trans HS5.out HS6.out; omega) (by omega)).trans (BB46.out.block g hlt))
          clear HO2 HAT
          go_wp2_with (first
            | (go_at_call 19; refine (same_yes (A := Ab) (ts := tb) (A' := A4) (ts' := t4) (by rw [DB.out, DW.out]) LB.out (own_seg OBr.out) SWr.out).mono ?_; rintro e w10 ⟨rfl, q10, rfl⟩)
            | (fail))
          have OS8 := Lib.hid (show OwnS (wr.drewN q10) w.heap.size A1 n c1 l1 from OSr.out.keep fun _ _ _ => rfl)
          have OI8 := Lib.hid (show (wr.drewN q10).ownsRow w.heap.size 3 1 (.slice A2 m c2) m (ints ws) from OIr.out)
          have B8 := Lib.hid (below_drewN HB2.out q10)
          obtain ⟨W8, hW8⟩ : ∃ W8, wr.drewN q10 = W8 := ⟨_, rfl⟩
          rw [hW8] at OS8 OI8 B8
          rw [hW8]
          clear hW8
          have HL0 := Lib.hid (show l1.length = l.length from by rw [← HL1.out, HN.out])
          have HT0 := Lib.hid fun i (h : i < l1.length) (h' : i < l.length) => (show l1[i].ts = l[i].ts from by
            have e := HD1.out
            have h1 : (l1.map Tx.ts)[i]? = (l.map Tx.ts)[i]? := by rw [e]
            rw [List.getElem?_map, List.getElem?_map, List.getElem?_eq_getElem h, List.getElem?_eq_getElem h'] at h1
            simpa using h1)
          go_loopw [15] (fun iv wx => ∃ (i : Nat) (l2 : List Tx), iv = .int .i64 i ∧ i ≤ n ∧ l2.length = l.length ∧ TSized l2 ∧ (∀ a (h : a < l2.length) (h' : a < l.length), i ≤ a → l2[a].ts = l[a].ts) ∧ OwnS wx w.heap.size A1 n c1 l2 ∧ wx.ownsRow w.heap.size 3 1 (.slice A2 m c2) m (ints ws) ∧ Below w.heap.size w wx) (fun iv _ => n - (intOf iv).toNat)
          case atStart => exact ⟨0, l1, rfl, by omega, HL0.out, sized_eq HD1.out HZ.out, fun a h h' _ => HT0.out a h h', OS8.out, OI8.out, B8.out⟩
          case round =>
            obtain ⟨i, l2, rfl, hi, hl2, hz2, he2, hos, hoi, hb⟩ := hrel
            obtain ⟨wq, rfl⟩ : ∃ wq : World, wq = wr := ⟨_, rfl⟩
            have HO4 := Lib.hid hos
            have HI4 := Lib.hid hoi
            have HB4 := Lib.hid hb
            have HZ4 := Lib.hid hz2
            have HL4 := Lib.hid hl2
            have HE4 := Lib.hid he2
            clear hoi hz2 he2
            by_cases hlt : i < n
            · have hki : (i : Int) < (n : Int) := by omega
              have hil : i < l.length := by rw [← HN.out]; exact hlt
              have hi2 : i < l2.length := by omega
              obtain ⟨go, rfl, hgo1, hgo2, x0⟩ := hos.cellR hi2
              obtain ⟨b, off, hA, hbB, x1⟩ := (HR.out.below hb).at_ hil
              have hts := HE4.out i hi2 hil (Nat.le_refl _)
              have hsg1 := own_seg (hos.rows l2[i] (List.getElem_mem hi2))
              have hsg2 := (HR.out.below hb).rows l[i] (List.getElem_mem hil)
              have hzz := HZ4.out.rows l2[i] (List.getElem_mem hi2)
              have hmid := Lib.hid (Mid.start HL4.out HZ4.out HE4.out HZ2.out)
              obtain ⟨X, hX⟩ : ∃ X, X = l2[i] := ⟨_, rfl⟩
              obtain ⟨Y, hY⟩ : ∃ Y, Y = l[i] := ⟨_, rfl⟩
              rw [← hX] at x0 hts hsg1 hzz
              rw [← hY] at x1 hts hsg2
              have HX := Lib.hid hX
              have HY := Lib.hid hY
              obtain ⟨XA, Xc, Xt⟩ := X
              obtain ⟨YA, Yc, Yt⟩ := Y
              simp only at x0 x1 hts hsg1 hsg2 hzz
              subst hts
              subst hA
              have S1 := Lib.hid hsg1
              have S2 := Lib.hid hsg2
              have HZZ := Lib.hid hzz
              obtain ⟨q, hq⟩ : ∃ q, Xt.length = q := ⟨_, rfl⟩
              have HQ := Lib.hid hq
              have HSM := Lib.hid fun (W : World) (h1 : Seg W wq.heap.size XA (sV Xt)) (h2 : Seg W w.heap.size YA (sV Xt)) => same_yes (c := Xc) (c' := Yc) rfl hzz h1 h2
              rw [hq] at x0 x1 HSM hzz
              clear hX hY hos hb hsg1 hsg2 hq
              go_wp2
              go_region_held3 (fun W => W.cell? ⟨go, i, none⟩ = some (.slice XA q Xc) ∧ W.cell? ⟨b, off + i, none⟩ = some (.slice YA q Yc)) (first | exact ⟨x0, x1⟩) (first
                | (go_at_call 19; refine (HSM.out _ S1.out.drew S2.out.drew).mono ?_; rintro e w11 ⟨rfl, q11, rfl⟩)
                | fail)
              go_wp2_with fail
              have O9 := Lib.hid (show OwnS (wq.drewN (1 + q11)) w.heap.size (some ⟨go, 0, none⟩) n c1 l2 from HO4.out.keep fun _ _ _ => rfl)
              have I9 := Lib.hid (show (wq.drewN (1 + q11)).ownsRow w.heap.size 3 1 (.slice A2 m c2) m (ints ws) from HI4.out)
              have B9 := Lib.hid (below_drewN HB4.out (1 + q11))
              obtain ⟨W9, hW9⟩ : ∃ W9, wq.drewN (1 + q11) = W9 := ⟨_, rfl⟩
              rw [hW9] at O9 I9 B9
              rw [hW9]
              clear hW9 x0 x1
              have HLQ := Lib.hid (show l[i].ts.length = q from by rw [← HY.out]; exact HQ.out)
              go_loopw [16] (fun jv wx => ∃ (j : Nat) (l3 : List Tx), jv = .int .i64 j ∧ j ≤ q ∧ Mid l l3 i j ∧ OwnS wx w.heap.size (some ⟨go, 0, none⟩) n c1 l3 ∧ wx.ownsRow w.heap.size 3 1 (.slice A2 m c2) m (ints ws) ∧ Below w.heap.size w wx) (fun jv _ => q - (intOf jv).toNat)
              case atStart => exact ⟨0, l2, rfl, by omega, hmid.out, O9.out, I9.out, B9.out⟩
              case round =>
                obtain ⟨j, l3, rfl, hj, hmd, hos, hoi, hb⟩ := hrel
                have h3 : i < l3.length := by rw [hmd.1]; exact hil
                have h3q : l3[i].ts.length = q := by rw [(hmd.2.2.2 h3 hil).1]; exact HLQ.out
                by_cases hjq : j < q
                · have hji : (j : Int) < (q : Int) := by omega
                  have hj3 : j < l3[i].ts.length := by omega
                  have hts := (hmd.2.2.2 h3 hil).2 j hj3 (Nat.le_refl _)
                  have hst := fun s => hos.setT h3 hj3 s
                  have hin := fun (g : Nat) (hA : l3[i].A = some ⟨g, 0, none⟩) (v : Value) => ints_set (j := j) hos h3 hA hoi v
                  have hms := fun (s : ByteArray) hs => hmd.step h3 hj3 (s := s) hs
                  obtain ⟨t, ht⟩ : ∃ t, t = l3[i].ts[j] := ⟨_, rfl⟩
                  rw [← ht] at hts
                  obtain ⟨go', g, hgo', hgA, hgb, hglt, y0, y1, y1f, hos2⟩ := hst (t ++ ⟨#[195, 169]⟩)
                  injection hgo' with hgo'
                  injection hgo' with hgo'
                  subst hgo'
                  rw [← ht] at y1
                  rw [h3q] at y0
                  obtain ⟨cc, hcc⟩ : ∃ cc, cc = l3[i].c := ⟨_, rfl⟩
                  rw [← hcc] at y0
                  have hb2 := (hb.setCell (p := ⟨g, j, none⟩) (by exact hgb) (.string (t ++ ⟨#[195, 169]⟩))).drew
                  have hm2 := hms (t ++ ⟨#[195, 169]⟩) (by rw [ByteArray.size_append]; show t.size + 2 ≤ _; omega)
                  have hi3 := hin g hgA (.string (t ++ ⟨#[195, 169]⟩))
                  have HOS2 := Lib.hid (show OwnS ((wr.setCell ⟨g, j, none⟩ (.string (t ++ ⟨#[195, 169]⟩))).drew) w.heap.size (some ⟨go, 0, none⟩) n c1 (l3.set i (l3[i].setT j (t ++ ⟨#[195, 169]⟩))) from hos2.keep fun _ _ _ => rfl)
                  have HM2 := Lib.hid hm2
                  have HI3 := Lib.hid (show ((wr.setCell ⟨g, j, none⟩ (.string (t ++ ⟨#[195, 169]⟩))).drew).ownsRow w.heap.size 3 1 (.slice A2 m c2) m (ints ws) from hi3)
                  have HB2' := Lib.hid hb2
                  generalize l3.set i (l3[i].setT j (t ++ ⟨#[195, 169]⟩)) = l4 at HOS2 HM2
                  clear hst hin hms hos2 hb2 hm2 hi3 hmd hos hoi hb ht hcc hgA h3q hj3
                  go_wp2_with fail
                  go_region
                  go_wp2_with fail
                  exact ⟨⟨j + 1, l4, by go_num, hjq, HM2.out, HOS2.out, HI3.out, HB2'.out⟩, by simp [intOf]; omega⟩
                · have hji : ¬ (j : Int) < (q : Int) := by omega
                  obtain ⟨go', hgo', _, _, y0⟩ := hos.cellR h3
                  injection hgo' with hgo'
                  injection hgo' with hgo'
                  subst hgo'
                  rw [h3q] at y0
                  have HMD := Lib.hid hmd
                  have HOS3 := Lib.hid hos
                  have HOI3 := Lib.hid hoi
                  have HB3 := Lib.hid hb
                  generalize l3[i].A = ZA at y0
                  generalize l3[i].c = Zc at y0
                  clear hmd hos hoi hb h3q
                  go_wp2_with fail
                  exact ⟨⟨i + 1, l3, by go_num, hlt, HMD.out.1, HMD.out.2.1, fun a h h' ha => HMD.out.2.2.1 a h h' (by omega), HOS3.out, HOI3.out, HB3.out⟩, by simp [intOf]; omega⟩
            · have hki : ¬ (i : Int) < (n : Int) := by omega
              obtain rfl : i = n := by omega
              clear HE4
              have hn3 := Lib.hid (show i = l2.length from by rw [HL4.out, HN.out])
              clear hos hb
              go_wp2_with fail
              obtain ⟨wp, rfl⟩ : ∃ wp : World, wp = wq := ⟨_, rfl⟩
              go_loopw [17] (fun iv wx => ∃ (a : Nat) (zs : List Int), iv = .int .i64 a ∧ a ≤ m ∧ zs.length = m ∧ wx.ownsRow w.heap.size 3 1 (.slice A2 m c2) m (ints zs) ∧ (∀ x (h : x < zs.length) (h' : x < ws.length), a ≤ x → zs[x] = ws[x]) ∧ OwnS wx w.heap.size A1 i c1 l2 ∧ Below w.heap.size w wx) (fun iv _ => m - (intOf iv).toNat)
              case atStart => exact ⟨0, ws, rfl, by omega, HM.out.symm, HI4.out, fun _ _ _ _ => rfl, HO4.out, HB4.out⟩
              case round =>
                obtain ⟨a, zs, rfl, ha, hzl, hoi, hze, hos, hb⟩ := hrel
                have HZL := Lib.hid hzl
                have HOI5 := Lib.hid hoi
                have HZE := Lib.hid hze
                have HOS5 := Lib.hid hos
                have HB5 := Lib.hid hb
                by_cases ham : a < m
                · have hai : (a : Int) < (m : Int) := by omega
                  have ha0 : (0 : Int) ≤ (a : Int) := by omega
                  have haz : a < zs.length := by omega
                  have haw : a < ws.length := by have := HM.out; omega
                  obtain ⟨g, rfl, hg1, hg2⟩ := own_head hoi (by omega)
                  obtain ⟨b, off, hA, _, x1⟩ := seg_int (HW.out.below hb) haw
                  have x0 : wr.cell? ⟨g, a, none⟩ = some (.int .i64 zs[a]) := by
                    rw [hoi.cellAt a (by omega)]
                    simp [ints, haz]
                  have x0f := hoi.frozenAt a
                  rw [hze a haz haw (Nat.le_refl _)] at x0
                  have hst := fun v => (hoi.stored a (.int .i64 v)).1
                  have hso := fun v => hos.setInt (j := a) hoi v
                  have HST := Lib.hid hst
                  have HSO := Lib.hid hso
                  have hgw : w.heap.size ≤ g := hg1
                  obtain ⟨z, hzz⟩ : ∃ z, z = ws[a] := ⟨_, rfl⟩
                  rw [← hzz] at x0 x1
                  have hne : (z != z) = false := by simp
                  subst hA
                  clear hzl hoi hze hos hb hst hso hzz hg1
                  go_wp2_with fail
                  go_quiet (fail)
                  go_wp2_with fail
                  refine ⟨⟨a + 1, zs.set a (wrap64 (z.tmod 7 + 1)), by go_num, ham, by rw [List.length_set]; exact HZL.out, ?_, ?_, (HSO.out _).keep fun _ _ _ => rfl, (below_drewN HB5.out nq).setCell (by exact hgw) _⟩, by simp [intOf]; omega⟩
                  · have e : ints (zs.set a (wrap64 (z.tmod 7 + 1))) = (ints zs).set a (.int .i64 (wrap64 (z.tmod 7 + 1))) := by simp [ints]
                    rw [e]
                    exact own_keep2 (HST.out _) fun _ _ _ => rfl
                  · intro x h h' hx
                    rw [List.getElem_set_ne (show a ≠ x by omega)]
                    exact HZE.out x (by rw [List.length_set] at h; exact h) h' (by omega)
                · have hai : ¬ (a : Int) < (m : Int) := by omega
                  obtain rfl : a = m := by omega
                  have hs0 := hb.size
                  have CE := Lib.hid (cells_any A1 c1 i l2 hn3.out HZ4.out wr wr.heap.size (Nat.le_refl _) hos.rowz)
                  have SZ := Lib.hid (own_seg hoi)
                  have RC := Lib.hid fun (W : World) (A6 : Option Addr) (c6 : Nat) (l6 : List Tx) (A7 : Option Addr) (c7 : Nat) (h1 : i = l6.length) (h2 : l6.map Tx.ts = l2.map Tx.ts) (h3 : Rowz W W.heap.size A6 l6) (h4 : Seg W W.heap.size A7 (ints zs)) => (by
                    have := rcols_any A6 c6 i l6 h1 (sized_eq h2 HZ4.out) A7 c7 a zs HZL.out.symm (by omega) W W.heap.size (Nat.le_refl _) h3 h4
                    rw [tdat_eq h2] at this
                    exact this : Calls Tryd.prog 17 #[.slice A6 i c6, .slice A7 a c7] W fun e w' => ColRet W.heap.size (colsF (tdat l2) zs) e w' ∧ Below W.heap.size W w')
                  have PC := Lib.hid fun (W : World) (h3 : Rowz W wr.heap.size A1 l2) (h4 : Seg W wr.heap.size A2 (ints zs)) (hB : wr.heap.size ≤ W.heap.size) => pcols_any A1 c1 i l2 hn3.out HZ4.out A2 c2 a zs HZL.out.symm (by omega) W wr.heap.size hB h3 h4
                  have hr2 := cols_len (l := l2) (ws := zs) HZ4.out.n
                  have RW := Lib.hid hos.rowz
                  obtain ⟨R2, hR2⟩ : ∃ R2, colsF (tdat l2) zs = R2 := ⟨_, rfl⟩
                  rw [hR2] at RC PC hr2
                  have HR2 := Lib.hid hr2
                  obtain ⟨E2, hE2⟩ : ∃ E2, errN R2 = E2 := ⟨_, rfl⟩
                  have HE2 := Lib.hid hE2
                  clear HZE hzl hoi hze hos hb hr2 hR2 hE2
                  go_wp2_with (first
                    | (go_at_call 16; refine CE.out.mono ?_; rintro e v1 ⟨A6, c6, l6, rfl, hd6, ho6, hb6⟩
                       have OE2 := Lib.hid (own_empty v1 wr.heap.size 3 1 v1.heap.size rfl hb6.size); have OS6' := Lib.hid ho6; have HL6 := Lib.hid ho6.len; have HD6 := Lib.hid hd6; have V1 := Lib.hid hb6; have hv1 := hb6.size; have SZ1 := Lib.hid (SZ.out.below hb6); clear hd6 ho6 hb6)
                    | (at_builtin; refine wpList_append_seg _ rfl (.tmp 153) (.tmp 154) 31 rfl wr.heap.size 3 i3 _ 1 8 Tryd.underlying31 gi gz0 gz1 gz2 rfl (by decide) (.slice (some ⟨v1.heap.size, 0, none⟩) 0 0) 0 [] rfl OE2.out wr.heap.size A2 a c2 (ints zs) rfl (by rw [ints_len, Nat.mul_one]; exact HZL.out) (SZ1.out.alloc hv1 _) (ints_one zs) M1.out M2.out (by rw [World.size_alloc]; omega) ?_
                       intro v3 w3 hown3 hg3 _
                       rw [Nat.zero_add, List.nil_append] at hown3
                       have hb3 : Below v1.heap.size v1 w3 := ((Below.refl _ v1).alloc (Nat.le_refl _) _).grown hg3 (by simp) (fun g hg => Nat.le_of_eq (Option.some.inj hg))
                       obtain ⟨A7, c7, rfl⟩ := own_shape hown3
                       have OI7 := Lib.hid hown3; have OS7 := Lib.hid (OwnS.below OS6'.out hb3); have V3 := Lib.hid (V1.out.trans (hb3.mono hv1)); clear hown3 hg3 hb3)
                    | (fail))
                  refine (RC.out _ A6 c6 l6 A7 c7 HL6.out HD6.out (OwnS.rowz OS7.out) (own_seg OI7.out)).mono ?_
                  rintro e v4 ⟨hc4, hb4⟩
                  obtain ⟨A8, c8, t8, rfl, ho8, hd8⟩ := ColRet.any hc4
                  rw [HE2.out]
                  have SW8 := Lib.hid (own_seg ho8)
                  have V4 := Lib.hid (V3.out.trans (hb4.mono V3.out.size))
                  have D8 := Lib.hid hd8
                  clear hc4 hb4 ho8 hd8
                  go_wp2_with (fail)
                  refine (PC.out _ (RW.out.below V4.out) (SZ.out.below V4.out) V4.out.size).mono ?_
                  rintro e v5 ⟨hc5, hb5⟩
                  obtain ⟨A9, c9, t9, rfl, ho9, hd9⟩ := ColRet.any hc5
                  rw [HE2.out]
                  have SW9 := Lib.hid (SW8.out.below hb5)
                  have O9 := Lib.hid ho9
                  have V5 := Lib.hid (V4.out.trans (hb5.mono V4.out.size))
                  have L9 := Lib.hid (show t9.length ≤ 1048576 from by have h1 := congrArg List.length hd9; rw [List.length_map] at h1; rw [h1]; exact HR2.out)
                  have D9 := Lib.hid hd9
                  clear hc5 hb5 ho9 hd9
                  go_wp2_with (fail)
                  refine (same_yes (A := A9) (ts := t9) (A' := A8) (ts' := t8) (by rw [D9.out, D8.out]) L9.out (own_seg O9.out) SW9.out).mono ?_
                  rintro e v6 ⟨rfl, q6, rfl⟩
                  go_wp2_with (fail)
                  go_ret
                  exact ⟨rfl, below_drewN (HB5.out.trans (V5.out.mono hs0)) q6⟩
end Go.Proofs.YtfipljhlponcoaaDoor
