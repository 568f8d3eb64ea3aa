/- Cards lent, with marks behind their lists: the contract. -/
import Derived.Test.YtiheibcookcbdaaSame
set_option linter.unusedVariables false
namespace Go.Proofs.Ytiheibcookcbdaa
open Go.RowKit
def markS : ByteArray := ⟨#[109, 97, 114, 107]⟩
def markCells : List Value := [.string ⟨#[109, 97, 114, 107]⟩, .string ⟨#[]⟩, .int .u8 0, .slice none 0 0, .int .i8 0, .string ⟨#[]⟩, .int .i16 0]
theorem block_same (A : Option Addr) (n c n' c' : Nat) : (Value.slice A n c).ownBlock = (Value.slice A n' c').ownBlock := by cases A <;> rfl
/-- A card's texts with a mark behind them, in a block of the call's own. -/
def lentTs (w : World) (base : Nat) (x : Cd) : Prop := w.ownsRow base 9 1 (.slice x.A (x.d.ts.length + 1) x.c) (x.d.ts.length + 1) (strs x.d.ts ++ [.string ⟨#[109, 97, 114, 107]⟩])
/-- A card's texts, with whatever behind them, in a block of the call's own. -/
def txtRow (w : World) (base : Nat) (x : Cd) : Prop := ∃ ys : List Value, w.ownsRow base 9 1 (.slice x.A (x.d.ts.length + ys.length) x.c) (x.d.ts.length + ys.length) (strs x.d.ts ++ ys)
/-- Cards, the first k of which have marks behind their texts. -/
structure LentTo (w : World) (base : Nat) (A : Option Addr) (n c : Nat) (l : List Cd) (k : Nat) : Prop where
  len : n = l.length
  row : w.ownsRow base 37 7 (.slice A n c) n (cdCells l)
  txt : ∀ x ∈ l, txtRow w base x
  ts : ∀ i (h : i < l.length), i < k → lentTs w base l[i]
  apart : ∀ i j (hi : i < l.length) (hj : j < l.length), i < j → j < k → ∀ g, l[i].val.ownBlock = some g → l[j].val.ownBlock ≠ some g
theorem lent_head {w : World} {base : Nat} {x : Cd} (h : lentTs w base x) : ∃ g, x.A = some ⟨g, 0, none⟩ ∧ base ≤ g ∧ g < w.heap.size := own_head h (by omega)
theorem own_cut {w : World} {base e n c m : Nat} {A : Option Addr} {xs ys : List Value} (h : w.ownsRow base e 1 (.slice A m c) m (xs ++ ys)) (hn : n = xs.length) : Seg w w.heap.size A xs := by
  have h1 := own_seg h
  have := h1.take xs.length
  rwa [List.take_left' rfl] at this
theorem txtRow.seg {w : World} {base : Nat} {x : Cd} (h : txtRow w base x) : Seg w w.heap.size x.A (strs x.d.ts) := by
  obtain ⟨ys, h⟩ := h
  exact own_cut h rfl
theorem txtRow.cap {w : World} {base : Nat} {x : Cd} (h : txtRow w base x) : x.d.ts.length ≤ x.c := by
  obtain ⟨ys, h⟩ := h
  have := own_cap h
  omega
theorem LentTo.cards {w : World} {base n c k : Nat} {A : Option Addr} {l : List Cd} (h : LentTo w base A n c l k) : Cards w w.heap.size A l := ⟨own_seg h.row, fun x hx => (h.txt x hx).seg, fun x hx => (h.txt x hx).cap⟩
theorem LentTo.zero {w : World} {base n c : Nat} {A : Option Addr} {l : List Cd} (h : OwnC w base A n c l) : LentTo w base A n c l 0 :=
  ⟨h.len, h.row, fun x hx => ⟨[], by have := h.ts x hx; unfold Cd.val at this; simpa using this⟩, fun i _ hi => absurd hi (Nat.not_lt_zero i), fun i j _ _ _ hj => absurd hj (Nat.not_lt_zero j)⟩
theorem LentTo.keep {w w' : World} {base n c k : Nat} {A : Option Addr} {l : List Cd} (h : LentTo w base A n c l k) (hb : Below w.heap.size w w') : LentTo w' base A n c l k :=
  ⟨h.len, own_keep2 h.row fun g _ hlt => hb.block g hlt, fun x hx => by
    obtain ⟨ys, h2⟩ := h.txt x hx
    exact ⟨ys, own_keep2 h2 fun g _ hlt => hb.block g hlt⟩, fun i hi hk => own_keep2 (h.ts i hi hk) fun g _ hlt => hb.block g hlt, h.apart⟩
/-- The card at k gets texts of its own, with a mark: the slice of its texts is stored into its cell. -/
theorem LentTo.step {w w' : World} {base n c k m cx : Nat} {A Ax : Option Addr} {l : List Cd} (h : LentTo w base A n c l k) (hk : k < l.length) (hbw : Below w.heap.size w w') (hbase : base ≤ w.heap.size) (hm : m = l[k].d.ts.length)
    (hx : w'.ownsRow w.heap.size 9 1 (.slice Ax (m + 1) cx) (m + 1) (strs l[k].d.ts ++ [.string ⟨#[109, 97, 114, 107]⟩])) :
    ∃ g, A = some ⟨g, 0, none⟩ ∧ base ≤ g ∧ g < w.heap.size ∧ (∃ u, w'.cell? ⟨g, k * 7 + 3, none⟩ = some u) ∧ w'.frozen? ⟨g, k * 7 + 3, none⟩ = false ∧
      LentTo (w'.setCell ⟨g, k * 7 + 3, none⟩ (.slice Ax m cx)) base A n c (l.set k ⟨l[k].d, Ax, cx⟩) (k + 1) := by
  subst hm
  have hn : 0 < n := by have := h.len; omega
  have hl := flat_length Cd.cells 7 cd_len l
  have hrow : w'.ownsRow base 37 7 (.slice A n c) n (cdCells l) := own_keep2 h.row fun g _ hlt => hbw.block g hlt
  obtain ⟨g, hA, hb, hlt⟩ := own_head hrow hn
  obtain ⟨_, hA', _, hlt'⟩ := own_head h.row hn
  rw [hA] at hA'
  injection hA' with hA'
  injection hA' with hg'
  subst hA hg'
  have hst := hrow.stored (k * 7 + 3) (.slice Ax l[k].d.ts.length cx)
  have hset : (cdCells l).set (k * 7 + 3) (.slice Ax l[k].d.ts.length cx) = cdCells (l.set k ⟨l[k].d, Ax, cx⟩) := flat_set Cd.cells 7 cd_len l k 3 ⟨l[k].d, Ax, cx⟩ (.slice Ax l[k].d.ts.length cx) hk (by omega) rfl
  have hcell : w'.cell? ⟨g, k * 7 + 3, none⟩ = some (.slice l[k].A l[k].d.ts.length l[k].c) := by
    rw [hrow.cellAt (k * 7 + 3) (by have := h.len; omega)]
    exact flat_get Cd.cells 7 cd_len l k 3 hk (by omega)
  have hne : ∀ {b2 n2 : Nat} {v2 : Value} {xs2 : List Value}, w'.ownsRow b2 9 1 v2 n2 xs2 → (w'.setCell ⟨g, k * 7 + 3, none⟩ (.slice Ax l[k].d.ts.length cx)).ownsRow b2 9 1 v2 n2 xs2 := fun h2 =>
    own_keep2 h2 fun g2 hg2 _ => Below.heap_setCell _ _ _ _ (by
      intro e
      subst e
      exact own_types h2 hrow (by decide) _ hg2 rfl)
  have hx2 := hne hx
  have hbg : Below base w' w' := Below.refl _ _
  obtain ⟨gx, hgx, hgxb, hgxl⟩ := own_head hx (by omega)
  refine ⟨g, rfl, hb, hlt', ⟨_, hcell⟩, hrow.frozenAt _, ⟨by simp [h.len], ?_, ?_, ?_, ?_⟩⟩
  · rw [← hset]; exact hst.1
  · intro x hxm
    rcases List.mem_or_eq_of_mem_set hxm with hxm | rfl
    · obtain ⟨ys, h2⟩ := h.txt x hxm
      exact ⟨ys, hne (own_keep2 h2 fun g _ hlt => hbw.block g hlt)⟩
    · exact ⟨[.string ⟨#[109, 97, 114, 107]⟩], own_base hx2 hbase⟩
  · intro i hi hik
    have hi2 : i < l.length := by simpa using hi
    rcases (show i < k ∨ i = k by omega) with h2 | rfl
    · simp only [List.getElem_set_ne (show k ≠ i by omega)]
      exact hne (own_keep2 (h.ts i hi2 h2) fun g _ hlt => hbw.block g hlt)
    · simp only [List.getElem_set_self]
      exact own_base hx2 hbase
  · intro i j hi hj hij hjk g1 hg1 hg2
    have hi2 : i < l.length := by simpa using hi
    have hj2 : j < l.length := by simpa using hj
    simp only [List.getElem_set_ne (show k ≠ i by omega)] at hg1
    rcases (show j < k ∨ j = k by omega) with h2 | rfl
    · simp only [List.getElem_set_ne (show k ≠ j by omega)] at hg2
      exact h.apart i j hi2 hj2 hij h2 g1 hg1 hg2
    · simp only [List.getElem_set_self] at hg2
      have h3 := ((h.ts i hi2 hij).lt g1 ((block_same _ _ _ _ _).trans hg1)).2
      have h4 : w.heap.size ≤ g1 := (hx.lt g1 ((block_same _ _ _ _ _).trans hg2)).1
      omega
/-- The prefix of a row of the call's own. -/
theorem own_prefix {w : World} {base e n m c : Nat} {size : Nat} {A : Option Addr} {xs ys : List Value} (h : w.ownsRow base e size (.slice A m c) m (xs ++ ys)) (hn : xs.length = n * size) (hnm : n ≤ m) (hne : A ≠ none) : w.ownsRow base e size (.slice A n c) n xs := by
  obtain ⟨h1, h2⟩ := h
  refine ⟨hn, ?_⟩
  rcases h2 with ⟨h3, _⟩ | ⟨g, cap, cur, hv, hb, hg, hmc, hc, hs, ht⟩
  · injection h3 with h3 _ _; exact absurd h3 hne
  · injection hv with hA _ hcc
    subst hA hcc
    refine .inr ⟨g, c, cur, rfl, hb, hg, by omega, hc, hs, ?_⟩
    have := congrArg (List.take xs.length) ht
    rw [List.take_left' rfl, List.take_take, Nat.min_eq_left (by rw [List.length_append] at h1; omega)] at this
    rw [hn] at this
    exact this
theorem LentTo.pushed {w w' : World} {base n c c5 : Nat} {A A5 : Option Addr} {l : List Cd} (h : LentTo w base A n c l n) (hp : Pushed base (.slice A n c) w w') (ho : w'.ownsRow base 37 7 (.slice A5 (n + 1) c5) (n + 1) (cdCells l ++ markCells)) : LentTo w' base A5 n c5 l n := by
  have hk : ∀ {b2 n2 : Nat} {v2 : Value} {xs2 : List Value}, w.ownsRow b2 9 1 v2 n2 xs2 → w'.ownsRow b2 9 1 v2 n2 xs2 := fun h2 => own_keep2 h2 fun g hg hlt => hp.row g hlt (own_types h2 h.row (by decide) g hg)
  obtain ⟨g, hA, _⟩ := own_head ho (by omega)
  refine ⟨h.len, own_prefix ho (by unfold cdCells; rw [flat_length Cd.cells 7 cd_len, h.len]) (by omega) (by rw [hA]; simp), fun x hx => ?_, fun i hi hik => hk (h.ts i hi hik), h.apart⟩
  obtain ⟨ys, h2⟩ := h.txt x hx
  exact ⟨ys, hk h2⟩
/-- The card at k gets texts of its own: the data stay. -/
theorem cdat_set (l : List Cd) {k : Nat} (hk : k < l.length) (Ax : Option Addr) (cx : Nat) : cdat (l.set k ⟨l[k].d, Ax, cx⟩) = cdat l := by
  unfold cdat
  rw [List.map_set]
  apply List.ext_getElem (by simp)
  intro i h1 h2
  by_cases hik : k = i
  · subst hik; simp
  · simp [hik]
set_option maxRecDepth 100000 in
set_option maxHeartbeats 8000000 in
theorem lent_any (A : Option Addr) (cap n : Nat) (l : List Cd) (hn : n = l.length) (hz : CSized l) (hzz : ∀ x ∈ l, (x.d.ts.length + 1) * 16 ≤ 140737488355328) (hn1 : (n + 1) * 96 ≤ 140737488355328) (w : World) (B : Nat) (hB : B ≤ w.heap.size) (hs : Cards w B A l) :
    Calls Try.prog 5 #[.slice A n cap] w fun e w' => ∃ A' c' l', e = .returned (.slice A' n c') ∧ cdat l' = cdat l ∧ LentTo w' w.heap.size A' n c' l' n ∧ (∃ h : n + 1 ≤ c', w'.ownsRow w.heap.size 37 7 (.slice A' (n + 1) c') (n + 1) (cdCells l' ++ markCells)) ∧ Below w.heap.size w w' := by
  obtain ⟨i0, fi, fz0, fz1, fz2⟩ := info_parts Try.info37
  obtain ⟨j0, gi, gz0, gz1, gz2⟩ := info_parts Try.info9
  have htw := twins_any A cap n l hn hz w B hB hs
  have hzd : ∀ (i : Nat) (h : i < (cdat l).length), ((cdat l)[i].ts.length + 1) * 16 ≤ 140737488355328 := fun i h => by
    have h2 : i < l.length := by rw [← cdat_len]; exact h
    rw [cdat_get l h2]
    exact hzz _ (List.getElem_mem h2)
  have HN := Lib.hid hn
  have HTW := Lib.hid htw
  have HZD := Lib.hid hzd
  clear hn htw hs hz hzz hzd
  go_enter Try.func5, Try.ntmps5
  go_wp2_with (go_at_call 9; refine HTW.out.mono ?_; rintro e w1 ⟨A1, c1, l1, rfl, hd1, ho1, hb1⟩
               have hl1 := LentTo.zero ho1
               have HD1 := Lib.hid hd1
               have HO1 := Lib.hid hl1
               have HB1 := Lib.hid hb1
               clear hd1 ho1 hb1 hl1)
  go_loopw [4] (fun iv wr => ∃ (k : Nat) (l' : List Cd), k ≤ n ∧ iv = .int .i64 k ∧ cdat l' = cdat l ∧ LentTo wr w.heap.size A1 n c1 l' k ∧ Below w.heap.size w wr) (fun iv _ => n - (intOf iv).toNat)
  case atStart => exact ⟨0, l1, by omega, rfl, HD1.out, HO1.out, HB1.out⟩
  case round =>
    obtain ⟨k, l', hk, rfl, hd, hl, hb⟩ := hrel
    have HD := Lib.hid hd
    have HL := Lib.hid hl
    have HB := Lib.hid hb
    clear hd hb HD1 HO1 HB1
    by_cases hlt : k < n
    · have hkl : k < l'.length := by rw [← hl.len]; exact hlt
      have hki : (k : Int) < (n : Int) := by omega
      have hn0 : 0 < n := by omega
      obtain ⟨g, rfl, hgb, hgl⟩ := own_head hl.row hn0
      obtain ⟨_, _, _, _, x3, _⟩ := hl.cards.seven rfl hkl
      simp only [Nat.zero_add] at x3
      have hzk := HZD.out k (by rw [← HD.out, cdat_len]; exact hkl)
      have hdk : (cdat l)[k]'(by rw [← HD.out, cdat_len]; exact hkl) = l'[k].d := by
        have : (cdat l')[k]'(by rw [cdat_len]; exact hkl) = l'[k].d := cdat_get l' hkl
        rw [← this]; congr 1; exact HD.out.symm
      rw [hdk] at hzk
      have hseg := (hl.cards.ts _ (List.getElem_mem hkl))
      have hstep : ∀ (w' : World) (m : Nat) (Ax : Option Addr) (cx : Nat), Below wr.heap.size wr w' → m = l'[k].d.ts.length → w'.ownsRow wr.heap.size 9 1 (.slice Ax (m + 1) cx) (m + 1) (strs l'[k].d.ts ++ [.string ⟨#[109, 97, 114, 107]⟩]) →
          (∃ u, w'.cell? ⟨g, k * 7 + 3, none⟩ = some u) ∧ w'.frozen? ⟨g, k * 7 + 3, none⟩ = false ∧ LentTo (w'.setCell ⟨g, k * 7 + 3, none⟩ (.slice Ax m cx)) w.heap.size (some ⟨g, 0, none⟩) n c1 (l'.set k ⟨l'[k].d, Ax, cx⟩) (k + 1) ∧ Below w.heap.size w (w'.setCell ⟨g, k * 7 + 3, none⟩ (.slice Ax m cx)) := fun w' m Ax cx h1 h2 h3 => by
        obtain ⟨g', e, _, _, hc, hf, hL⟩ := hl.step (w' := w') (m := m) (Ax := Ax) (cx := cx) hkl h1 HB.out.size h2 h3
        injection e with e
        injection e with e
        subst e
        exact ⟨hc, hf, hL, (HB.out.trans (h1.mono HB.out.size)).setCell hgb _⟩
      have hdset := fun Ax cx => (cdat_set l' hkl Ax cx).trans HD.out
      obtain ⟨m, hm⟩ : ∃ m, m = l'[k].d.ts.length := ⟨_, rfl⟩
      rw [← hm] at x3 hzk
      generalize l'[k].A = xA at *
      generalize l'[k].c = xc at *
      have HM := Lib.hid hm
      have HSG := Lib.hid hseg
      have HST := Lib.hid hstep
      have HDS := Lib.hid hdset
      have M1 := Lib.hid (strs_len l'[k].d.ts)
      clear hl hseg hstep hdset hdk hm HD HL
      go_wp2_with (first
        | (at_builtin; refine wpList_push rfl (.tmp 28) (.tmp 29) 23 rfl wr.heap.size 9 j0 _ 1 16 Try.underlying23 gi gz0 gz1 gz2 rfl (by decide) (.slice A3 m c3) m (strs l'[k].d.ts) rfl HO3.out #[.string ⟨#[109, 97, 114, 107]⟩] rfl rfl ?_ ?_ ?_ ?_ ?_)
        | (at_builtin; refine wpList_append_seg _ rfl (.tmp 22) (.tmp 27) 23 rfl wr.heap.size 9 j0 _ 1 16 Try.underlying23 gi gz0 gz1 gz2 rfl (by decide) _ 0 [] rfl (own_empty _ _ _ _ _ (by simp) (by simp)) wr.heap.size xA m xc (strs l'[k].d.ts) rfl ?_ (HSG.out.alloc (Nat.le_refl _) _) (strs_one _) ?_ ?_ ?_ ?_))
      · rw [M1.out, HM.out, Nat.mul_one]
      · unfold maxLen; omega
      · omega
      · simp
      intro v3 w3 hown3 hg3 _
      obtain ⟨A3, c3, rfl⟩ := own_shape hown3
      have hb3 : Below wr.heap.size wr w3 := ((Below.refl _ wr).alloc (Nat.le_refl _) _).grown hg3 (by simp) (fun g hg => by simp [Value.ownBlock] at hg; omega)
      have HO3 : Hid (w3.ownsRow wr.heap.size 9 1 (.slice A3 m c3) m (strs l'[k].d.ts)) := Lib.hid (by simpa using hown3)
      have HB3 := Lib.hid hb3
      clear hown3 hg3 hb3
      go_wp2_with (first
        | (at_builtin; refine wpList_push rfl (.tmp 28) (.tmp 29) 23 rfl wr.heap.size 9 j0 _ 1 16 Try.underlying23 gi gz0 gz1 gz2 rfl (by decide) (.slice A3 m c3) m (strs l'[k].d.ts) rfl HO3.out #[.string ⟨#[109, 97, 114, 107]⟩] rfl rfl ?_ ?_ ?_ ?_ ?_))
      · first | rfl | trivial | (intro u hu; simp at hu; subst hu; rfl)
      · unfold maxLen; omega
      · omega
      · exact HB3.out.size
      intro A5 c5 w5 hown5 hp5
      obtain ⟨⟨u5, y5⟩, f5, hL5, hB5⟩ := HST.out w5 m A5 c5 (HB3.out.trans (hp5.low.mono (Nat.le_refl _))) HM.out (by simpa using hown5)
      have hcap5 := own_cap hown5
      have hc1 : (m : Int) ≤ (c5 : Int) := by omega
      have hc2 : m ≤ c5 := by omega
      have HL5 := Lib.hid hL5
      have HB5 := Lib.hid hB5
      clear hown5 hp5 hL5 hB5 hcap5
      go_wp2_with fail
      exact ⟨⟨k + 1, _, by omega, by go_num, HDS.out A5 c5, HL5.out, HB5.out⟩, by simp [intOf]; omega⟩
    · obtain rfl : k = n := by omega
      have hrow := hl.row
      have hdl := HD.out
      clear hl
      go_wp2_with (first
        | (at_builtin; refine wpList_push rfl (.tmp 35) (.tmp 37) 22 rfl w.heap.size 37 i0 _ 7 96 Try.underlying22 fi fz0 fz1 fz2 rfl (by decide) _ k (cdCells l') rfl HL.out.row #[.string ⟨#[109, 97, 114, 107]⟩, .string ⟨#[]⟩, .int .u8 0, .slice none 0 0, .int .i8 0, .string ⟨#[]⟩, .int .i16 0] rfl rfl ?_ ?_ ?_ ?_ ?_))
      · exact ⟨rfl, rfl, rfl, rfl, rfl, rfl, rfl⟩
      · unfold maxLen; omega
      · omega
      · exact HB.out.size
      intro A5 c5 w5 hown5 hp5
      have hcap5 := own_cap hown5
      have hc1 : (k : Int) ≤ (c5 : Int) := by omega
      have hc2 : k ≤ c5 := by omega
      have hL5 := HL.out.pushed hp5 hown5
      have hB5 := HB.out.trans hp5.low
      have HO5 := Lib.hid hown5
      have HL5 := Lib.hid hL5
      have HB5 := Lib.hid hB5
      have HC5 := Lib.hid hcap5
      have HDL := Lib.hid hdl
      clear hown5 hp5 hL5 hB5 hcap5 hrow hdl
      go_wp2_with fail
      go_ret
      exact ⟨A5, c5, l', rfl, HDL.out, HL5.out, ⟨HC5.out, HO5.out⟩, HB5.out⟩
end Go.Proofs.Ytiheibcookcbdaa
