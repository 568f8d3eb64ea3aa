/- The walk of MatchFits. -/
import Derived.Test.YtiheibcookcbdaaMut
import Derived.Test.YtiheibcookcbdaaFit
import Derived.Deep.RegionLaw
set_option linter.unusedVariables false
namespace Go.Proofs.Ytiheibcookcbdaa
open Go.RowKit
/-- Texts, the first k of which may be two bytes longer. -/
def SLim (k : Nat) (ss : List ByteArray) : Prop := ∀ i (h : i < ss.length), ss[i].size ≤ 140737488351232 ∨ (i < k ∧ ss[i].size ≤ 140737488351234)
theorem SLim.set {k : Nat} {ss : List ByteArray} (h : SLim k ss) (hk : k < ss.length) {s : ByteArray} (hs : s.size ≤ ss[k].size + 2) : SLim (k + 1) (ss.set k s) := fun i hi => by
  have hi2 : i < ss.length := by simpa using hi
  by_cases e : k = i
  · subst e
    simp only [List.getElem_set_self]
    rcases h k hk with h1 | ⟨h1, _⟩
    · exact .inr ⟨by omega, by omega⟩
    · omega
  · simp only [List.getElem_set_ne e]
    exact (h i hi2).imp id fun ⟨a, b⟩ => ⟨by omega, b⟩
/-- The texts of the call's own, a mark behind them. -/
def OwnS (w : World) (base : Nat) (A : Option Addr) (m c : Nat) (ss : List ByteArray) : Prop := m = ss.length ∧ w.ownsRow base 9 1 (.slice A (m + 1) c) (m + 1) (strs ss ++ [.string ⟨#[109, 97, 114, 107]⟩])
theorem OwnS.keep {w w' : World} {base m c : Nat} {A : Option Addr} {ss : List ByteArray} (h : OwnS w base A m c ss) (hb : Below w.heap.size w w') : OwnS w' base A m c ss := ⟨h.1, own_keep2 h.2 fun g _ hlt => hb.block g hlt⟩
theorem OwnS.seg {w : World} {base m c : Nat} {A : Option Addr} {ss : List ByteArray} (h : OwnS w base A m c ss) : Seg w w.heap.size A (strs ss) := own_cut (n := ss.length) h.2 (by simp [strs])
theorem OwnS.at_ {w : World} {base m c : Nat} {A : Option Addr} {ss : List ByteArray} (h : OwnS w base A m c ss) : ∃ g, A = some ⟨g, 0, none⟩ ∧ base ≤ g ∧ g < w.heap.size ∧ m + 1 ≤ c ∧ w.cell? ⟨g, m, none⟩ = some (.string ⟨#[109, 97, 114, 107]⟩) ∧
    (∀ k (h : k < ss.length), w.cell? ⟨g, k, none⟩ = some (.string ss[k])) ∧ (∀ k, w.frozen? ⟨g, k, none⟩ = false) ∧ ∀ k (h : k < ss.length) s, OwnS (w.setCell ⟨g, k, none⟩ (.string s)) base A m c (ss.set k s) := by
  obtain ⟨hm, h⟩ := h
  obtain ⟨g, hA, hb, hlt⟩ := own_head h (by omega)
  subst hA
  refine ⟨g, rfl, hb, hlt, own_cap h, ?_, fun k hk => ?_, fun k => h.frozenAt _, fun k hk s => ⟨by simpa using hm, ?_⟩⟩
  · rw [h.cellAt m (by omega), List.getElem?_append_right (by rw [strs_len]; omega), strs_len, hm, Nat.sub_self]
    rfl
  · rw [h.cellAt k (by omega), List.getElem?_append_left (by rw [strs_len]; exact hk)]
    unfold strs
    simp [hk]
  · have hst := (h.stored k (.string s)).1
    have hset : (strs ss ++ [Value.string ⟨#[109, 97, 114, 107]⟩]).set k (.string s) = strs (ss.set k s) ++ [.string ⟨#[109, 97, 114, 107]⟩] := by
      rw [List.set_append_left _ _ (by rw [strs_len]; exact hk)]
      unfold strs
      rw [List.map_set]
    rw [← hset]
    exact hst
/-- Lent cards that lie below block N. -/
structure LentB (w : World) (base N : Nat) (A : Option Addr) (n c : Nat) (l : List Cd) : Prop where
  lent : LentTo w base A n c l n
  ga : ∀ g, A = some ⟨g, 0, none⟩ → g < N
  gx : ∀ x ∈ l, ∀ g, x.A = some ⟨g, 0, none⟩ → g < N
theorem LentB.of {w : World} {base n c : Nat} {A : Option Addr} {l : List Cd} (h : LentTo w base A n c l n) : LentB w base w.heap.size A n c l := by
  refine ⟨h, fun g hg => ?_, fun x hx g hg => ?_⟩
  · subst hg
    exact (h.row.lt g rfl).2
  · obtain ⟨i, hi, rfl⟩ := List.mem_iff_getElem.1 hx
    obtain ⟨g', hA, _, hlt⟩ := lent_head (h.ts i hi (by rw [h.len]; exact hi))
    rw [hA] at hg
    injection hg with hg
    injection hg with hg
    omega
theorem head_of {w : World} {base e n c size g : Nat} {A : Option Addr} {xs : List Value} (h : w.ownsRow base e size (.slice A n c) n xs) (hg : (Value.slice A n c).ownBlock = some g) : A = some ⟨g, 0, none⟩ := by
  rcases h.2 with ⟨h3, _⟩ | ⟨g', cap, cur, hv, _⟩
  · injection h3 with h3 _ _; subst h3; cases hg
  · injection hv with hA _ _
    subst hA
    injection hg with hg
    subst hg
    rfl
theorem LentB.keep {w w' : World} {base N n c : Nat} {A : Option Addr} {l : List Cd} (h : LentB w base N A n c l) (hk : ∀ g, g < N → w'.heap[g]? = w.heap[g]?) : LentB w' base N A n c l := by
  have hts : ∀ i (hi : i < l.length), i < n → lentTs w' base l[i] := fun i hi hin => own_keep2 (h.lent.ts i hi hin) fun g hg hlt => hk g (h.gx _ (List.getElem_mem hi) g (head_of (h.lent.ts i hi hin) hg))
  refine ⟨⟨h.lent.len, own_keep2 h.lent.row fun g hg hlt => hk g (h.ga g (head_of h.lent.row hg)), fun x hx => ?_, hts, h.lent.apart⟩, h.ga, h.gx⟩
  obtain ⟨i, hi, rfl⟩ := List.mem_iff_getElem.1 hx
  exact ⟨[.string ⟨#[109, 97, 114, 107]⟩], hts i hi (by rw [h.lent.len]; exact hi)⟩
theorem LentB.below {w w' : World} {base N n c : Nat} {A : Option Addr} {l : List Cd} (h : LentB w base N A n c l) (hb : Below N w w') : LentB w' base N A n c l := h.keep fun g hg => hb.block g hg
theorem set_as {l : List Cd} {k : Nat} {y : Cd} (hk : k < l.length) (hy : y.A = l[k].A) {N : Nat} (h : ∀ x ∈ l, ∀ g, x.A = some ⟨g, 0, none⟩ → g < N) : ∀ x ∈ l.set k y, ∀ g, x.A = some ⟨g, 0, none⟩ → g < N := fun x hx g hg => by
  rcases List.mem_or_eq_of_mem_set hx with hx | rfl
  · exact h x hx g hg
  · rw [hy] at hg
    exact h _ (List.getElem_mem hk) g hg
theorem LentB.score {w : World} {base N n c k : Nat} {A : Option Addr} {l : List Cd} (h : LentB w base N A n c l) (hk : k < l.length) : ∃ g, A = some ⟨g, 0, none⟩ ∧ base ≤ g ∧ g < N ∧ w.cell? ⟨g, k * 7 + 4, none⟩ = some (.int .i8 l[k].d.sc) ∧ w.frozen? ⟨g, k * 7 + 4, none⟩ = false ∧
    w.cell? ⟨g, k * 7 + 3, none⟩ = some (.slice l[k].A l[k].d.ts.length l[k].c) ∧ ∀ s, LentB (w.setCell ⟨g, k * 7 + 4, none⟩ (.int .i8 s)) base N A n c (l.set k (l[k].setS s)) := by
  obtain ⟨g, hA, hb, _, h1, h2, h3, h4⟩ := h.lent.score hk
  exact ⟨g, hA, hb, h.ga g hA, h1, h2, h3, fun s => ⟨h4 s, h.ga, set_as (y := l[k].setS s) hk rfl h.gx⟩⟩
theorem LentB.text {w : World} {base N n c k j : Nat} {A : Option Addr} {l : List Cd} (h : LentB w base N A n c l) (hk : k < l.length) (hj : j < l[k].d.ts.length) : ∃ g, l[k].A = some ⟨g, 0, none⟩ ∧ base ≤ g ∧ g < N ∧ w.cell? ⟨g, j, none⟩ = some (.string l[k].d.ts[j]) ∧ w.frozen? ⟨g, j, none⟩ = false ∧
    ∀ s, LentB (w.setCell ⟨g, j, none⟩ (.string s)) base N A n c (l.set k (l[k].setT j s)) := by
  obtain ⟨g, hA, hb, _, h1, h2, h3⟩ := h.lent.text hk hj
  exact ⟨g, hA, hb, h.gx _ (List.getElem_mem hk) g hA, h1, h2, fun s => ⟨h3 s, h.ga, set_as (y := l[k].setT j s) hk rfl h.gx⟩⟩
theorem OwnS.other {w w' : World} {base m c : Nat} {A : Option Addr} {ss : List ByteArray} (h : OwnS w base A m c ss) (hk : ∀ g, base ≤ g → w'.heap[g]? = w.heap[g]?) : OwnS w' base A m c ss := ⟨h.1, own_keep2 h.2 fun g hg _ => hk g (h.2.lt g hg).1⟩
theorem wrap8_bd (x : Int) : -128 ≤ IntKind.i8.wrap x ∧ IntKind.i8.wrap x ≤ 127 := by
  unfold IntKind.wrap
  simp [IntKind.signed, IntKind.bits]
  split <;> omega
/-- All that the walk has made. -/
structure FSt (w wr : World) (N g5 b6 b7 : Nat) (A1 : Option Addr) (n c1 : Nat) (l : List Cd) (m c5 : Nat) (ss : List ByteArray) (R1 R2 S1 S2 : Int) : Prop where
  lent : LentB wr w.heap.size N A1 n c1 l
  own : OwnS wr N (some ⟨g5, 0, none⟩) m c5 ss
  low : Below w.heap.size w wr
  r6 : RowAt wr b6 26 [.int .i64 R1, .int .i64 R2]
  r7 : RowAt wr b7 30 [.int .i64 S1, .int .i64 S2]
section
variable {w wr w2 : World} {N g5 b6 b7 n c1 m c5 k j : Nat} {A1 : Option Addr} {l : List Cd} {ss : List ByteArray} {R1 R2 S1 S2 : Int}
theorem FSt.below (h : FSt w wr N g5 b6 b7 A1 n c1 l m c5 ss R1 R2 S1 S2) (hN : N ≤ wr.heap.size) (hb : Below wr.heap.size wr w2) : FSt w w2 N g5 b6 b7 A1 n c1 l m c5 ss R1 R2 S1 S2 :=
  ⟨h.lent.below (hb.mono hN), h.own.keep hb, h.low.trans (hb.mono h.low.size), h.r6.keep (hb.block _ h.r6.lt), h.r7.keep (hb.block _ h.r7.lt)⟩
theorem FSt.size (h : FSt w wr N g5 b6 b7 A1 n c1 l m c5 ss R1 R2 S1 S2) : N ≤ wr.heap.size := by
  obtain ⟨g, e, h1, h2, _⟩ := h.own.at_
  omega
theorem FSt.drewN (h : FSt w wr N g5 b6 b7 A1 n c1 l m c5 ss R1 R2 S1 S2) (q : Nat) : FSt w (wr.drewN q) N g5 b6 b7 A1 n c1 l m c5 ss R1 R2 S1 S2 := h.below h.size (below_drewN (Below.refl _ _) q)
theorem FSt.score (h : FSt w wr N g5 b6 b7 A1 n c1 l m c5 ss R1 R2 S1 S2) (h6 : N ≤ b6) (h7 : N ≤ b7) (hk : k < l.length) : ∃ g, A1 = some ⟨g, 0, none⟩ ∧ wr.cell? ⟨g, k * 7 + 4, none⟩ = some (.int .i8 l[k].d.sc) ∧ wr.frozen? ⟨g, k * 7 + 4, none⟩ = false ∧
    wr.cell? ⟨g, k * 7 + 3, none⟩ = some (.slice l[k].A l[k].d.ts.length l[k].c) ∧ ∀ s, FSt w (wr.setCell ⟨g, k * 7 + 4, none⟩ (.int .i8 s)) N g5 b6 b7 A1 n c1 (l.set k (l[k].setS s)) m c5 ss R1 R2 S1 S2 := by
  obtain ⟨g, hA, hb, hlt, x1, x2, x3, x4⟩ := h.lent.score hk
  refine ⟨g, hA, x1, x2, x3, fun s => ⟨x4 s, h.own.other fun g2 hg2 => Below.heap_setCell _ _ _ _ (by show g2 ≠ g; omega), h.low.setCell hb _, ?_, ?_⟩⟩
  · exact h.r6.setOther _ (by show g ≠ b6; omega) _
  · exact h.r7.setOther _ (by show g ≠ b7; omega) _
theorem FSt.text (h : FSt w wr N g5 b6 b7 A1 n c1 l m c5 ss R1 R2 S1 S2) (h6 : N ≤ b6) (h7 : N ≤ b7) (hk : k < l.length) (hj : j < l[k].d.ts.length) : ∃ g, l[k].A = some ⟨g, 0, none⟩ ∧ wr.cell? ⟨g, j, none⟩ = some (.string l[k].d.ts[j]) ∧ wr.frozen? ⟨g, j, none⟩ = false ∧
    ∀ s, FSt w (wr.setCell ⟨g, j, none⟩ (.string s)) N g5 b6 b7 A1 n c1 (l.set k (l[k].setT j s)) m c5 ss R1 R2 S1 S2 := by
  obtain ⟨g, hA, hb, hlt, x1, x2, x3⟩ := h.lent.text hk hj
  refine ⟨g, hA, x1, x2, fun s => ⟨x3 s, h.own.other fun g2 hg2 => Below.heap_setCell _ _ _ _ (by show g2 ≠ g; omega), h.low.setCell hb _, ?_, ?_⟩⟩
  · exact h.r6.setOther _ (by show g ≠ b6; omega) _
  · exact h.r7.setOther _ (by show g ≠ b7; omega) _
theorem FSt.str (h : FSt w wr N g5 b6 b7 A1 n c1 l m c5 ss R1 R2 S1 S2) (h6 : g5 < b6) (h7 : g5 < b7) (h0 : w.heap.size ≤ N) (hk : k < ss.length) : wr.cell? ⟨g5, k, none⟩ = some (.string ss[k]) ∧ wr.frozen? ⟨g5, k, none⟩ = false ∧
    ∀ s, FSt w (wr.setCell ⟨g5, k, none⟩ (.string s)) N g5 b6 b7 A1 n c1 l m c5 (ss.set k s) R1 R2 S1 S2 := by
  obtain ⟨g, hA, hb, hlt, _, _, x1, x2, x3⟩ := h.own.at_
  injection hA with hA
  injection hA with hA
  subst hA
  refine ⟨x1 k hk, x2 k, fun s => ⟨h.lent.keep fun g2 hg2 => Below.heap_setCell _ _ _ _ (by show g2 ≠ g5; omega), x3 k hk s, h.low.setCell (by show w.heap.size ≤ g5; omega) _, ?_, ?_⟩⟩
  · exact h.r6.setOther _ (by show g5 ≠ b6; omega) _
  · exact h.r7.setOther _ (by show g5 ≠ b7; omega) _
/-- The document's second answer is stored. -/
theorem FSt.store6 (h : FSt w wr N g5 b6 b7 A1 n c1 l m c5 ss R1 R2 S1 S2) (h6 : N ≤ b6) (h56 : g5 < b6) (h67 : b6 < b7) (h0 : w.heap.size ≤ N) (Q1 Q2 : Int) : FSt w ((wr.setCell ⟨b6, 0, none⟩ (.int .i64 Q1)).setCell ⟨b6, 1, none⟩ (.int .i64 Q2)) N g5 b6 b7 A1 n c1 l m c5 ss Q1 Q2 S1 S2 := by
  have hk : ∀ g, g ≠ b6 → ((wr.setCell ⟨b6, 0, none⟩ (.int .i64 Q1)).setCell ⟨b6, 1, none⟩ (.int .i64 Q2)).heap[g]? = wr.heap[g]? := fun g hg => by
    rw [Below.heap_setCell _ _ _ _ (by exact hg), Below.heap_setCell _ _ _ _ (by exact hg)]
  obtain ⟨g, hA, hb, hlt, _⟩ := h.own.at_
  refine ⟨h.lent.keep fun g2 hg2 => hk g2 (by omega), ⟨h.own.1, own_keep2 h.own.2 fun g2 hg2 _ => hk g2 ?_⟩, (h.low.setCell (by show w.heap.size ≤ b6; omega) _).setCell (by show w.heap.size ≤ b6; omega) _, (h.r6.store 0 _).store 1 _, h.r7.keep (hk b7 (by omega))⟩
  have := head_of h.own.2 hg2
  injection this with this
  injection this with this
  omega
end
theorem hlim_sized {n i j : Nat} {l : List Cd} (hl : n = l.length) (h : CLim i j l) (hn : n * 96 ≤ 140737488351232) : CSized l := h.sized (by rw [← hl]; omega)
set_option maxRecDepth 100000 in
set_option maxHeartbeats 16000000 in
theorem matchFits_walk (A : Option Addr) (cap n : Nat) (la : List Cd) (hn : n = la.length) (hcap : n ≤ cap) (hn1 : n * 96 ≤ 140737488351232) (ha : CLim 0 0 la) (A' : Option Addr) (cap' m : Nat) (ts : List ByteArray) (hm : m = ts.length) (hm1 : m * 16 ≤ 140737488351232) (ht0 : SLim 0 ts)
    (w : World) (hs : Cards w w.heap.size A la) (hs' : Seg w w.heap.size A' (strs ts)) :
    Calls Try.prog 3 #[.slice A n cap, .slice A' m cap'] w fun e w' => e = .returned (.bool true) ∧ Below w.heap.size w w' := by
  obtain ⟨j0, gi, gz0, gz1, gz2⟩ := info_parts Try.info9
  have hz : CSized la := ha.sized (by omega)
  have hlent := lent_any A cap n la hn hz (fun x hx => by obtain ⟨i, hi, rfl⟩ := List.mem_iff_getElem.1 hx; have := (ha i hi).1.tn; omega) (by omega) w w.heap.size (Nat.le_refl _) hs
  have hrf : ∀ w1, Below w.heap.size w w1 → Calls Try.prog 6 #[.slice A n cap, .slice A' m cap'] w1 fun e w' => e = .returned (.tuple #[.agg #[.int .i64 (fitF (cdat la) ts).1, .int .i64 (fitF (cdat la) ts).2.1], .int .i64 (fitF (cdat la) ts).2.2]) ∧ Below w1.heap.size w1 w' := fun w1 hb =>
    rfit_any A cap n la hn hcap hz A' cap' m ts hm (by omega) w1 w.heap.size hb.size (hs.below hb) (hs'.below hb)
  have hcf : ∀ (A1 : Option Addr) (c1 : Nat) (l1 : List Cd) (A2 : Option Addr) (c2 : Nat) (ss : List ByteArray) (w1 : World), n = l1.length → CSized l1 → m = ss.length → Cards w1 w1.heap.size A1 l1 → Seg w1 w1.heap.size A2 (strs ss) →
      Calls Try.prog 7 #[.slice A1 n c1, .slice A2 m c2] w1 fun e w' => e = .returned (.tuple #[.agg #[.int .i64 (fitF (cdat l1) ss).1, .int .i64 (fitF (cdat l1) ss).2.1], .int .i64 (fitF (cdat l1) ss).2.2]) ∧ Below w1.heap.size w1 w' := fun A1 c1 l1 A2 c2 ss w1 h1 h2 h3 h4 h5 =>
    cfit_any A1 c1 n l1 h1 h2 A2 c2 m ss h3 (by omega) w1 w1.heap.size (Nat.le_refl _) h4 h5
  have hkp : ∀ (A1 : Option Addr) (c1 : Nat) (l1 : List Cd) (w1 : World), Below w.heap.size w w1 → LentTo w1 w.heap.size A1 n c1 l1 n → cdat l1 = cdat la → (∃ h : n + 1 ≤ c1, w1.ownsRow w.heap.size 37 7 (.slice A1 (n + 1) c1) (n + 1) (cdCells l1 ++ markCells)) →
      Calls Try.prog 8 #[.slice A1 n c1, .slice A n cap] w1 fun e w' => e = .returned (.bool true) ∧ Below w1.heap.size w1 w' := fun A1 c1 l1 w1 hb h1 h2 ⟨h3, h4⟩ =>
    kept_any A1 n c1 l1 A cap la w.heap.size w1 h1 h3 h4 h2 ((ha.dat h2).sized (by rw [← h1.len]; omega)) ((hs.below hb).more hb.size)
  obtain ⟨R, hR⟩ : ∃ R, R = fitF (cdat la) ts := ⟨_, rfl⟩
  obtain ⟨R1, R2, R3⟩ := R
  rw [← hR] at hrf
  have hcf1 : ∀ (A1 : Option Addr) (c1 : Nat) (l1 : List Cd) (A2 : Option Addr) (c2 : Nat) (w1 : World), cdat l1 = cdat la → LentTo w1 w.heap.size A1 n c1 l1 n → ∀ B9, OwnS w1 B9 A2 m c2 ts →
      Calls Try.prog 7 #[.slice A1 n c1, .slice A2 m c2] w1 fun e w' => e = .returned (.tuple #[.agg #[.int .i64 R1, .int .i64 R2], .int .i64 R3]) ∧ Below w1.heap.size w1 w' := fun A1 c1 l1 A2 c2 w1 h1 h2 B9 h3 => by
    have := hcf A1 c1 l1 A2 c2 ts w1 h2.len ((ha.dat h1).sized (by rw [← h2.len]; omega)) hm h2.cards h3.seg
    rw [h1, ← hR] at this
    exact this
  simp only at hrf
  have HL := Lib.hid hlent
  have HRF := Lib.hid hrf
  have HCF := Lib.hid hcf
  have HCF1 := Lib.hid hcf1
  have HKP := Lib.hid hkp
  have HM := Lib.hid hm
  have HA := Lib.hid ha
  have HTL := Lib.hid ht0
  have HTS := Lib.hid hs'
  have M1 := Lib.hid (strs_len ts)
  clear hlent hrf hcf hcf1 hkp hm ha ht0 hs hs' hz hR hn
  go_enter Try.func3, Try.ntmps3
  go_wp2_with (first
    | (at_builtin; refine wpList_append_seg _ rfl (.tmp 17) (.tmp 18) 23 rfl w1.heap.size 9 j0 _ 1 16 Try.underlying23 gi gz0 gz1 gz2 rfl (by decide) _ 0 [] rfl (own_empty _ _ _ _ _ rfl (Nat.le_refl _)) w.heap.size A' m cap' (strs ts) rfl ?_ ((HTS.out.below HB1.out).alloc HB1.out.size _) (strs_one _) ?_ ?_ ?_ ?_)
    | (go_at_call 5; refine HL.out.mono ?_; rintro e w1 ⟨A1, c1, l1, rfl, hd1, hl1, hm1', hb1⟩
       have HD1 := Lib.hid hd1
       have HL1 := Lib.hid hl1
       have HM1 := Lib.hid hm1'
       have HB1 := Lib.hid hb1
       clear hd1 hl1 hm1' hb1))
  · rw [M1.out, HM.out, Nat.mul_one]
  · unfold maxLen; omega
  · omega
  · simp
  intro v3 w3 hown3 hg3 _
  obtain ⟨A3, c3, rfl⟩ := own_shape hown3
  have hb3 : Below w1.heap.size w1 w3 := ((Below.refl _ w1).alloc (Nat.le_refl _) _).grown hg3 (by simp) (fun g hg => by simp [Value.ownBlock] at hg; omega)
  have HO3 : Hid (w3.ownsRow w1.heap.size 9 1 (.slice A3 m c3) m (strs ts)) := Lib.hid (by simpa using hown3)
  have HB3 := Lib.hid hb3
  clear hown3 hg3 hb3
  go_wp2_with (first
    | (at_builtin; refine wpList_push rfl (.tmp 19) (.tmp 20) 23 rfl w1.heap.size 9 j0 _ 1 16 Try.underlying23 gi gz0 gz1 gz2 rfl (by decide) (.slice A3 m c3) m (strs ts) rfl HO3.out #[.string ⟨#[109, 97, 114, 107]⟩] rfl rfl ?_ ?_ ?_ ?_ ?_))
  · first | rfl | trivial | (intro u hu; simp at hu; subst hu; rfl)
  · unfold maxLen; omega
  · omega
  · exact HB3.out.size
  intro A5 c5 w5 hown5 hp5
  have hb5 : Below w1.heap.size w1 w5 := HB3.out.trans hp5.low
  have hs5 : OwnS w5 w1.heap.size A5 m c5 ts := ⟨HM.out, by simpa using hown5⟩
  have hl5 : LentB w5 w.heap.size w1.heap.size A1 n c1 l1 := (LentB.of HL1.out).below hb5
  obtain ⟨hcn, hmk1⟩ := HM1.out
  have HMK5 := Lib.hid (show ∃ h : n + 1 ≤ c1, w5.ownsRow w.heap.size 37 7 (.slice A1 (n + 1) c1) (n + 1) (cdCells l1 ++ markCells) from ⟨hcn, own_keep2 hmk1 fun g _ hlt => hb5.block g hlt⟩)
  have hcap5 := hs5.at_
  obtain ⟨g5, hg5, hgb5, hgl5, hcc5, _⟩ := hcap5
  subst hg5
  have HS5 := Lib.hid hs5
  have HL5 := Lib.hid hl5
  have HB5 := Lib.hid (HB1.out.trans (hb5.mono HB1.out.size))
  have hle1 : w.heap.size ≤ w1.heap.size := HB1.out.size
  have hN5 : w1.heap.size ≤ w5.heap.size := hb5.size
  have hcc5a : (m : Int) ≤ (c5 : Int) := by omega
  have hcc5b : (m : Int) + 1 ≤ (c5 : Int) := by omega
  clear hown5 hp5 hb5 hs5 hl5 hcn hmk1 HO3 HB3 HM1 HL1
  obtain ⟨N, hN⟩ : ∃ N, N = w1.heap.size := ⟨_, rfl⟩
  rw [← hN] at hle1 hN5 hgb5
  have HN : Hid (N = w1.heap.size) := Lib.hid hN
  clear hN
  go_wp2_with (first
    | (go_at_call 8; refine (HKP.out A1 c1 l1 _ HF7.out.low HF7.out.lent.lent HD1.out HMK7.out).mono ?_; rintro e w8 ⟨rfl, hb8⟩
       have hf8 := HF7.out.below HF7.out.size hb8
       obtain ⟨g, hA, _, _, _, u5, _⟩ := hf8.own.at_
       injection hA with hA
       injection hA with hA
       subst hA
       have HF8 := Lib.hid hf8
       clear hb8 hf8)
    | (go_at_call 7; refine (HCF1.out A1 c1 l1 (some ⟨g5, 0, none⟩) c5 _ HD1.out HL6.out.lent _ HS6.out).mono ?_; rintro e w7 ⟨rfl, hb7⟩
       have hf7 : FSt w (w7.alloc (.cells #[.int .i64 R1, .int .i64 R2] 30)) N g5 w6.heap.size w7.heap.size A1 n c1 l1 m c5 ts R1 R2 R1 R2 := by
         have hn6 : N ≤ (w6.alloc (.cells #[.int .i64 R1, .int .i64 R2] 26)).heap.size := by simp; omega
         have hn7 : N ≤ w7.heap.size := Nat.le_trans hn6 hb7.size
         have ha7 : Below w7.heap.size w7 (w7.alloc (.cells #[.int .i64 R1, .int .i64 R2] 30)) := (Below.refl _ _).alloc (Nat.le_refl _) _
         refine ⟨(HL6.out.below (hb7.mono hn6)).below (ha7.mono hn7), (HS6.out.keep hb7).keep ha7, ?_, (HR6.out.keep (hb7.block _ HR6.out.lt)).alloc _, row_new _ _ _ _ rfl⟩
         exact (HB6.out.trans (hb7.mono HB6.out.size)).alloc (Nat.le_trans HB6.out.size hb7.size) _
       have hmk7 : ∃ h : n + 1 ≤ c1, (w7.alloc (.cells #[.int .i64 R1, .int .i64 R2] 30)).ownsRow w.heap.size 37 7 (.slice A1 (n + 1) c1) (n + 1) (cdCells l1 ++ markCells) := by
         obtain ⟨h1, h2⟩ := HMK6.out
         exact ⟨h1, (own_keep2 h2 fun g _ hlt => hb7.block g hlt).alloc _⟩
       obtain ⟨q0, q1⟩ := hf7.r6.two
       have HF7 := Lib.hid hf7
       have HMK7 := Lib.hid hmk7
       have hg67 : w6.heap.size < w7.heap.size := by have := hb7.size; simp at this; omega
       clear hb7 hf7 hmk7)
    | (go_at_call 6; refine (HRF.out _ HB5.out).mono ?_; rintro e w6 ⟨rfl, hb6⟩
       have hl6 : LentB (w6.alloc (.cells #[.int .i64 R1, .int .i64 R2] 26)) w.heap.size N A1 n c1 l1 := by rw [HN.out]; exact (HL5.out.below (hb6.mono (by rw [← HN.out]; exact hN5))).below ((Below.refl _ _).alloc (Nat.le_trans (by rw [← HN.out]; exact hN5) hb6.size) _)
       have hs6 : OwnS (w6.alloc (.cells #[.int .i64 R1, .int .i64 R2] 26)) N (some ⟨g5, 0, none⟩) m c5 ts := by rw [HN.out]; exact (HS5.out.keep hb6).keep ((Below.refl _ _).alloc (Nat.le_refl _) _)
       have hmk6 : ∃ h : n + 1 ≤ c1, (w6.alloc (.cells #[.int .i64 R1, .int .i64 R2] 26)).ownsRow w.heap.size 37 7 (.slice A1 (n + 1) c1) (n + 1) (cdCells l1 ++ markCells) := by
         obtain ⟨h1, h2⟩ := HMK5.out
         exact ⟨h1, (own_keep2 h2 fun g _ hlt => hb6.block g hlt).alloc _⟩
       have hb6' : Below w.heap.size w (w6.alloc (.cells #[.int .i64 R1, .int .i64 R2] 26)) := (HB5.out.trans (hb6.mono HB5.out.size)).alloc (Nat.le_trans HB5.out.size hb6.size) _
       have hr6 : RowAt (w6.alloc (.cells #[.int .i64 R1, .int .i64 R2] 26)) w6.heap.size 26 [.int .i64 R1, .int .i64 R2] := row_new _ _ _ _ rfl
       have HL6 := Lib.hid hl6
       have HS6 := Lib.hid hs6
       have HMK6 := Lib.hid hmk6
       have HB6 := Lib.hid hb6'
       have HR6 := Lib.hid hr6
       have hN6 : w5.heap.size ≤ w6.heap.size := hb6.size
       clear hb6 hl6 hs6 hmk6 hb6' hr6))
  have h67 : w6.heap.size < w7.heap.size := hg67
  have h6 : N ≤ w6.heap.size := by omega
  have h7 : N ≤ w7.heap.size := by omega
  have h56 : g5 < w6.heap.size := by omega
  have h57 : g5 < w7.heap.size := by omega
  generalize w6.heap.size = b6 at *
  generalize w7.heap.size = b7 at *
  clear HL HRF HCF1 HKP HF7 HMK7 HMK6 HMK5 HL6 HS6 HB6 HR6 HL5 HS5 HB5 u5 q0 q1
  go_loopw [11] (fun iv wr => ∃ k : Nat, k ≤ m ∧ iv = .int .i64 k ∧ FSt w wr N g5 b6 b7 A1 n c1 l1 m c5 ts R1 R2 R1 R2) (fun iv _ => m - (intOf iv).toNat)
  case atStart => exact ⟨0, by omega, rfl, HF8.out⟩
  case round =>
    obtain ⟨k, hk, rfl, hf⟩ := hrel
    have HF := Lib.hid hf
    clear hf
    by_cases hlt : k < m
    · have hkl : k < ts.length := by rw [← HM.out]; exact hlt
      have hki : (k : Int) < (m : Int) := by omega
      have hk1 : (k : Int) < (m : Int) + 1 := by omega
      have x0 := (HF.out.str h56 h57 hle1 hkl).1
      obtain ⟨b, off, rfl, _, y0⟩ := (HTS.out.below HF.out.low).strs hkl
      obtain ⟨t, ht⟩ : ∃ t, t = ts[k] := ⟨_, rfl⟩
      rw [← ht] at x0 y0
      clear ht
      have e4 : (t.toList == t.toList) = true := by simp
      go_wp2_with fail
      go_quiet (fail)
      go_wp2_with fail
      exact ⟨⟨k + 1, by omega, by go_num, HF.out.drewN _⟩, by simp [intOf]; omega⟩
    · obtain rfl : k = m := by omega
      have hlim1 := HA.out.dat HD1.out
      have HLIM1 := Lib.hid hlim1
      obtain ⟨wo, rfl⟩ : ∃ wo : World, wo = wr := ⟨_, rfl⟩
      clear hlim1
      go_wp2_with fail
      go_loopw [12] (fun iv wr => ∃ (i : Nat) (l' : List Cd), i ≤ n ∧ iv = .int .i64 i ∧ FSt w wr N g5 b6 b7 A1 n c1 l' k c5 ts R1 R2 R1 R2 ∧ CLim i 0 l') (fun iv _ => n - (intOf iv).toNat)
      case atStart => exact ⟨0, l1, by omega, rfl, HF.out, HLIM1.out⟩
      case round =>
        obtain ⟨i, l', hi, rfl, hf, hlim⟩ := hrel
        by_cases hin : i < n
        · have hil : i < l'.length := by rw [← hf.lent.lent.len]; exact hin
          have hii : (i : Int) < (n : Int) := by omega
          obtain ⟨g, rfl, x4, f4, x3, hset⟩ := hf.score h6 h7 hil
          have hlset := fun (p : Int) hp => hlim.score hil (s := p) hp
          have hsc := (hlim i hil).1.sc
          obtain ⟨sc, hsc0⟩ : ∃ sc, sc = l'[i].d.sc := ⟨_, rfl⟩
          rw [← hsc0] at x4 hsc
          obtain ⟨xc, hxc0⟩ : ∃ xc, xc = l'[i].c := ⟨_, rfl⟩
          obtain ⟨q, hq⟩ : ∃ q, q = l'[i].d.ts.length := ⟨_, rfl⟩
          have hqz := (hlim i hil).1.tn
          rw [← hq] at hqz
          have HSET := Lib.hid hset
          have HLSET := Lib.hid hlset
          have HQ := Lib.hid hq
          clear hset hlset hsc0 hxc0 hf hlim hq HF HF8 HLIM1 x3
          go_wp2_with fail
          have hf2 := HSET.out (IntKind.i8.wrap (-sc))
          have hl2 := HLSET.out (IntKind.i8.wrap (-sc)) (wrap8_bd _)
          have hk2 : ∃ h : i < (l'.set i (l'[i].setS (IntKind.i8.wrap (-sc)))).length, (l'.set i (l'[i].setS (IntKind.i8.wrap (-sc))))[i].d.ts.length = q := ⟨by simpa using hil, by simp [Cd.setS, HQ.out]⟩
          generalize l'.set i (l'[i].setS (IntKind.i8.wrap (-sc))) = l2 at hf2 hl2 hk2
          have HF2 := Lib.hid hf2
          have HL2 := Lib.hid hl2
          have HK2 := Lib.hid hk2
          clear hf2 hl2 hk2 HSET HLSET x4 f4
          obtain ⟨wi, rfl⟩ : ∃ wo : World, wo = wr := ⟨_, rfl⟩
          go_loopw [13] (fun jv wx => ∃ (j : Nat) (l3 : List Cd), j ≤ q ∧ jv = .int .i64 j ∧ (∃ h : i < l3.length, l3[i].d.ts.length = q) ∧ FSt w wx N g5 b6 b7 (some ⟨g, 0, none⟩) n c1 l3 k c5 ts R1 R2 R1 R2 ∧ CLim i j l3) (fun jv _ => q - (intOf jv).toNat)
          case atStart => exact ⟨0, l2, by omega, rfl, HK2.out, HF2.out, HL2.out⟩
          case round =>
            obtain ⟨j, l3, hj, rfl, ⟨hk3, hm3⟩, hf3, hl3⟩ := hrel
            clear HF2 HL2 HK2
            obtain ⟨g', hg', _, _, x3, _⟩ := hf3.score h6 h7 hk3
            injection hg' with hg'
            injection hg' with hg'
            subst hg'
            rw [hm3] at x3
            by_cases hjm : j < q
            · have hj3 : j < l3[i].d.ts.length := by omega
              have hjm2 : (j : Int) < (q : Int) := by omega
              obtain ⟨gp, hgp, y0, y0f, hst⟩ := hf3.text h6 h7 hk3 hj3
              have hls := fun (s : ByteArray) hs => hl3.text hk3 hj3 (s := s) hs
              have htz := ((hl3 i hk3).2 j hj3)
              have hkm : ∀ s, ∃ h : i < (l3.set i (l3[i].setT j s)).length, (l3.set i (l3[i].setT j s))[i].d.ts.length = q := fun s => ⟨by simpa using hk3, by simp [Cd.setT, hm3]⟩
              rw [hgp] at x3
              obtain ⟨t, ht⟩ : ∃ t, t = l3[i].d.ts[j] := ⟨_, rfl⟩
              obtain ⟨cc, hcc⟩ : ∃ cc, cc = l3[i].c := ⟨_, rfl⟩
              rw [← ht] at y0 htz hls
              rw [← hcc] at x3
              have htz2 : t.size ≤ 140737488351234 := by omega
              have HST := Lib.hid hst
              have HLS := Lib.hid hls
              have HKM := Lib.hid hkm
              clear hst hls hkm htz ht hcc hl3 hf3 hgp
              go_wp2_with fail
              go_region
              have hf5 := (HST.out (t ++ ⟨#[45, 98]⟩)).drewN 1
              have hl5 := HLS.out (t ++ ⟨#[45, 98]⟩) (by rw [ByteArray.size_append]; exact Nat.le_refl _)
              have hk5 := HKM.out (t ++ ⟨#[45, 98]⟩)
              generalize l3.set i (l3[i].setT j (t ++ ⟨#[45, 98]⟩)) = l5 at hf5 hl5 hk5
              have HF5 := Lib.hid hf5
              have HL5 := Lib.hid hl5
              have HK5 := Lib.hid hk5
              clear hf5 hl5 hk5 HST HLS HKM
              go_wp2_with fail
              exact ⟨⟨j + 1, l5, by omega, by go_num, HK5.out, HF5.out, HL5.out⟩, by simp [intOf]; omega⟩
            · obtain rfl : j = q := by omega
              have hl4 : CLim (i + 1) 0 l3 := hl3.mono fun a ha mm hmm h => by omega
              have HL4 := Lib.hid hl4
              have HF4 := Lib.hid hf3
              clear hl3 hf3 hl4
              go_wp2_with fail
              exact ⟨⟨i + 1, l3, by omega, by go_num, HF4.out, HL4.out⟩, by simp [intOf]; omega⟩
        · obtain rfl : i = n := by omega
          have HFX := Lib.hid hf
          have HLX := Lib.hid hlim
          clear hf hlim HF HF8 HLIM1
          go_wp2_with fail
          obtain ⟨wj, rfl⟩ : ∃ wo : World, wo = wr := ⟨_, rfl⟩
          go_loopw [14] (fun jv wx => ∃ (j : Nat) (ss : List ByteArray), j ≤ k ∧ jv = .int .i64 j ∧ FSt w wx N g5 b6 b7 A1 i c1 l' k c5 ss R1 R2 R1 R2 ∧ SLim j ss) (fun jv _ => k - (intOf jv).toNat)
          case atStart => exact ⟨0, ts, by omega, rfl, HFX.out, HTL.out⟩
          case round =>
            obtain ⟨j, ss, hj, rfl, hf, hsl⟩ := hrel
            clear HFX
            by_cases hjk : j < k
            · have hjl : j < ss.length := by rw [← hf.own.1]; exact hjk
              have hji : (j : Int) < (k : Int) := by omega
              have hj1 : (j : Int) < (k : Int) + 1 := by omega
              obtain ⟨x0, f0, hset⟩ := hf.str h56 h57 hle1 hjl
              have hls := fun (s : ByteArray) hs => hsl.set hjl (s := s) hs
              have htz := hsl j hjl
              obtain ⟨t, ht⟩ : ∃ t, t = ss[j] := ⟨_, rfl⟩
              rw [← ht] at x0 htz hls
              have htz2 : t.size ≤ 140737488351234 := by omega
              have HSET := Lib.hid hset
              have HLS := Lib.hid hls
              clear hset hls htz ht hsl hf
              go_wp2_with fail
              exact ⟨⟨j + 1, _, by omega, by go_num, HSET.out _, HLS.out _ (by rw [ByteArray.size_append]; exact Nat.le_refl _)⟩, by simp [intOf]; omega⟩
            · obtain rfl : j = k := by omega
              have hlc := hf.lent.lent
              have hzz := hlim_sized hlc.len HLX.out hn1
              have htw : ∀ w1, Below wr.heap.size wr w1 → Calls Try.prog 9 #[.slice A1 i c1] w1 fun e w' => ∃ A9 c9 l9, e = .returned (.slice A9 i c9) ∧ cdat l9 = cdat l' ∧ OwnC w' w1.heap.size A9 i c9 l9 ∧ Below w1.heap.size w1 w' := fun w1 hb =>
                twins_any A1 c1 i l' hlc.len hzz w1 wr.heap.size hb.size (hlc.cards.below hb)
              have hrf2 : ∀ (A9 : Option Addr) (c9 : Nat) (l9 : List Cd) (A8 : Option Addr) (c8 : Nat) (w1 : World) (B9 : Nat), cdat l9 = cdat l' → OwnC w1 B9 A9 i c9 l9 → Seg w1 w1.heap.size A8 (strs ss) →
                  Calls Try.prog 6 #[.slice A9 i c9, .slice A8 j c8] w1 fun e w' => e = .returned (.tuple #[.agg #[.int .i64 (fitF (cdat l') ss).1, .int .i64 (fitF (cdat l') ss).2.1], .int .i64 (fitF (cdat l') ss).2.2]) ∧ Below w1.heap.size w1 w' := fun A9 c9 l9 A8 c8 w1 B9 h1 h2 h3 => by
                have := rfit_any A9 c9 i l9 h2.len (own_cap h2.row) (hlim_sized h2.len (HLX.out.dat h1) hn1) A8 c8 j ss hf.own.1 (by omega) w1 w1.heap.size (Nat.le_refl _) h2.cards h3
                rw [h1] at this
                exact this
              have hcf2 : ∀ w1 R1 R2 S1 S2, FSt w w1 N g5 b6 b7 A1 i c1 l' j c5 ss R1 R2 S1 S2 → Calls Try.prog 7 #[.slice A1 i c1, .slice (some ⟨g5, 0, none⟩) j c5] w1 fun e w' => e = .returned (.tuple #[.agg #[.int .i64 (fitF (cdat l') ss).1, .int .i64 (fitF (cdat l') ss).2.1], .int .i64 (fitF (cdat l') ss).2.2]) ∧ Below w1.heap.size w1 w' := fun w1 R1 R2 S1 S2 h =>
                HCF.out A1 c1 l' (some ⟨g5, 0, none⟩) c5 ss w1 h.lent.lent.len (hlim_sized h.lent.lent.len HLX.out hn1) h.own.1 h.lent.lent.cards h.own.seg
              obtain ⟨Q, hQ⟩ : ∃ Q, Q = fitF (cdat l') ss := ⟨_, rfl⟩
              obtain ⟨Q1, Q2, Q3⟩ := Q
              simp only [← hQ] at hrf2 hcf2
              have hseg := hf.own.seg
              have hb6 := hf.r6.lt
              have hwl := hf.low
              have hjl := hf.own.1
              have hst6 : ∀ w1, Below wr.heap.size wr w1 → RowAt w1 b6 26 [.int .i64 R1, .int .i64 R2] := fun w1 hb => hf.r6.keep (hb.block _ hf.r6.lt)
              have hfn : ∀ w1, Below wr.heap.size wr w1 → FSt w ((w1.setCell ⟨b6, 0, none⟩ (.int .i64 Q1)).setCell ⟨b6, 1, none⟩ (.int .i64 Q2)) N g5 b6 b7 A1 i c1 l' j c5 ss Q1 Q2 R1 R2 := fun w1 hb =>
                (hf.below hf.size hb).store6 h6 h56 h67 hle1 Q1 Q2
              have HTW := Lib.hid htw
              have HRF2 := Lib.hid hrf2
              have HCF2 := Lib.hid hcf2
              have HST6 := Lib.hid hst6
              have HFN := Lib.hid hfn
              have HSEG := Lib.hid hseg
              have hbq : Below wr.heap.size wr wr.drew := (Below.refl _ _).drew
              have hbqa : Below wr.heap.size wr (wr.alloc (.cells #[] 9)).drew := ((Below.refl _ _).alloc (Nat.le_refl _) _).drew
              have m1 : (strs ss).length = j * 1 := by rw [strs_len, Nat.mul_one]; exact hjl.symm
              have m2 : 0 + j ≤ maxLen := by unfold maxLen; omega
              have m3 : (0 + j) * 16 ≤ 140737488355328 := by omega
              have M1' := Lib.hid m1
              have HBQ := Lib.hid hbq
              have HBQA := Lib.hid hbqa
              clear htw hrf2 hcf2 hst6 hfn hseg hbq hbqa m1 hlc hzz hf hQ hjl hwl
              go_wp2_with fail
              go_region_held3 (fun W => True) (trivial) (first
                | (go_at_call 6; refine (HRF2.out A9 c9 l9 A8 c8 _ _ HD9.out HOX.out HSX.out).mono ?_; rintro e w10 ⟨rfl, hb10⟩
                   have hbt := HBX.out.trans (hb10.mono HBX.out.size)
                   have hr6 := HST6.out _ hbt
                   obtain ⟨p0, p1⟩ := hr6.two
                   have pf0 := hr6.frozen 0
                   have pf1 := hr6.frozen 1
                   have hfn := HFN.out _ hbt
                   have HFN2 := Lib.hid hfn
                   clear hb10 hbt hr6 hfn)
                | (go_at_call 9; ((with_reducible refine (HTW.out _ HB8.out).mono ?_); rintro e w9 ⟨A9, c9, l9, rfl, hd9, ho9, hb9⟩)
                   have HD9 := Lib.hid hd9
                   have HOX := Lib.hid ho9
                   have HSX := Lib.hid ((HS8.out.below hb9).more hb9.size)
                   have HBX := Lib.hid (HB8.out.trans (hb9.mono HB8.out.size))
                   clear hd9 ho9 hb9)
                | (go_at_call 9; ((with_reducible refine (HTW.out _ HBQA.out).mono ?_); rintro e w9 ⟨A9, c9, l9, rfl, hd9, ho9, hb9⟩)
                   have HD9 := Lib.hid hd9
                   have HO9 := Lib.hid ho9
                   have HB9 := Lib.hid (HBQA.out.trans (hb9.mono HBQA.out.size))
                   have HE9 := Lib.hid (own_keep2 (w := (wr.alloc (.cells #[] 9)).drew) (own_empty wr wr.heap.size 9 1 wr.heap.size rfl (Nat.le_refl _)) (fun g _ hlt => hb9.block g hlt))
                   clear hd9 ho9 hb9)
                | (go_at_call 9; ((with_reducible refine (HTW.out _ HBQ.out).mono ?_); rintro e w9 ⟨A9, c9, l9, rfl, hd9, ho9, hb9⟩)
                   have HD9 := Lib.hid hd9
                   have HO9 := Lib.hid ho9
                   have HB91 := Lib.hid (HBQ.out.trans (hb9.mono HBQ.out.size))
                   clear hd9 ho9 hb9)
                | (refine step_append_seg rfl (.tmp 142) (.tmp 146) 23 rfl w9.heap.size 9 j0 _ 1 16 Try.underlying23 gi gz0 gz1 gz2 rfl (by decide) _ 0 [] (by simp [Act.eval]) (own_empty w9 w9.heap.size 9 1 w9.heap.size rfl (Nat.le_refl _)) wr.heap.size (some ⟨g5, 0, none⟩) j c5 (strs ss) (by simp [Act.eval]) M1'.out (((HSEG.out.below HB91.out).alloc HB91.out.size _)) (strs_one _) m2 m3 (by simp) ?_; intro v8 w8 hown8 hg8 _
                   obtain ⟨A8, c8, rfl⟩ := own_shape hown8
                   have hb8 : Below w9.heap.size w9 w8 := ((Below.refl _ w9).alloc (Nat.le_refl _) _).grown hg8 (by simp) (fun g hg => by simp [Value.ownBlock] at hg; omega)
                   have HOX := Lib.hid (HO9.out.below hb8)
                   have HSX := Lib.hid (show Seg w8 w8.heap.size A8 (strs ss) by have := own_seg hown8; simpa using this)
                   have HBX := Lib.hid (HB91.out.trans (hb8.mono HB91.out.size))
                   have hjj : 0 + j = j := Nat.zero_add j
                   simp only [hjj]
                   clear hown8 hg8 hb8 hjj)
                | (refine step_append_seg rfl (.tmp 142) (.tmp 146) 23 rfl wr.heap.size 9 j0 _ 1 16 Try.underlying23 gi gz0 gz1 gz2 rfl (by decide) _ 0 [] (by simp [Act.eval]) (HE9.out) wr.heap.size (some ⟨g5, 0, none⟩) j c5 (strs ss) (by simp [Act.eval]) M1'.out ((HSEG.out.below HB9.out)) (strs_one _) m2 m3 HB9.out.size ?_; intro v8 w8 hown8 hg8 _
                   obtain ⟨A8, c8, rfl⟩ := own_shape hown8
                   have hlo : wr.heap.size < (wr.alloc (.cells #[] 9)).drew.heap.size := by show wr.heap.size < (wr.alloc _).heap.size; simp
                   have hb8 : Below wr.heap.size wr w8 := HB9.out.grown hg8 HB9.out.size (fun g hg => by simp [Value.ownBlock] at hg; omega)
                   have HOX := Lib.hid (HO9.out.keep (w' := w8) fun g hg hlt => hg8.block g hlt (by simp [Value.ownBlock]; omega))
                   have HSX := Lib.hid (show Seg w8 w8.heap.size A8 (strs ss) by have := own_seg hown8; simpa using this)
                   have HBX := Lib.hid hb8
                   have hjj : 0 + j = j := Nat.zero_add j
                   simp only [hjj]
                   clear hown8 hg8 hb8 hjj hlo)
                | (refine step_append_seg rfl (.tmp 142) (.tmp 146) 23 rfl wr.heap.size 9 j0 _ 1 16 Try.underlying23 gi gz0 gz1 gz2 rfl (by decide) _ 0 [] (by simp [Act.eval]) (own_empty wr wr.heap.size 9 1 wr.heap.size rfl (Nat.le_refl _)) wr.heap.size (some ⟨g5, 0, none⟩) j c5 (strs ss) (by simp [Act.eval]) M1'.out ((HSEG.out.below HBQA.out)) (strs_one _) m2 m3 HBQA.out.size ?_; intro v8 w8 hown8 hg8 _
                   obtain ⟨A8, c8, rfl⟩ := own_shape hown8
                   have hb8 : Below wr.heap.size wr w8 := HBQA.out.grown hg8 (Nat.le_of_lt (by show wr.heap.size < (wr.alloc _).heap.size; simp)) (fun g hg => by simp [Value.ownBlock] at hg; omega)
                   have HS8 := Lib.hid (show Seg w8 w8.heap.size A8 (strs ss) by have := own_seg hown8; simpa using this)
                   have HB8 := Lib.hid hb8
                   have hjj : 0 + j = j := Nat.zero_add j
                   simp only [hjj]
                   clear hown8 hg8 hb8 hjj)
                | fail)
              all_goals
                go_wp2_with (first
                  | (go_at_call 7; refine (HCF2.out _ _ _ _ _ HFN2.out).mono ?_; rintro e w11 ⟨rfl, hb11⟩
                     have hf11 := HFN2.out.below HFN2.out.size hb11
                     obtain ⟨u0, u1⟩ := hf11.r7.two
                     have uf0 := hf11.r7.frozen 0
                     have uf1 := hf11.r7.frozen 1
                     obtain ⟨v0, v1⟩ := hf11.r6.two
                     have hlow11 := hf11.low
                     have hb7 : w.heap.size ≤ b7 := by omega
                     have HLOW := Lib.hid hlow11
                     clear hb11 hf11 hlow11))
                go_ret
                exact ⟨by first | rfl | simp, (HLOW.out.setCell (p := ⟨b7, 0, none⟩) hb7 _).setCell (p := ⟨b7, 1, none⟩) hb7 _⟩
end Go.Proofs.Ytiheibcookcbdaa
