/- Clocks as plain data and as cells. -/
import Derived.Test.YtbahclnpgdejlaaRows
import Derived.Test.YtbahclnpgdejlaaBase
set_option linter.unusedVariables false
namespace Go.Proofs.Ytbahclnpgdejlaa
open Go.RowKit
structure Clk where
  frm : Int
  rate : Int
  mul : Int
  div : Int
  lo : Int
  hi : Int
  steady : Bool
def Clk.cells (c : Clk) : List Value := [.int .i64 c.frm, .int .i64 c.rate, .int .i64 c.mul, .int .i64 c.div, .int .i64 c.lo, .int .i64 c.hi, .bool c.steady]
def clkCells (l : List Clk) : List Value := l.flatMap Clk.cells
theorem clk_len (c : Clk) : c.cells.length = 7 := rfl
theorem clk_one (l : List Clk) : ∀ u ∈ clkCells l, u.oneCell' = true := by
  intro u hu
  obtain ⟨c, _, hc⟩ := List.mem_flatMap.1 hu
  simp [Clk.cells] at hc
  rcases hc with rfl | rfl | rfl | rfl | rfl | rfl | rfl <;> rfl
theorem Seg.clk {w : World} {B : Nat} {a : Option Addr} {l : List Clk} (h : Seg w B a (clkCells l)) {k : Nat} (hk : k < l.length) :
    ∃ b off, a = some ⟨b, off, none⟩ ∧ b < B ∧ w.cell? ⟨b, off + k * 7, none⟩ = some (.int .i64 l[k].frm) ∧ w.cell? ⟨b, off + k * 7 + 1, none⟩ = some (.int .i64 l[k].rate) ∧ w.cell? ⟨b, off + k * 7 + 2, none⟩ = some (.int .i64 l[k].mul) ∧
      w.cell? ⟨b, off + k * 7 + 3, none⟩ = some (.int .i64 l[k].div) ∧ w.cell? ⟨b, off + k * 7 + 4, none⟩ = some (.int .i64 l[k].lo) ∧ w.cell? ⟨b, off + k * 7 + 5, none⟩ = some (.int .i64 l[k].hi) ∧ w.cell? ⟨b, off + k * 7 + 6, none⟩ = some (.bool l[k].steady) := by
  obtain ⟨b, off, e, hb, hc⟩ := h.thing clk_len (by omega) hk
  exact ⟨b, off, e, hb, hc 0 _ rfl, hc 1 _ rfl, hc 2 _ rfl, hc 3 _ rfl, hc 4 _ rfl, hc 5 _ rfl, hc 6 _ rfl⟩
def facB (n : Int) : Bool := decide (1 ≤ n ∧ n ≤ 65535)
def okB (F R M D L H i : Int) : Bool := (((F == -1) && decide (0 ≤ R) && decide (R ≤ 1099511627776)) || (decide (0 ≤ F) && decide (F < i) && (R == 0))) && facB M && facB D && decide (0 ≤ L) && decide (L ≤ H) && decide (H ≤ 1099511627776)
theorem taut_bad : ∀ e1 r0 rm f0 fi rz fM fD l0 lh hm : Bool, (e1 && f0) = false → (((e1 && r0 && rm) || (f0 && fi && rz)) && fM && fD && !l0 && !lh && !hm) = false → (e1 = true ∧ r0 = false ∧ f0 = false) ∨ (e1 = true ∧ r0 = true ∧ rm = false ∧ f0 = false) ∨ (e1 = false ∧ f0 = false) ∨ (e1 = false ∧ f0 = true ∧ fi = false) ∨ (e1 = false ∧ f0 = true ∧ fi = true ∧ rz = false) ∨ (e1 = true ∧ r0 = true ∧ rm = true ∧ f0 = false ∧ fM = false) ∨ (e1 = true ∧ r0 = true ∧ rm = true ∧ f0 = false ∧ fM = true ∧ fD = false) ∨ (e1 = true ∧ r0 = true ∧ rm = true ∧ f0 = false ∧ fM = true ∧ fD = true ∧ l0 = true) ∨ (e1 = true ∧ r0 = true ∧ rm = true ∧ f0 = false ∧ fM = true ∧ fD = true ∧ l0 = false ∧ lh = true) ∨ (e1 = true ∧ r0 = true ∧ rm = true ∧ f0 = false ∧ fM = true ∧ fD = true ∧ l0 = false ∧ lh = false ∧ hm = true) ∨ (e1 = false ∧ f0 = true ∧ fi = true ∧ rz = true ∧ fM = false) ∨ (e1 = false ∧ f0 = true ∧ fi = true ∧ rz = true ∧ fM = true ∧ fD = false) ∨ (e1 = false ∧ f0 = true ∧ fi = true ∧ rz = true ∧ fM = true ∧ fD = true ∧ l0 = true) ∨ (e1 = false ∧ f0 = true ∧ fi = true ∧ rz = true ∧ fM = true ∧ fD = true ∧ l0 = false ∧ lh = true) ∨ (e1 = false ∧ f0 = true ∧ fi = true ∧ rz = true ∧ fM = true ∧ fD = true ∧ l0 = false ∧ lh = false ∧ hm = true) := by
  intro e1 r0 rm f0 fi rz fM fD l0 lh hm ha h
  rcases e1 with _ | _
  · rcases f0 with _ | _
    · simp
    · rcases fi with _ | _
      · simp
      · rcases rz with _ | _
        · simp
        · rcases fM with _ | _
          · simp
          · rcases fD with _ | _
            · simp
            · rcases l0 with _ | _
              · rcases lh with _ | _
                · rcases hm with _ | _
                  · simp at h
                  · simp
                · simp
              · simp
  · rcases f0 with _ | _
    · rcases r0 with _ | _
      · simp
      · rcases rm with _ | _
        · simp
        · rcases fM with _ | _
          · simp
          · rcases fD with _ | _
            · simp
            · rcases l0 with _ | _
              · rcases lh with _ | _
                · rcases hm with _ | _
                  · simp at h
                  · simp
                · simp
              · simp
    · simp at ha
theorem taut_good : ∀ e1 r0 rm f0 fi rz fM fD l0 lh hm : Bool, (e1 && f0) = false → (((e1 && r0 && rm) || (f0 && fi && rz)) && fM && fD && !l0 && !lh && !hm) = true → (e1 = true ∧ r0 = true ∧ rm = true ∧ f0 = false ∧ fM = true ∧ fD = true ∧ l0 = false ∧ lh = false ∧ hm = false) ∨ (e1 = false ∧ f0 = true ∧ fi = true ∧ rz = true ∧ fM = true ∧ fD = true ∧ l0 = false ∧ lh = false ∧ hm = false) := by
  intro e1 r0 rm f0 fi rz fM fD l0 lh hm ha h
  rcases e1 with _ | _
  · simp at h ⊢; simp [h]
  · simp at ha h ⊢; subst ha; simp at h; simp [h]
theorem okB_eq (F R M D L H i : Int) : okB F R M D L H i = (((((F == -1) && decide (0 ≤ R) && decide (R ≤ 1099511627776)) || (decide (0 ≤ F) && decide (F < i) && (R == 0))) && facB M && facB D && !decide (L < 0) && !decide (H < L) && !decide (1099511627776 < H))) := by
  unfold okB
  rw [show decide (0 ≤ L) = !decide (L < 0) from by rw [← decide_not]; simp, show decide (L ≤ H) = !decide (H < L) from by rw [← decide_not]; simp, show decide (H ≤ 1099511627776) = !decide (1099511627776 < H) from by rw [← decide_not]; simp]
theorem apart (F : Int) : ((F == -1) && decide (0 ≤ F)) = false := by
  rcases h : (F == -1) <;> simp at h ⊢
  omega
theorem ok_bad (F R M D L H i : Int) (h : okB F R M D L H i = false) : ((F == -1) = true ∧ decide (0 ≤ R) = false ∧ decide (0 ≤ F) = false) ∨ ((F == -1) = true ∧ decide (0 ≤ R) = true ∧ decide (R ≤ 1099511627776) = false ∧ decide (0 ≤ F) = false) ∨ ((F == -1) = false ∧ decide (0 ≤ F) = false) ∨ ((F == -1) = false ∧ decide (0 ≤ F) = true ∧ decide (F < i) = false) ∨ ((F == -1) = false ∧ decide (0 ≤ F) = true ∧ decide (F < i) = true ∧ (R == 0) = false) ∨ ((F == -1) = true ∧ decide (0 ≤ R) = true ∧ decide (R ≤ 1099511627776) = true ∧ decide (0 ≤ F) = false ∧ facB M = false) ∨ ((F == -1) = true ∧ decide (0 ≤ R) = true ∧ decide (R ≤ 1099511627776) = true ∧ decide (0 ≤ F) = false ∧ facB M = true ∧ facB D = false) ∨ ((F == -1) = true ∧ decide (0 ≤ R) = true ∧ decide (R ≤ 1099511627776) = true ∧ decide (0 ≤ F) = false ∧ facB M = true ∧ facB D = true ∧ decide (L < 0) = true) ∨ ((F == -1) = true ∧ decide (0 ≤ R) = true ∧ decide (R ≤ 1099511627776) = true ∧ decide (0 ≤ F) = false ∧ facB M = true ∧ facB D = true ∧ decide (L < 0) = false ∧ decide (H < L) = true) ∨ ((F == -1) = true ∧ decide (0 ≤ R) = true ∧ decide (R ≤ 1099511627776) = true ∧ decide (0 ≤ F) = false ∧ facB M = true ∧ facB D = true ∧ decide (L < 0) = false ∧ decide (H < L) = false ∧ decide (1099511627776 < H) = true) ∨ ((F == -1) = false ∧ decide (0 ≤ F) = true ∧ decide (F < i) = true ∧ (R == 0) = true ∧ facB M = false) ∨ ((F == -1) = false ∧ decide (0 ≤ F) = true ∧ decide (F < i) = true ∧ (R == 0) = true ∧ facB M = true ∧ facB D = false) ∨ ((F == -1) = false ∧ decide (0 ≤ F) = true ∧ decide (F < i) = true ∧ (R == 0) = true ∧ facB M = true ∧ facB D = true ∧ decide (L < 0) = true) ∨ ((F == -1) = false ∧ decide (0 ≤ F) = true ∧ decide (F < i) = true ∧ (R == 0) = true ∧ facB M = true ∧ facB D = true ∧ decide (L < 0) = false ∧ decide (H < L) = true) ∨ ((F == -1) = false ∧ decide (0 ≤ F) = true ∧ decide (F < i) = true ∧ (R == 0) = true ∧ facB M = true ∧ facB D = true ∧ decide (L < 0) = false ∧ decide (H < L) = false ∧ decide (1099511627776 < H) = true) := by
  rw [okB_eq] at h
  exact taut_bad (F == -1) (decide (0 ≤ R)) (decide (R ≤ 1099511627776)) (decide (0 ≤ F)) (decide (F < i)) (R == 0) (facB M) (facB D) (decide (L < 0)) (decide (H < L)) (decide (1099511627776 < H)) (apart F) h
theorem ok_good (F R M D L H i : Int) (h : okB F R M D L H i = true) : ((F == -1) = true ∧ decide (0 ≤ R) = true ∧ decide (R ≤ 1099511627776) = true ∧ decide (0 ≤ F) = false ∧ facB M = true ∧ facB D = true ∧ decide (L < 0) = false ∧ decide (H < L) = false ∧ decide (1099511627776 < H) = false) ∨ ((F == -1) = false ∧ decide (0 ≤ F) = true ∧ decide (F < i) = true ∧ (R == 0) = true ∧ facB M = true ∧ facB D = true ∧ decide (L < 0) = false ∧ decide (H < L) = false ∧ decide (1099511627776 < H) = false) := by
  rw [okB_eq] at h
  exact taut_good (F == -1) (decide (0 ≤ R)) (decide (R ≤ 1099511627776)) (decide (0 ≤ F)) (decide (F < i)) (R == 0) (facB M) (facB D) (decide (L < 0)) (decide (H < L)) (decide (1099511627776 < H)) (apart F) h
def okAt (l : List Clk) (j : Nat) : Bool := match l[j]? with
  | some c => okB c.frm c.rate c.mul c.div c.lo c.hi j
  | none => true
theorem okAt_get (l : List Clk) (j : Nat) (h : j < l.length) : okAt l j = okB l[j].frm l[j].rate l[j].mul l[j].div l[j].lo l[j].hi j := by simp [okAt, h]
def mayB (l : List Clk) : Bool := decide (l.length ≤ 512) && (List.range l.length).all (okAt l)
theorem mayB_bad {l : List Clk} {j : Nat} (h : j < l.length) (hb : okAt l j = false) : mayB l = false := by
  unfold mayB
  rw [Bool.and_eq_false_iff]
  exact .inr (List.all_eq_false.2 ⟨j, by simpa using h, by simp [hb]⟩)
theorem mayB_all {l : List Clk} (h : ∀ j, j < l.length → okAt l j = true) : mayB l = decide (l.length ≤ 512) := by
  unfold mayB
  rw [List.all_eq_true.2 (fun j hj => h j (by simpa using hj)), Bool.and_true]
theorem mayB_iff {l : List Clk} : mayB l = true ↔ l.length ≤ 512 ∧ ∀ j, j < l.length → okAt l j = true := by
  unfold mayB
  simp
end Go.Proofs.Ytbahclnpgdejlaa
