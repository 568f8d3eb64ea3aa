/- Cards that may be: plain law; names, named, better: contracts. -/
import Derived.Test.YtiheibcookcbdaaDoorCMay
set_option linter.unusedVariables false
namespace Go.Proofs.YtiheibcookcbdaaDoor
open Go.RowKit
def cdat (l : List Cd) : List Cc := l.map Cd.d
theorem cdat_len (l : List Cd) : (cdat l).length = l.length := by simp [cdat]
theorem cdat_get (l : List Cd) {i : Nat} (hi : i < l.length) : (cdat l)[i]'(by rw [cdat_len]; exact hi) = l[i].d := by simp [cdat]
theorem cdat_take (l : List Cd) (k : Nat) : cdat (l.take k) = (cdat l).take k := by simp [cdat]
def namedB (l : List Cc) (nm : ByteArray) : Bool := l.any fun y => y.nm == nm
theorem named_iff {l : List Cc} {nm : ByteArray} : namedB l nm = true ↔ ∃ (j : Nat) (h : j < l.length), l[j].nm = nm := by
  unfold namedB
  rw [List.any_eq_true]
  constructor
  · rintro ⟨x, hx, e⟩
    obtain ⟨j, hj, rfl⟩ := List.mem_iff_getElem.1 hx
    exact ⟨j, hj, beq_of.1 e⟩
  · rintro ⟨j, hj, e⟩
    exact ⟨_, List.getElem_mem hj, beq_of.2 e⟩
/-- How great cards may be. -/
structure CSized (l : List Cd) : Prop where
  n : l.length * 96 ≤ 140737488355328
  fits : ∀ x ∈ l, x.d.fits
  tn : ∀ x ∈ l, x.d.ts.length * 16 ≤ 140737488355328
  sc : ∀ x ∈ l, -128 ≤ x.d.sc ∧ x.d.sc ≤ 127
theorem ok_iff {l : List Cc} : allOk l = true ↔ ∀ i (h : i < l.length), i < 64 ∧ mayB l[i] = true ∧ namedB (l.take i) l[i].nm = false := by
  unfold allOk
  rw [List.all_eq_true]
  constructor
  · intro h i hi
    have := h i (List.mem_range.2 hi)
    unfold cardOk at this
    rw [List.getElem?_eq_getElem hi] at this
    simp only [Bool.and_eq_true, decide_eq_true_eq, Bool.not_eq_true'] at this
    exact ⟨this.1.1, this.1.2, this.2⟩
  · intro h i hi
    have hi2 := List.mem_range.1 hi
    obtain ⟨h1, h2, h3⟩ := h i hi2
    unfold cardOk
    rw [List.getElem?_eq_getElem hi2]
    simp only [Bool.and_eq_true, decide_eq_true_eq, Bool.not_eq_true']
    exact ⟨⟨h1, h2⟩, h3⟩
theorem ok_no {l : List Cc} {i : Nat} (hi : i < l.length) (h : ¬ (i < 64 ∧ mayB l[i] = true ∧ namedB (l.take i) l[i].nm = false)) : allOk l = false := by
  rw [Bool.eq_false_iff]
  exact fun h2 => h (ok_iff.1 h2 i hi)
/-- What a check hands back, but for the place. -/
def ChkRet (ok : Bool) (e : Ending) : Prop := ∃ k : Int, e = .returned (.tuple #[.int .i64 k, .int .i64 (if ok then 0 else 70)])
theorem cd_take : ∀ (l : List Cd) (k : Nat), (cdCells l).take (k * 7) = cdCells (l.take k)
  | [], k => by simp [cdCells]
  | x :: l, 0 => by simp [cdCells]
  | x :: l, k + 1 => by
    have e : cdCells (x :: l) = x.cells ++ cdCells l := rfl
    rw [e, List.take_append, List.take_of_length_le (by rw [cd_len]; omega), cd_len, show (k + 1) * 7 - 7 = k * 7 from by omega, cd_take l k]
    rfl
theorem Seg.card {w : World} {B : Nat} {a : Option Addr} {l : List Cd} (h : Seg w B a (cdCells l)) {k : Nat} (hk : k < l.length) : ∃ b off, a = some ⟨b, off, none⟩ ∧ b < B ∧
    w.cell? ⟨b, off + k * 7, none⟩ = some (.string l[k].d.nm) ∧ w.cell? ⟨b, off + k * 7 + 1, none⟩ = some (.string l[k].d.fam) ∧ w.cell? ⟨b, off + k * 7 + 2, none⟩ = some (.int .u8 (l[k].d.lv : Int)) ∧
    w.cell? ⟨b, off + k * 7 + 3, none⟩ = some (.slice l[k].A l[k].d.ts.length l[k].c) ∧ w.cell? ⟨b, off + k * 7 + 4, none⟩ = some (.int .i8 l[k].d.sc) ∧ w.cell? ⟨b, off + k * 7 + 5, none⟩ = some (.string l[k].d.qk) ∧
    w.cell? ⟨b, off + k * 7 + 6, none⟩ = some (.int .i16 l[k].d.en) := by
  obtain ⟨b, off, e, hb, hc⟩ := h.thing (f := Cd.cells) (m := 7) cd_len (by omega) hk
  exact ⟨b, off, e, hb, hc 0 _ rfl, hc 1 _ rfl, hc 2 _ rfl, hc 3 _ rfl, hc 4 _ rfl, hc 5 _ rfl, hc 6 _ rfl⟩
set_option maxRecDepth 100000 in
theorem named_any (A : Option Addr) (cap n : Nat) (l : List Cd) (hn : n = l.length) (hl : n ≤ 8796093022208) (nm : ByteArray) (w : World) (B : Nat) (hs : Seg w B A (cdCells l)) :
    Calls Tryd.prog 32 #[.slice A n cap, .string nm] w fun e w' => e = .returned (.bool (namedB (cdat l) nm)) ∧ w = w' := by
  have hno : (∀ (j : Nat) (h : j < l.length), l[j].d.nm ≠ nm) → namedB (cdat l) nm = false := fun h => by
    rw [Bool.eq_false_iff]
    intro h2
    obtain ⟨j, hj, e⟩ := named_iff.1 h2
    have hj2 : j < l.length := by rw [← cdat_len]; exact hj
    exact h j hj2 (by rw [← cdat_get l hj2]; exact e)
  have hyes : ∀ (j : Nat) (h : j < l.length), l[j].d.nm = nm → namedB (cdat l) nm = true := fun j h e => named_iff.2 ⟨j, by rw [cdat_len]; exact h, by rw [cdat_get l h]; exact e⟩
  obtain ⟨r, hr⟩ : ∃ r, r = namedB (cdat l) nm := ⟨_, rfl⟩
  rw [← hr] at hno ⊢
  simp only [← hr] at hyes
  have HN := Lib.hid hn
  have HS := Lib.hid hs
  have HNO := Lib.hid hno
  have HYES := Lib.hid hyes
  clear hn hs hno hyes hr
  go_enter Tryd.func32, Tryd.ntmps32
  go_wp2_with fail
  go_loop [5] (fun iv => ∃ k : Nat, k ≤ n ∧ iv = .int .i64 k ∧ ∀ (j : Nat) (h : j < l.length), j < k → l[j].d.nm ≠ nm) (fun iv => n - (intOf iv).toNat)
  case atStart => exact ⟨0, by omega, rfl, fun j _ h => by omega⟩
  case round =>
    obtain ⟨k, hk, rfl, hf⟩ := hrel
    have HF := Lib.hid hf
    clear hf
    by_cases hlt : k < n
    · have hkl : k < l.length := by rw [← HN.out]; exact hlt
      have hki : (k : Int) < (n : Int) := by omega
      obtain ⟨b, off, rfl, hbB, x0, _⟩ := HS.out.card hkl
      have hy := HYES.out k hkl
      obtain ⟨x, hx⟩ : ∃ x, x = l[k].d.nm := ⟨_, rfl⟩
      rw [← hx] at x0 hy
      have HX := Lib.hid hx
      have HY := Lib.hid hy
      clear hx hy
      by_cases he : x = nm
      · obtain rfl : r = true := HY.out he
        subst he
        have e3 : (x == x) = true := beq_of.2 rfl
        have e4 : (x.toList == x.toList) = true := by simp
        go_wp2_with fail
        go_ret
        exact ⟨rfl, rfl⟩
      · have e4 := str_ne he
        have hf2 : ∀ (j : Nat) (h : j < l.length), j < k + 1 → l[j].d.nm ≠ nm := fun j h hj => by
          rcases (show j < k ∨ j = k by omega) with h2 | rfl
          · exact HF.out j h h2
          · rw [← HX.out]; exact he
        have HF2 := Lib.hid hf2
        clear hf2
        go_wp2_with fail
        go_round
        case rel => exact ⟨k + 1, by omega, by go_num, HF2.out⟩
        case measure => simp [intOf]; omega
    · obtain rfl : k = n := by omega
      obtain rfl : r = false := HNO.out fun j h => HF.out j h (by rw [HN.out]; exact h)
      go_wp2_with fail
      go_ret
      exact ⟨rfl, rfl⟩
/-- Which of two cards goes ahead. -/
def betterB (s s' : Int) (n n' : ByteArray) : Bool := if s = s' then Op.bytesLess n.toList n'.toList else decide (s' < s)
end Go.Proofs.YtiheibcookcbdaaDoor
