/- Runes and their bytes: plain law. What the model takes of a text at a place: plain law. -/
import Derived.Test.YtfipljhlponcoaaDoorBase
import Derived.Lib.RuneCount
set_option linter.unusedVariables false
namespace Go.Proofs.YtfipljhlponcoaaDoor
open Go.RowKit
/-! Runes and their bytes: plain law. No program in sight. -/
def at_ (l : List UInt8) (k : Nat) : Nat := (l.getD k 0).toNat
theorem at_lt (l : List UInt8) (k : Nat) : at_ l k < 256 := (l.getD k 0).toNat_lt
/-- May a number be a rune's? -/
def okR (r : Nat) : Prop := r < 0xD800 ∨ (0xE000 ≤ r ∧ r ≤ 0x10FFFF)
instance (r : Nat) : Decidable (okR r) := by unfold okR; infer_instance
/-- A rune's bytes, as numbers. -/
def encN (r : Nat) : List Nat :=
  if r < 0x80 then [r] else if r < 0x800 then [0xC0 + r / 64, 0x80 + r % 64] else if r < 0x10000 then [0xE0 + r / 4096, 0x80 + r / 64 % 64, 0x80 + r % 64]
  else [0xF0 + r / 262144, 0x80 + r / 4096 % 64, 0x80 + r / 64 % 64, 0x80 + r % 64]
/-- What is taken of a text at its front: the rune and how many bytes; none: a break. -/
def pcN (l : List Nat) : Option (Nat × Nat) :=
  match l with
  | [] => none
  | b0 :: t =>
    if b0 < 0x80 then some (b0, 1)
    else match t with
      | [] => none
      | b1 :: t =>
        if b0 / 32 = 6 ∧ b1 / 64 = 2 then (if 0x80 ≤ b0 % 32 * 64 + b1 % 64 then some (b0 % 32 * 64 + b1 % 64, 2) else none)
        else match t with
          | [] => none
          | b2 :: t =>
            if b0 / 16 = 14 ∧ b1 / 64 = 2 ∧ b2 / 64 = 2 then (if 0x800 ≤ b0 % 16 * 4096 + b1 % 64 * 64 + b2 % 64 ∧ okR (b0 % 16 * 4096 + b1 % 64 * 64 + b2 % 64) then some (b0 % 16 * 4096 + b1 % 64 * 64 + b2 % 64, 3) else none)
            else match t with
              | [] => none
              | b3 :: _ =>
                if b0 / 8 = 30 ∧ b1 / 64 = 2 ∧ b2 / 64 = 2 ∧ b3 / 64 = 2 then (if 0x10000 ≤ b0 % 8 * 262144 + b1 % 64 * 4096 + b2 % 64 * 64 + b3 % 64 ∧ okR (b0 % 8 * 262144 + b1 % 64 * 4096 + b2 % 64 * 64 + b3 % 64) then some (b0 % 8 * 262144 + b1 % 64 * 4096 + b2 % 64 * 64 + b3 % 64, 4) else none)
                else none
theorem enc_len (r : Nat) : 1 ≤ (encN r).length ∧ (encN r).length ≤ 4 := by
  unfold encN
  repeat' split
  all_goals simp
/-- What a rune's bytes begin is that rune. -/
theorem pc_enc (r : Nat) (h : okR r) (rest : List Nat) : pcN (encN r ++ rest) = some (r, (encN r).length) := by
  unfold okR at h
  unfold encN
  split
  · simp only [List.cons_append, List.nil_append, pcN]
    rw [if_pos (by omega)]; rfl
  split
  · simp only [List.cons_append, List.nil_append, pcN]
    have e : (192 + r / 64) % 32 * 64 + (128 + r % 64) % 64 = r := by omega
    rw [e, if_neg (by omega), if_pos (by omega), if_pos (by omega)]
    rfl
  split
  · simp only [List.cons_append, List.nil_append, pcN]
    rw [if_neg (by omega), if_neg (by omega), if_pos (by omega)]
    have e : (224 + r / 4096) % 16 * 4096 + (128 + r / 64 % 64) % 64 * 64 + (128 + r % 64) % 64 = r := by omega
    rw [e, if_pos ⟨by omega, h⟩]
    rfl
  · simp only [List.cons_append, List.nil_append, pcN]
    rw [if_neg (by omega), if_neg (by omega), if_neg (by omega), if_pos (by omega)]
    have e : (240 + r / 262144) % 8 * 262144 + (128 + r / 4096 % 64) % 64 * 4096 + (128 + r / 64 % 64) % 64 * 64 + (128 + r % 64) % 64 = r := by omega
    rw [e, if_pos ⟨by omega, h⟩]
    rfl
/-- Where a rune begins its bytes stand. -/
theorem pc_some {l : List Nat} (hl : ∀ x ∈ l, x < 256) {r n : Nat} (h : pcN l = some (r, n)) : okR r ∧ n = (encN r).length ∧ l.take n = encN r := by
  unfold pcN at h
  split at h
  · cases h
  rename_i b0 t
  have h0 : b0 < 256 := hl b0 (by simp)
  split at h
  · injection h with h; injection h with h1 h2
    subst h1 h2
    unfold encN okR
    rw [if_pos (by assumption)]
    exact ⟨by omega, rfl, rfl⟩
  split at h
  · cases h
  rename_i b1 t
  have h1 : b1 < 256 := hl b1 (by simp)
  split at h
  · split at h
    · injection h with h; injection h with h1' h2'
      subst h1' h2'
      unfold encN okR
      rw [if_neg (by omega), if_pos (by omega)]
      refine ⟨by omega, rfl, ?_⟩
      simp only [List.take_succ_cons, List.take_zero, List.cons.injEq, and_true]
      omega
    · cases h
  split at h
  · cases h
  rename_i b2 t
  have h2 : b2 < 256 := hl b2 (by simp)
  split at h
  · split at h
    · rename_i hb hr
      injection h with h; injection h with h1' h2'
      subst h1' h2'
      refine ⟨hr.2, ?_⟩
      unfold encN
      rw [if_neg (by omega), if_neg (by omega), if_pos (by omega)]
      refine ⟨rfl, ?_⟩
      simp only [List.take_succ_cons, List.take_zero, List.cons.injEq, and_true]
      omega
    · cases h
  split at h
  · cases h
  rename_i b3 t
  have h3 : b3 < 256 := hl b3 (by simp)
  split at h
  · split at h
    · rename_i hb hr
      injection h with h; injection h with h1' h2'
      subst h1' h2'
      refine ⟨hr.2, ?_⟩
      unfold encN
      rw [if_neg (by omega), if_neg (by omega), if_neg (by omega)]
      refine ⟨rfl, ?_⟩
      simp only [List.take_succ_cons, List.take_zero, List.cons.injEq, and_true]
      omega
    · cases h
  · cases h
end Go.Proofs.YtfipljhlponcoaaDoor

set_option linter.unusedVariables false
namespace Go.Proofs.YtfipljhlponcoaaDoor
open Go.RowKit
def nl (s : ByteArray) : List Nat := s.data.toList.map UInt8.toNat
theorem nl_len (s : ByteArray) : (nl s).length = s.size := by simp [nl]
theorem nl_lt (s : ByteArray) : ∀ x ∈ nl s, x < 256 := fun x hx => by
  obtain ⟨b, _, rfl⟩ := List.mem_map.1 hx
  exact b.toNat_lt
theorem nl_get (s : ByteArray) {i : Nat} (h : i < s.size) : (nl s)[i]'(by rw [nl_len]; exact h) = (s.get! i).toNat := by
  have : s.get! i = s[i]'h := by
    show s.data[i]! = _
    rw [getElem!_pos s.data i h]
    rfl
  rw [this]
  simp [nl]
  rfl
theorem valid_ok (c : Nat) : Utf8.valid (c : Int) = decide (okR c) := by
  rw [Bool.eq_iff_iff, decide_eq_true_iff]
  unfold Utf8.valid okR
  simp only [Bool.or_eq_true, Bool.and_eq_true, decide_eq_true_eq]
  omega
/-- The rune that the model takes of a text at a place. -/
theorem dec_pc (s : ByteArray) (pos : Nat) (h : pos < s.size) : Utf8.decode s pos = (pcN ((nl s).drop pos)).getD (65533, 1) := by
  have hl : ((nl s).drop pos).length = s.size - pos := by rw [List.length_drop, nl_len]
  have hg : ∀ k (hk : k < ((nl s).drop pos).length), (s.get! (pos + k)).toNat = ((nl s).drop pos)[k] := fun k hk => by
    rw [← nl_get s (by omega)]
    simp
  have hb : ∀ k, (decide (pos + k < s.size)) = decide (k < ((nl s).drop pos).length) := fun k => by
    rw [hl, Bool.eq_iff_iff]; simp; omega
  unfold Utf8.decode
  simp only [hb, valid_ok, Utf8.runeError]
  generalize (nl s).drop pos = l at *
  match l, hl with
  | [], hl => simp at hl; omega
  | [b0], _ =>
    have g0 := hg 0 (by simp)
    simp only [List.getElem_cons_zero] at g0
    simp only [g0, pcN]
    by_cases h1 : b0 < 128
    · simp [h1]
    · simp [h1]
  | [b0, b1], _ =>
    have g0 := hg 0 (by simp)
    have g1 := hg 1 (by simp)
    simp only [List.getElem_cons_zero, List.getElem_cons_succ] at g0 g1
    simp only [g0, g1, pcN]
    have e2 : (b0 / 32 == 6 && b1 / 64 == 2) = decide (b0 / 32 = 6 ∧ b1 / 64 = 2) := by rw [Bool.eq_iff_iff]; simp
    simp only [List.length_cons, List.length_nil, e2, Nat.reduceAdd, Nat.reduceLT, decide_true, decide_false, Bool.true_and, Bool.false_and, Bool.and_false, decide_eq_true_eq, Bool.false_eq_true, if_false]
    repeat' split
    all_goals first | rfl | (exfalso; omega) | simp_all
  | [b0, b1, b2], _ =>
    have g0 := hg 0 (by simp)
    have g1 := hg 1 (by simp)
    have g2 := hg 2 (by simp)
    simp only [List.getElem_cons_zero, List.getElem_cons_succ] at g0 g1 g2
    simp only [g0, g1, g2, pcN]
    have e2 : (b0 / 32 == 6 && b1 / 64 == 2) = decide (b0 / 32 = 6 ∧ b1 / 64 = 2) := by rw [Bool.eq_iff_iff]; simp
    have e3 : (b0 / 16 == 14 && b1 / 64 == 2 && b2 / 64 == 2) = decide (b0 / 16 = 14 ∧ b1 / 64 = 2 ∧ b2 / 64 = 2) := by rw [Bool.eq_iff_iff]; simp [and_assoc]
    simp only [List.length_cons, List.length_nil, e2, e3, Nat.reduceAdd, Nat.reduceLT, decide_true, decide_false, Bool.true_and, Bool.false_and, Bool.and_false, decide_eq_true_eq, Bool.false_eq_true, if_false, Bool.and_eq_true]
    repeat' split
    all_goals first | rfl | (exfalso; omega) | simp_all
  | b0 :: b1 :: b2 :: b3 :: t, _ =>
    have g0 := hg 0 (by simp)
    have g1 := hg 1 (by simp)
    have g2 := hg 2 (by simp)
    have g3 := hg 3 (by simp)
    simp only [List.getElem_cons_zero, List.getElem_cons_succ] at g0 g1 g2 g3
    simp only [g0, g1, g2, g3, pcN]
    have e2 : (b0 / 32 == 6 && b1 / 64 == 2) = decide (b0 / 32 = 6 ∧ b1 / 64 = 2) := by rw [Bool.eq_iff_iff]; simp
    have e3 : (b0 / 16 == 14 && b1 / 64 == 2 && b2 / 64 == 2) = decide (b0 / 16 = 14 ∧ b1 / 64 = 2 ∧ b2 / 64 = 2) := by rw [Bool.eq_iff_iff]; simp [and_assoc]
    have e4 : (b0 / 8 == 30 && b1 / 64 == 2 && b2 / 64 == 2 && b3 / 64 == 2) = decide (b0 / 8 = 30 ∧ b1 / 64 = 2 ∧ b2 / 64 = 2 ∧ b3 / 64 = 2) := by rw [Bool.eq_iff_iff]; simp [and_assoc]
    have l0 : ∀ k, k < 4 → decide (k < (b0 :: b1 :: b2 :: b3 :: t).length) = true := fun k hk => by simp; omega
    simp only [l0 1 (by omega), l0 2 (by omega), l0 3 (by omega), e2, e3, e4, Bool.true_and, decide_eq_true_eq, Bool.and_eq_true]
    repeat' split
    all_goals first | rfl | (exfalso; omega) | simp_all
end Go.Proofs.YtfipljhlponcoaaDoor
