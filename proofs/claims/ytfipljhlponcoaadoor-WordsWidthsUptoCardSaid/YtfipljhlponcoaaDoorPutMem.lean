/- How a text is shown: plain law. What is put: plain law. Rows and marks: memory. -/
import Derived.Test.YtfipljhlponcoaaDoorDec
import Derived.Lib.Strings
import Derived.Lib.Small
import Derived.Lib.AppendStr
import Derived.Deep.RegionHeld3
set_option linter.unusedVariables false
namespace Go.Proofs.YtfipljhlponcoaaDoor
open Go.RowKit
/-! How a text is shown: plain law. -/
/-- The rune that is taken at a text's front (-1: a break), and its bytes. -/
def cutN (l : List Nat) : Int × List Nat := match pcN l with
  | some (r, n) => ((r : Int), l.take n)
  | none => (-1, l.take 1)
def hexd (n : Nat) : Nat := if n < 10 then 48 + n else 87 + n
def escB (c : Nat) : List (List Nat) := [[92], [120], [hexd (c / 16)], [hexd (c % 16)]]
/-- What a piece shows, rune by rune; q: the byte that has a backslash ahead. -/
def elemsOf (q : Int) (p : Int × List Nat) : List (List Nat) :=
  if p.1 < 32 ∨ (127 ≤ p.1 ∧ p.1 ≤ 159) then p.2.flatMap escB else if p.1 = 92 ∨ p.1 = q then [[92], p.2] else [p.2]
def elems (q : Int) : Nat → List Nat → List (List Nat)
  | 0, _ => []
  | _ + 1, [] => []
  | f + 1, b :: t => elemsOf q (cutN (b :: t)) ++ elems q f ((b :: t).drop (cutN (b :: t)).2.length)
theorem cut_len {l : List Nat} (hl : ∀ x ∈ l, x < 256) (h : l ≠ []) : 1 ≤ (cutN l).2.length ∧ (cutN l).2.length ≤ l.length ∧ (cutN l).2.length ≤ 4 ∧ (cutN l).2 = l.take (cutN l).2.length := by
  have h0 : 1 ≤ l.length := by
    cases l with
    | nil => exact absurd rfl h
    | cons a t => simp
  unfold cutN
  rcases hp : pcN l with _ | ⟨r, n⟩
  · simp only [List.length_take]
    refine ⟨by omega, by omega, by omega, ?_⟩
    rw [Nat.min_eq_left (by omega)]
  · obtain ⟨h1, h2, h3⟩ := pc_some hl hp
    have h4 := enc_len r
    have h5 := congrArg List.length h3
    rw [List.length_take, ← h2] at h5
    simp only [List.length_take]
    refine ⟨by omega, by omega, by omega, ?_⟩
    rw [Nat.min_eq_left (by omega)]
/-- A rune's bytes. -/
def isRune (e : List Nat) : Prop := ∃ r, okR r ∧ e = encN r
theorem rune_small {b : Nat} (h : b < 128) : isRune [b] := ⟨b, by unfold okR; omega, by unfold encN; rw [if_pos h]⟩
theorem hexd_lt {n : Nat} (h : n < 16) : hexd n < 128 := by unfold hexd; split <;> omega
theorem elems_rune (q : Int) {l : List Nat} (hl : ∀ x ∈ l, x < 256) (h : l ≠ []) : ∀ e ∈ elemsOf q (cutN l), isRune e := by
  intro e he
  have hc := cut_len hl h
  unfold elemsOf at he
  split at he
  · obtain ⟨c, hcm, he⟩ := List.mem_flatMap.1 he
    have hc256 : c < 256 := hl c (by rw [hc.2.2.2] at hcm; exact List.mem_of_mem_take hcm)
    unfold escB at he
    simp only [List.mem_cons, List.not_mem_nil, or_false] at he
    rcases he with rfl | rfl | rfl | rfl
    · exact rune_small (by omega)
    · exact rune_small (by omega)
    · exact rune_small (hexd_lt (by omega))
    · exact rune_small (hexd_lt (by omega))
  · rename_i hr
    have hrune : isRune (cutN l).2 := by
      unfold cutN at hr ⊢
      rcases hp : pcN l with _ | ⟨r, n⟩
      · rw [hp] at hr; simp at hr
      · obtain ⟨h1, h2, h3⟩ := pc_some hl hp
        exact ⟨r, h1, h3⟩
    split at he
    · simp only [List.mem_cons, List.not_mem_nil, or_false] at he
      rcases he with rfl | rfl
      · exact rune_small (by omega)
      · exact hrune
    · rw [List.mem_singleton] at he
      subst he
      exact hrune
theorem drop_lt {l : List Nat} (hl : ∀ x ∈ l, x < 256) (n : Nat) : ∀ x ∈ l.drop n, x < 256 := fun x hx => hl x (List.mem_of_mem_drop hx)
theorem all_rune (q : Int) : ∀ (f : Nat) (l : List Nat), (∀ x ∈ l, x < 256) → ∀ e ∈ elems q f l, isRune e
  | 0, l, _, e, he => by unfold elems at he; cases he
  | f + 1, [], _, e, he => by unfold elems at he; cases he
  | f + 1, b :: t, hl, e, he => by
    unfold elems at he
    rcases List.mem_append.1 he with he | he
    · exact elems_rune q hl (by simp) e he
    · exact all_rune q f _ (drop_lt hl _) e he
/-- More steps than bytes do not matter. -/
theorem elems_fuel (q : Int) : ∀ (f g : Nat) (l : List Nat), (∀ x ∈ l, x < 256) → l.length ≤ f → l.length ≤ g → elems q f l = elems q g l
  | 0, g, l, _, hf, _ => by
    obtain rfl : l = [] := List.eq_nil_of_length_eq_zero (by omega)
    cases g <;> rfl
  | f + 1, 0, l, _, _, hg => by
    obtain rfl : l = [] := List.eq_nil_of_length_eq_zero (by omega)
    rfl
  | f + 1, g + 1, [], _, _, _ => rfl
  | f + 1, g + 1, b :: t, hl, hf, hg => by
    have hc := cut_len hl (by simp)
    unfold elems
    rw [elems_fuel q f g _ (drop_lt hl _) (by rw [List.length_drop]; omega) (by rw [List.length_drop]; omega)]
/-- All that a text shows, rune by rune. -/
def shows (q : Int) (l : List Nat) : List (List Nat) := elems q l.length l
theorem shows_nil (q : Int) : shows q [] = [] := rfl
theorem shows_cons (q : Int) {l : List Nat} (hl : ∀ x ∈ l, x < 256) (h : l ≠ []) : shows q l = elemsOf q (cutN l) ++ shows q (l.drop (cutN l).2.length) := by
  cases l with
  | nil => exact absurd rfl h
  | cons b t =>
    have hc := cut_len hl h
    unfold shows
    rw [show (b :: t).length = t.length + 1 from rfl, elems]
    rw [elems_fuel q t.length _ _ (drop_lt hl _) (by rw [List.length_drop]; simp; omega) (Nat.le_refl _)]
/-- How many runes bytes hold. -/
def cntN : Nat → List Nat → Nat
  | 0, _ => 0
  | _ + 1, [] => 0
  | f + 1, b :: t => cntN f ((b :: t).drop ((pcN (b :: t)).getD (65533, 1)).2) + 1
theorem cnt_join : ∀ (es : List (List Nat)) (f : Nat), (∀ e ∈ es, isRune e) → es.flatten.length ≤ f → cntN f es.flatten = es.length
  | [], f, _, _ => by cases f <;> rfl
  | e :: es, f, h, hf => by
    obtain ⟨r, hr, he⟩ := h e (by simp)
    have hlen := enc_len r
    rw [← he] at hlen
    rw [List.flatten_cons, List.length_append] at hf
    obtain ⟨g, rfl⟩ : ∃ g, f = g + 1 := ⟨f - 1, by omega⟩
    have hpc : pcN (e ++ es.flatten) = some (r, e.length) := by rw [he]; exact pc_enc r hr _
    obtain ⟨b, t, hbt⟩ : ∃ b t, e ++ es.flatten = b :: t := by
      cases e with
      | nil => simp at hlen
      | cons b t => exact ⟨b, t ++ es.flatten, rfl⟩
    rw [List.flatten_cons, hbt, cntN, ← hbt, hpc]
    simp only [Option.getD_some, List.drop_left']
    rw [cnt_join es g (fun x hx => h x (by simp [hx])) (by omega)]
    rfl
end Go.Proofs.YtfipljhlponcoaaDoor

set_option linter.unusedVariables false
namespace Go.Proofs.YtfipljhlponcoaaDoor
open Go.RowKit
/-- Bytes as a row's values. -/
def bV (l : List Nat) : List Value := l.map fun (b : Nat) => Value.int .u8 (b : Int)
theorem bV_len (l : List Nat) : (bV l).length = l.length := by simp [bV]
theorem bV_app (l l' : List Nat) : bV (l ++ l') = bV l ++ bV l' := by simp [bV]
theorem bV_one (l : List Nat) : ∀ u ∈ bV l, u.oneCell' = true := fun u hu => by
  obtain ⟨b, _, rfl⟩ := List.mem_map.1 hu
  rfl
theorem str_bV (s : ByteArray) : Lib.strCells s = bV (nl s) := by simp [Lib.strCells, bV, nl]
theorem nl_extract (s : ByteArray) (i j : Nat) : nl (s.extract i j) = ((nl s).drop i).take (j - i) := by
  unfold nl
  rw [← List.map_drop, ← List.map_take]
  congr 1
  simp [ByteArray.data_extract, Array.toList_extract, List.extract]
theorem enc_fffd : encN 65533 = [239, 191, 189] := by decide
theorem pre_fffd (s : ByteArray) (pos : Nat) : Lib.hasPrefix (s.extract pos s.size).data.toList [239, 191, 189] = decide (pcN ((nl s).drop pos) = some (65533, 3)) := by
  have he : nl (s.extract pos s.size) = (nl s).drop pos := by
    rw [nl_extract, List.take_of_length_le]
    rw [List.length_drop, nl_len]
    omega
  rw [← he]
  generalize s.extract pos s.size = t
  rw [Bool.eq_iff_iff, decide_eq_true_iff]
  unfold Lib.hasPrefix
  rw [List.isPrefixOf_iff_prefix]
  constructor
  · rintro ⟨u, hu⟩
    have : nl t = encN 65533 ++ u.map UInt8.toNat := by
      unfold nl
      rw [← hu, enc_fffd]
      simp
    rw [this, pc_enc _ (by unfold okR; omega), enc_fffd]
    rfl
  · intro h
    obtain ⟨_, h2, h3⟩ := pc_some (nl_lt t) h
    rw [enc_fffd] at h3
    have h4 : (t.data.toList.take 3).map UInt8.toNat = [239, 191, 189] := by rw [List.map_take]; exact h3
    have h5 : t.data.toList.take 3 = [239, 191, 189] := by
      have hi : ∀ a b : List UInt8, a.map UInt8.toNat = b.map UInt8.toNat → a = b := fun a b h => by
        exact (List.map_inj_right (fun x y hxy => UInt8.toNat_inj.1 hxy)).1 h
      exact hi _ [239, 191, 189] h4
    exact ⟨t.data.toList.drop 3, by rw [← h5]; exact List.take_append_drop 3 _⟩
theorem len_enc (r : Nat) (h : okR r) : Lib.runeLen (r : Int) = ((encN r).length : Int) := by
  unfold okR at h
  unfold Lib.runeLen encN
  repeat' split
  all_goals first | rfl | (exfalso; omega)
/-- What stands at a place, as the code finds it: a rune; the bytes of U+FFFD; a break. -/
theorem cut_cases (s : ByteArray) (pos : Nat) (h : pos < s.size) :
    (∃ r : Nat, okR r ∧ r ≠ 65533 ∧ (Utf8.decode s pos).1 = (r : Int) ∧ cutN ((nl s).drop pos) = ((r : Int), ((nl s).drop pos).take (encN r).length) ∧ Lib.runeLen r = ((encN r).length : Int) ∧ (Utf8.decode s pos).2 = (encN r).length ∧ pos + (encN r).length ≤ s.size ∧ ((nl s).drop pos).take (encN r).length = encN r) ∨
    ((Utf8.decode s pos).1 = (65533 : Int) ∧ Lib.hasPrefix (s.extract pos s.size).data.toList [239, 191, 189] = true ∧ cutN ((nl s).drop pos) = (65533, ((nl s).drop pos).take 3) ∧ (Utf8.decode s pos).2 = 3 ∧ pos + 3 ≤ s.size) ∨
    ((Utf8.decode s pos).1 = (65533 : Int) ∧ Lib.hasPrefix (s.extract pos s.size).data.toList [239, 191, 189] = false ∧ cutN ((nl s).drop pos) = (-1, ((nl s).drop pos).take 1) ∧ (Utf8.decode s pos).2 = 1) := by
  rw [dec_pc s pos h, pre_fffd]
  unfold cutN
  rcases hp : pcN ((nl s).drop pos) with _ | ⟨r, k⟩
  · right; right
    simp
  · obtain ⟨h1, h2, h3⟩ := pc_some (drop_lt (nl_lt s) pos) hp
    have h4 := congrArg List.length h3
    rw [← h2, List.length_take, List.length_drop, nl_len] at h4
    by_cases hr : r = 65533
    · subst hr
      have hk : k = 3 := by rw [h2, enc_fffd]; rfl
      subst hk
      right; left
      simp
      omega
    · left
      exact ⟨r, h1, hr, by simp, by simp [h2], len_enc r h1, by simp [h2], by omega, by rw [← h2]; exact h3⟩
end Go.Proofs.YtfipljhlponcoaaDoor

set_option linter.unusedVariables false
namespace Go.Proofs.YtfipljhlponcoaaDoor
open Go.RowKit
theorem step_append_seg {P : Program} {w : World} {ops : Array Oper} {o : Oper} {a : Act} {K : Act → World → Prop} {Q : Exit → Act → World → Prop} {E : Prop} (hgd : o.guard = none) (s x : Operand) (t : TypeId)
    (ho : o.op = .call { callee := .builtin .append, args := #[s, x], argTypes := #[t, t] })
    (base : Nat) (e : TypeId) (i : TypeInfo) (z : Value) (size bytes : Nat) (ht : P.underlying t = some (.slice e)) (hi : P.info? e = some i) (hz : i.zero = some z)
    (hsize : i.size = size) (hby : i.bytes = bytes) (hzs : z.cells.size = size) (hsz : 0 < size)
    (v : Value) (n : Nat) (xs : List Value) (hs : a.eval s = v) (hown : w.ownsRow base e size v n xs)
    (B : Nat) (A : Option Addr) (m c : Nat) (news : List Value) (hx : a.eval x = .slice A m c) (hl : news.length = m * size) (hr : Seg w B A news) (h1 : ∀ u ∈ news, u.oneCell' = true)
    (h63 : n + m ≤ maxLen) (hbytes : (n + m) * bytes ≤ 140737488355328) (hbase : base ≤ w.heap.size)
    (h : ∀ v' w', w'.ownsRow base e size v' (n + m) (xs ++ news) → w.grownBy w' v.ownBlock → (v' = .slice none 0 0 → v = .slice none 0 0) → K (a.put o.dst v') w') :
    if Region.wanted o (yielded ops a.tmps) = true then Oper.wp P o a w K Q else E := by
  have hw : Region.wanted o (yielded ops a.tmps) = true := by simp [Region.wanted, hgd]
  rw [if_pos hw]
  obtain ⟨v', w', hrun, h2, h3, h4⟩ := run_append_seg (P := P) w base t o.type e i z size bytes ht hi hz hsize hby hzs hsz v n xs hown B A m c news hl hr h1 h63 hbytes hbase
  unfold Oper.wp execOp
  simp only [ho, resolve, invoke, builtin, Sem.run_bind, Sem.run_pure, Result.andThen_ok, List.map_toArray, List.map_cons, List.map_nil, hs, hx, hrun]
  exact h v' w' h2 h3 h4
/-- A text's bytes in a row that is told from every row of the call's own by its mark. -/
def Frz (w : World) (h : Nat) (l : List Nat) : Prop := ∃ row f, w.heap[h]? = some (.cells row 5 (f, f + 1)) ∧ ∀ k (hk : k < l.length), row[k]? = some (.int .u8 (l[k] : Int))
theorem Frz.new {P : Program} (w : World) (src dst : TypeId) (s : ByteArray) (hs : P.underlying src = some .string) (hd : P.underlying dst = some (.slice 5)) (he : P.underlying 5 = some (.int .u8)) :
    ∃ cap W, (convert src dst (.string s)).run P w = .ok (.slice (some ⟨w.heap.size, 0, none⟩) s.size cap) W ∧ Below w.heap.size w W ∧ w.heap.size < W.heap.size ∧ Frz W w.heap.size (nl s) := by
  refine ⟨_, _, run_bytes_of_string w src dst 5 s hs hd he, (Below.refl _ _).drew.alloc (Nat.le_refl _) _, by simp, _, _, heap_alloc_new w.drew _, fun k hk => ?_⟩
  have h : k < s.size := by rw [← nl_len]; exact hk
  unfold bytesRow
  rw [Array.getElem?_append_left (by simpa using h)]
  simp [nl, h]
theorem Frz.cell {w : World} {h k : Nat} {l : List Nat} (hf : Frz w h l) (hk : k < l.length) : w.cell? ⟨h, k, none⟩ = some (.int .u8 (l[k] : Int)) := by
  obtain ⟨row, f, h1, h2⟩ := hf
  rw [cell_of_row _ _ _ _ _ _ h1]
  exact h2 k hk
theorem Frz.lt {w : World} {h : Nat} {l : List Nat} (hf : Frz w h l) : h < w.heap.size := by
  obtain ⟨row, f, h1, h2⟩ := hf
  exact (Array.getElem?_eq_some_iff.1 h1).1
theorem Frz.alloc {w : World} {h : Nat} {l : List Nat} (hf : Frz w h l) (o : Obj) : Frz (w.alloc o) h l := by
  have hlt := hf.lt
  obtain ⟨row, f, h1, h2⟩ := hf
  exact ⟨row, f, (Below.heap_alloc _ _ _ hlt).trans h1, h2⟩
theorem Frz.grown {w w' : World} {h n base size : Nat} {e : TypeId} {v : Value} {xs : List Value} {l : List Nat} (hf : Frz w h l) (ho : w.ownsRow base e size v n xs) (hg : w.grownBy w' v.ownBlock) : Frz w' h l := by
  have hlt := hf.lt
  obtain ⟨row, f, h1, h2⟩ := hf
  refine ⟨row, f, (hg.block h hlt fun hh => ?_).trans h1, h2⟩
  rcases ho.2 with ⟨h3, _⟩ | ⟨g, cap, cur, h3, _, h4, _⟩
  · subst h3; cases hh
  · subst h3
    injection hh with hh
    simp only at hh
    subst hh
    rw [h1] at h4
    injection h4 with h4
    injection h4 with _ _ h4
    injection h4 with h5 h6
    omega
/-- A row made there and then. -/
theorem seg_new {w : World} {cs : Array Value} {e : TypeId} : Seg (w.alloc (.cells cs e)) (w.heap.size + 1) (some ⟨w.heap.size, 0, none⟩) cs.toList := fun _ => by
  refine ⟨_, _, rfl, by omega, fun j u hu => ?_⟩
  rw [Nat.zero_add, cell_of_row _ _ _ _ _ (0, 0) (heap_alloc_new w _)]
  simpa using hu
end Go.Proofs.YtfipljhlponcoaaDoor
