/- What is shown is unlike for unlike texts, and has nothing in it that breaks a line: plain law. -/
import Derived.Test.YtfipljhlponcoaaDoorLineM
set_option linter.unusedVariables false
namespace Go.Proofs.YtfipljhlponcoaaDoor
open Go.RowKit
def e34 (c : Nat) : List Nat := if c = 34 then [92, 34] else [c]
theorem e34_plain : ∀ l : List Nat, (∀ c ∈ l, c ≠ 34) → l.flatMap e34 = l
  | [], _ => rfl
  | c :: t, h => by
    rw [List.flatMap_cons, e34_plain t fun x hx => h x (by simp [hx])]
    unfold e34
    rw [if_neg (h c (by simp))]
    rfl
theorem hexd_ne {n : Nat} (h : n < 16) : hexd n ≠ 34 := by unfold hexd; split <;> omega
theorem esc_plain : ∀ bs : List Nat, (∀ c ∈ bs, c < 256) → ∀ c ∈ (bs.flatMap escB).flatten, c ≠ 34
  | [], _ => by simp
  | b :: t, h => by
    intro c hc
    have hb := h b (by simp)
    rw [List.flatMap_cons, List.flatten_append] at hc
    rcases List.mem_append.1 hc with hc | hc
    · unfold escB at hc
      simp at hc
      rcases hc with rfl | rfl | rfl | rfl
      · omega
      · omega
      · exact hexd_ne (by omega)
      · exact hexd_ne (by omega)
    · exact esc_plain t (fun x hx => h x (by simp [hx])) c hc
theorem enc_ne34 {r : Nat} (h : r ≠ 34) : ∀ c ∈ encN r, c ≠ 34 := by
  intro c hc
  unfold encN at hc
  repeat' split at hc
  all_goals simp at hc; omega
theorem elems_34 {l : List Nat} (hl : ∀ x ∈ l, x < 256) (h : l ≠ []) : (elemsOf 34 (cutN l)).flatten = (elemsOf 92 (cutN l)).flatten.flatMap e34 := by
  have hc := cut_len hl h
  have hlt : ∀ x ∈ (cutN l).2, x < 256 := fun x hx => hl x (by rw [hc.2.2.2] at hx; exact List.mem_of_mem_take hx)
  unfold elemsOf
  split
  · rw [e34_plain _ (esc_plain _ hlt)]
  rename_i hr
  obtain ⟨r, h1, h3⟩ : ∃ r : Nat, (cutN l).1 = (r : Int) ∧ (cutN l).2 = encN r := by
    unfold cutN at hr ⊢
    rcases hp : pcN l with _ | ⟨r, n⟩
    · rw [hp] at hr; simp at hr
    · obtain ⟨h1, h2, h3⟩ := pc_some hl hp
      exact ⟨r, rfl, h3⟩
  rw [h1, h3]
  by_cases h92 : r = 92
  · subst h92; decide
  by_cases h34 : r = 34
  · subst h34; decide
  rw [if_neg (by omega), if_neg (by omega)]
  simp only [List.flatten_cons, List.flatten_nil, List.append_nil]
  rw [e34_plain _ (enc_ne34 h34)]
theorem shows_34 : ∀ (f : Nat) (l : List Nat), (∀ x ∈ l, x < 256) → (elems 34 f l).flatten = (elems 92 f l).flatten.flatMap e34
  | 0, l, _ => rfl
  | f + 1, [], _ => rfl
  | f + 1, b :: t, hl => by
    unfold elems
    rw [List.flatten_append, List.flatten_append, List.flatMap_append, elems_34 hl (by simp), shows_34 f _ (drop_lt hl _)]
theorem quote_inj {a b : List Nat} (ha : ∀ x ∈ a, x < 256) (hb : ∀ x ∈ b, x < 256) (h : (shows 34 a).flatten = (shows 34 b).flatten) : a = b := by
  have h1 := (rq_qt hx2_is ha []).1
  have h2 := (rq_qt hx2_is hb []).1
  rw [h, h2] at h1
  exact (Prod.mk.inj h1).1.symm
theorem qt_inj {a b : List Nat} (ha : ∀ x ∈ a, x < 256) (hb : ∀ x ∈ b, x < 256) (h : qtN a = qtN b) : a = b := by
  unfold qtN at h
  injection h with _ h
  exact quote_inj ha hb (List.append_cancel_right h)
theorem show_inj {a b : List Nat} (ha : ∀ x ∈ a, x < 256) (hb : ∀ x ∈ b, x < 256) (h : (shows 92 a).flatten = (shows 92 b).flatten) : a = b := by
  refine quote_inj ha hb ?_
  have h1 := shows_34 a.length a ha
  have h2 := shows_34 b.length b hb
  unfold shows at h ⊢
  rw [h1, h2, h]
/-- A rune that a shown text may have. -/
def fineR (r : Nat) : Prop := okR r ∧ 32 ≤ r ∧ (r < 127 ∨ 159 < r)
theorem fine_elems {l : List Nat} (hl : ∀ x ∈ l, x < 256) (h : l ≠ []) : ∀ e ∈ elemsOf 92 (cutN l), ∃ r, fineR r ∧ e = encN r := by
  intro e he
  have hc := cut_len hl h
  have sm : ∀ b, 32 ≤ b → b < 127 → ∃ r, fineR r ∧ [b] = encN r := fun b h1 h2 => ⟨b, ⟨by unfold okR; omega, h1, .inl h2⟩, by unfold encN; rw [if_pos (by omega)]⟩
  have hx : ∀ n, n < 16 → ∃ r, fineR r ∧ [hexd n] = encN r := fun n hn => sm _ (by unfold hexd; split <;> omega) (by unfold hexd; split <;> omega)
  unfold elemsOf at he
  split at he
  · obtain ⟨c, hcm, he⟩ := List.mem_flatMap.1 he
    have hc256 : c < 256 := hl c (by rw [hc.2.2.2] at hcm; exact List.mem_of_mem_take hcm)
    unfold escB at he
    simp only [List.mem_cons, List.not_mem_nil, or_false] at he
    rcases he with rfl | rfl | rfl | rfl
    · exact sm 92 (by omega) (by omega)
    · exact sm 120 (by omega) (by omega)
    · exact hx _ (by omega)
    · exact hx _ (by omega)
  · rename_i hr
    have hrune : ∃ r, fineR r ∧ (cutN l).2 = encN r := by
      unfold cutN at hr ⊢
      rcases hp : pcN l with _ | ⟨r, n⟩
      · rw [hp] at hr; simp at hr
      · obtain ⟨h1, h2, h3⟩ := pc_some hl hp
        rw [hp] at hr
        simp only at hr
        exact ⟨r, ⟨h1, by omega, by omega⟩, h3⟩
    split at he
    · simp only [List.mem_cons, List.not_mem_nil, or_false] at he
      rcases he with rfl | rfl
      · exact sm 92 (by omega) (by omega)
      · exact hrune
    · rw [List.mem_singleton] at he
      subst he
      exact hrune
theorem fine_all : ∀ (f : Nat) (l : List Nat), (∀ x ∈ l, x < 256) → ∀ e ∈ elems 92 f l, ∃ r, fineR r ∧ e = encN r
  | 0, l, _, e, he => by unfold elems at he; cases he
  | f + 1, [], _, e, he => by unfold elems at he; cases he
  | f + 1, b :: t, hl, e, he => by
    unfold elems at he
    rcases List.mem_append.1 he with he | he
    · exact fine_elems hl (by simp) e he
    · exact fine_all f _ (drop_lt hl _) e he
/-- What stands at a place of a shown text. -/
theorem fine_at {s t : ByteArray} (ht : nl t = (shows 92 (nl s)).flatten) {j : Nat} (hj : j < (shows 92 (nl s)).length) : ∃ r : Nat, fineR r ∧ ((shows 92 (nl s)).take j).flatten.length < t.size ∧
    (Utf8.decode t ((shows 92 (nl s)).take j).flatten.length).1 = (r : Int) ∧ ((shows 92 (nl s)).take j).flatten.length + (Utf8.decode t ((shows 92 (nl s)).take j).flatten.length).2 = ((shows 92 (nl s)).take (j + 1)).flatten.length ∧
    (r = 65533 → ∀ h : ((shows 92 (nl s)).take j).flatten.length < t.size, (t[((shows 92 (nl s)).take j).flatten.length]'h).toNat = 239) := by
  obtain ⟨r, hr, he⟩ := fine_all _ _ (nl_lt s) (shows 92 (nl s))[j] (List.getElem_mem hj)
  have hrn := run_dec (es := shows 92 (nl s)) (fun e he => all_rune 92 _ _ (nl_lt s) e he) ht hj
  have hd : (nl t).drop ((shows 92 (nl s)).take j).flatten.length = encN r ++ ((shows 92 (nl s)).drop (j + 1)).flatten := by
    rw [ht, ← he]
    conv => lhs; arg 2; rw [← List.take_append_drop j (shows 92 (nl s)), List.flatten_append]
    rw [List.drop_left, List.drop_eq_getElem_cons hj, List.flatten_cons]
  refine ⟨r, hr, hrn.1, ?_, by omega, fun h65 h => ?_⟩
  · rw [dec_pc t _ hrn.1, hd, pc_enc r hr.1]
    rfl
  · have h0 := nl_getD t ((shows 92 (nl s)).take j).flatten.length 0 h
    rw [hd, h65, enc_fffd] at h0
    exact h0.symm
theorem wN_ge (a : List Nat) (ha : ∀ x ∈ a, x < 256) : a.length ≤ (wN a).length := by
  unfold wN
  split
  · exact Nat.le_refl _
  · have h1 := (rq_qt hx2_is ha []).1
    have h2 := rq_len ((shows 34 a).flatten ++ [34])
    rw [h1] at h2
    unfold qtN
    simp only [List.length_cons, List.length_append, List.length_nil] at h2 ⊢
    omega
theorem line_ge : ∀ ls : List (List Nat), (∀ a ∈ ls, ∀ x ∈ a, x < 256) → ls.flatten.length + ls.length ≤ (lineN ls).length + 1 ∧ ∀ a ∈ ls, a.length ≤ (lineN ls).length
  | [], _ => by simp [lineN]
  | a :: r, h => by
    have ht : ∀ r : List (List Nat), (∀ a ∈ r, ∀ x ∈ a, x < 256) → r.flatten.length + r.length ≤ (tailN r).length ∧ ∀ a ∈ r, a.length ≤ (tailN r).length := fun r => by
      induction r with
      | nil => intro _; simp [tailN]
      | cons b t ih =>
        intro h
        have ih' := ih fun x hx => h x (by simp [hx])
        have h1 := wN_ge b (h b (by simp))
        have e : tailN (b :: t) = 32 :: wN b ++ tailN t := by simp [tailN]
        rw [e]
        simp only [List.flatten_cons, List.length_append, List.length_cons]
        refine ⟨by omega, fun x hx => ?_⟩
        rcases List.mem_cons.1 hx with rfl | hx
        · omega
        · have := ih'.2 x hx
          omega
    have h2 := ht r fun x hx => h x (by simp [hx])
    have h1 := wN_ge a (h a (by simp))
    unfold lineN
    simp only [List.flatten_cons, List.length_append, List.length_cons]
    refine ⟨by omega, fun x hx => ?_⟩
    rcases List.mem_cons.1 hx with rfl | hx
    · omega
    · have := h2.2 x hx
      omega
theorem fld_some {l : List Nat} {ls : List (List Nat)} (h : fldN l = some ls) : lineN ls = l := by
  unfold fldN at h
  split at h
  · injection h with h
    subst h
    assumption
  · cases h
theorem map_inj {a b : List ByteArray} (h : a.map nl = b.map nl) : a = b := (List.map_inj_right (fun x y hxy => nl_inj hxy)).1 h
/-- What is told as a line is read as these words. -/
theorem fld_line (ts : List ByteArray) : fldN (lineN (ts.map nl)) = some (ts.map nl) := by
  unfold fldN
  rw [(fields_line hx2_is _ (map_lt ts)).1, if_pos rfl]
theorem sz_line {s : ByteArray} {ts : List ByteArray} (hs : s.size ≤ 1048576) (h : fldN (nl s) = some (ts.map nl)) : LSz ts := by
  have hl := fld_some h
  have hg := line_ge (ts.map nl) (map_lt ts)
  rw [hl, nl_len] at hg
  refine ⟨fun t ht => ?_, ?_⟩
  · have := hg.2 (nl t) (List.mem_map.2 ⟨t, ht, rfl⟩)
    rw [nl_len] at this
    omega
  · have := hg.1
    rw [List.length_map] at this
    omega
end Go.Proofs.YtfipljhlponcoaaDoor
