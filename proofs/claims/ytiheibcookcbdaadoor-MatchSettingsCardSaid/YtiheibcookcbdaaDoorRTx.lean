/- The document's texts: the contract. -/
import Derived.Test.YtiheibcookcbdaaDoorTextsLaw
set_option linter.unusedVariables false
namespace Go.Proofs.YtiheibcookcbdaaDoor
open Go.RowKit
def NoZero (s : ByteArray) (k : Nat) : Prop := ∀ m (h : m < s.size), m < k → (s[m]'h).toNat ≠ 0
def TextOk (s : ByteArray) : Prop := 1 ≤ s.size ∧ s.size ≤ 63 ∧ NoZero s s.size
theorem text_ok {s : ByteArray} : textB s = true ↔ TextOk s := by
  rw [text_iff]
  exact ⟨fun h => ⟨h.1, h.2.1, fun m hm _ => h.2.2 m hm⟩, fun h => ⟨h.1, h.2.1, fun m hm => h.2.2 m hm hm⟩⟩
theorem texts_lo {l : List ByteArray} (h : l.length < 1) : textsB l = false := by
  rw [Bool.eq_false_iff]; intro h2; have := (texts_iff.1 h2).1; omega
theorem texts_hi {l : List ByteArray} (h : 8 < l.length) : textsB l = false := by
  rw [Bool.eq_false_iff]; intro h2; have := (texts_iff.1 h2).2.1; omega
theorem texts_bad {l : List ByteArray} {i : Nat} (hi : i < l.length) (h : ¬ TextOk l[i]) : textsB l = false := by
  rw [Bool.eq_false_iff]; intro h2; exact h (text_ok.1 ((texts_iff.1 h2).2.2 i hi).1)
theorem texts_dup {l : List ByteArray} {i k : Nat} (hi : i < l.length) (hk : k < i) (h : l[k]'(by omega) = l[i]) : textsB l = false := by
  rw [Bool.eq_false_iff]; intro h2
  have := ((texts_iff.1 h2).2.2 i hi).2
  rw [Bool.eq_false_iff] at this
  refine this (hasB_iff.2 ?_)
  rw [← h]
  exact List.mem_iff_getElem.2 ⟨k, by simp; omega, by simp⟩
theorem texts_yes {l : List ByteArray} (h1 : 1 ≤ l.length) (h8 : l.length ≤ 8) (h : ∀ i (hi : i < l.length), TextOk l[i] ∧ ∀ k (hk : k < i), l[k]'(by omega) ≠ l[i]) : textsB l = true := by
  refine texts_iff.2 ⟨h1, h8, fun i hi => ⟨text_ok.2 (h i hi).1, ?_⟩⟩
  rw [Bool.eq_false_iff, Ne, hasB_iff]
  intro hm
  obtain ⟨k, hk, e⟩ := List.mem_iff_getElem.1 hm
  simp at hk
  refine (h i hi).2 k (by omega) ?_
  rw [← e]; simp
/-- The texts so far are good. -/
def GoodTo (l : List ByteArray) (n : Nat) : Prop := ∀ i (hi : i < l.length), i < n → TextOk l[i] ∧ ∀ k (hk : k < i), l[k]'(by omega) ≠ l[i]
def Unlike (l : List ByteArray) (s : ByteArray) (k : Nat) : Prop := ∀ m (h : m < l.length), m < k → l[m] ≠ s
set_option maxRecDepth 100000 in
set_option maxHeartbeats 4000000 in
theorem rtexts_any (A : Option Addr) (cap : Nat) (l : List ByteArray) (n : Nat) (hn : n = l.length) (hz : ∀ t ∈ l, t.size ≤ maxLen) (w : World) (B : Nat) (hB : B ≤ w.heap.size) (hs : Seg w B A (strs l)) :
    Calls Tryd.prog 35 #[.slice A n cap] w fun e w' => e = .returned (.bool (textsB l)) ∧ Below w.heap.size w w' := by
  have hlo : n < 1 → textsB l = false := fun h => texts_lo (by omega)
  have hhi : 8 < n → textsB l = false := fun h => texts_hi (by omega)
  have hbad := fun i hi h => texts_bad (l := l) (i := i) hi h
  have hdup := fun i k hi hk h => texts_dup (l := l) (i := i) (k := k) hi hk h
  have hyes : 1 ≤ n → n ≤ 8 → GoodTo l n → textsB l = true := fun h1 h2 h3 => texts_yes (by omega) (by omega) fun i hi => h3 i hi (by omega)
  obtain ⟨r, hr⟩ : ∃ r, r = textsB l := ⟨_, rfl⟩
  rw [← hr] at hlo hhi hyes ⊢
  simp only [← hr] at hbad hdup
  have HBAD := Lib.hid hbad
  have HDUP := Lib.hid hdup
  have HYES := Lib.hid hyes
  have HLO := Lib.hid hlo
  have HHI := Lib.hid hhi
  have HN := Lib.hid hn
  have HS := Lib.hid hs
  have HZ := Lib.hid hz
  clear hn hs hz hlo hhi hbad hdup hyes hr
  by_cases h1 : n < 1
  · obtain rfl : r = false := HLO.out h1
    have hi : (n : Int) < 1 := by omega
    go_enter Tryd.func35, Tryd.ntmps35
    go_wp2_with fail
    go_ret
    exact ⟨rfl, Below.refl _ _⟩
  by_cases h8 : 8 < n
  · obtain rfl : r = false := HHI.out h8
    have hi : (8 : Int) < (n : Int) := by omega
    have hi1 : ¬ (n : Int) < 1 := by omega
    go_enter Tryd.func35, Tryd.ntmps35
    go_wp2_with fail
    go_ret
    exact ⟨rfl, Below.refl _ _⟩
  have hi : ¬ (8 : Int) < (n : Int) := by omega
  have hi1 : ¬ (n : Int) < 1 := by omega
  go_enter Tryd.func35, Tryd.ntmps35
  go_wp2_with fail
  go_loopw [3] (fun iv wr => ∃ i : Nat, i ≤ n ∧ iv = .int .i64 i ∧ GoodTo l i ∧ Below w.heap.size w wr) (fun iv _ => n - (intOf iv).toNat)
  case atStart => exact ⟨0, by omega, rfl, fun j h hj => by omega, Below.refl _ _⟩
  case round =>
    obtain ⟨i, hin, rfl, hgood, hb⟩ := hrel
    have HG := Lib.hid hgood
    have HB := Lib.hid hb
    clear hgood hb
    by_cases hlt : i < n
    · have hil : i < l.length := by rw [← HN.out]; exact hlt
      have hii : (i : Int) < (n : Int) := by omega
      have hse := HS.out.below (HB.out.mono hB)
      obtain ⟨b, off, rfl, hbB, x0⟩ := hse.strs hil
      have hzi := HZ.out _ (List.getElem_mem hil)
      have hbadi := HBAD.out i hil
      have hdupi := fun k => HDUP.out i k hil
      have hgo : TextOk l[i] → Unlike l l[i] i → GoodTo l (i + 1) := fun a1 a2 j hj hji => by
        rcases (show j < i ∨ j = i by omega) with h | rfl
        · exact HG.out j hj h
        · exact ⟨a1, fun k hk => a2 k (by omega) hk⟩
      obtain ⟨s, hs⟩ : ∃ s, s = l[i] := ⟨_, rfl⟩
      simp only [← hs] at x0 hzi hbadi hdupi hgo
      have HSE := Lib.hid hse
      have HBI := Lib.hid hbadi
      have HDI := Lib.hid hdupi
      have HGO := Lib.hid hgo
      unfold maxLen at hzi
      clear hs hse hbadi hdupi hgo
      by_cases s1 : s.size < 1
      · obtain rfl : r = false := HBI.out (fun h => by have := h.1; have := h.2.1; omega)
        have e1 : decide ((s.size : Int) < 1) = true := by simp; omega
        go_wp2_with fail
        go_ret
        exact ⟨rfl, HB.out⟩
      by_cases s8 : 63 < s.size
      · obtain rfl : r = false := HBI.out (fun h => by have := h.1; have := h.2.1; omega)
        have e1 : decide ((s.size : Int) < 1) = false := by simp; omega
        have e2 : decide ((63 : Int) < (s.size : Int)) = true := by simp; omega
        go_wp2_with fail
        go_ret
        exact ⟨rfl, HB.out⟩
      have e1 : decide ((s.size : Int) < 1) = false := by simp; omega
      have e2 : decide ((63 : Int) < (s.size : Int)) = false := by simp; omega
      go_wp2_with fail
      go_loop [4] (fun kv => ∃ k : Nat, k ≤ s.size ∧ kv = .int .i64 k ∧ NoZero s k) (fun kv => s.size - (intOf kv).toNat)
      case atStart => exact ⟨0, by omega, rfl, fun m h hm => by omega⟩
      case round =>
        obtain ⟨k, hk, rfl, hnz⟩ := hrel
        have HNZ := Lib.hid hnz
        clear hnz
        by_cases hks : k < s.size
        · by_cases hz : (s[k].toNat : Int) = 0
          · obtain rfl : r = false := HBI.out (fun h => h.2.2 k hks hks (by omega))
            have e3 : ((s[k].toNat : Int) == 0) = true := by simp [hz]
            go_wp2_with fail
            go_ret
            exact ⟨rfl, HB.out⟩
          · have e3 : ((s[k].toNat : Int) == 0) = false := by simpa using hz
            have hnz2 : NoZero s (k + 1) := fun m h hm => by
              rcases (show m < k ∨ m = k by omega) with h2 | rfl
              · exact HNZ.out m h h2
              · omega
            have HNZ2 := Lib.hid hnz2
            clear hnz2
            go_wp2_with fail
            go_round
            case rel => exact ⟨k + 1, by omega, by go_num, HNZ2.out⟩
            case measure => simp [intOf]; omega
        · obtain rfl : k = s.size := by omega
          go_wp2_with fail
          go_loopw [5] (fun kv wx => ∃ k : Nat, k ≤ i ∧ kv = .int .i64 k ∧ Unlike l s k ∧ Below w.heap.size w wx ∧ wx.cell? ⟨b, off + i, none⟩ = some (.string s) ∧ Seg wx B (some ⟨b, off, none⟩) (strs l)) (fun kv _ => i - (intOf kv).toNat)
          case atStart => exact ⟨0, by omega, rfl, fun m h hm => by omega, HB.out, x0, HSE.out⟩
          case round =>
            obtain ⟨k, hk, rfl, hun, hb2, y0, hse2⟩ := hrel
            have HUN := Lib.hid hun
            have HB2 := Lib.hid hb2
            clear hun hb2 x0
            by_cases hki : k < i
            · have hkl : k < l.length := by omega
              have hkii : (k : Int) < (i : Int) := by omega
              obtain ⟨b', off', hbo, _, z0⟩ := hse2.strs hkl
              injection hbo with hbo
              injection hbo with hb1 hb2
              subst hb1 hb2
              have HSE2 := Lib.hid hse2
              have hd := HDI.out k hki
              obtain ⟨t, ht⟩ : ∃ t, t = l[k] := ⟨_, rfl⟩
              rw [← ht] at z0 hd
              have HD := Lib.hid hd
              have HT := Lib.hid ht
              clear hse2 hd ht
              by_cases hst : t = s
              · obtain rfl : r = false := HD.out hst
                subst hst
                have e3 : (t == t) = true := beq_of.2 rfl
                have e4 : (t.toList == t.toList) = true := by simp
                go_wp2_with fail
                go_quiet (fail)
                go_wp2_with fail
                go_ret
                exact ⟨rfl, below_drewN HB2.out _⟩
              · have e3 : (t == s) = false := by
                  rcases h : t == s
                  · rfl
                  · exact absurd (beq_of.1 h) hst
                have e4 := str_ne hst
                have hun2 : Unlike l s (k + 1) := fun m h hm => by
                  rcases (show m < k ∨ m = k by omega) with h2 | rfl
                  · exact HUN.out m h h2
                  · rw [← HT.out]; exact hst
                have HUN2 := Lib.hid hun2
                clear hun2
                go_wp2_with fail
                go_quiet (fail)
                go_wp2_with fail
                exact ⟨⟨k + 1, by omega, by go_num, HUN2.out, below_drewN HB2.out _, y0, HSE2.out⟩, by simp [intOf]; omega⟩
            · obtain rfl : k = i := by omega
              have hgo2 := HGO.out ⟨by omega, by omega, HNZ.out⟩ HUN.out
              have HGO2 := Lib.hid hgo2
              clear hgo2
              go_wp2_with fail
              exact ⟨⟨k + 1, by omega, by go_num, HGO2.out, HB2.out⟩, by simp [intOf]; omega⟩
    · obtain rfl : i = n := by omega
      obtain rfl : r = true := HYES.out (by omega) (by omega) HG.out
      go_wp2_with fail
      go_ret
      exact ⟨rfl, HB.out⟩
end Go.Proofs.YtiheibcookcbdaaDoor
