/- Texts and Text: the contracts of both sides. -/
import Derived.Test.YtmdnbajbfnhecaaDoorFFind
set_option linter.unusedVariables false
namespace Go.Proofs.YtmdnbajbfnhecaaDoor
open Go.RowKit
/-- What Texts gives. -/
def TextsR (v : ByteArray) (e : Ending) (w' : World) : Prop := match textsL v.data.toList with
  | none => e = .returned (.tuple #[.slice none 0 0, .int .i64 4])
  | some ts => ∃ (A : Option Addr) (c m : Nat) (bs : List ByteArray), e = .returned (.tuple #[.slice A m c, .int .i64 0]) ∧ m = bs.length ∧ Seg w' w'.heap.size A (bs.map Value.string) ∧ bs.map (·.data.toList) = ts
theorem texts_snoc (b : List UInt8) (x : UInt8) : textsL (b ++ [x]) = if x = 0 then some (headsC 0 (b ++ [x])) else none := by
  unfold textsL
  rw [List.getLast?_concat]
theorem suffix_one (b : List UInt8) (x : UInt8) : Lib.hasSuffix (b ++ [x]) [0] = (x == 0) := by
  unfold Lib.hasSuffix List.isSuffixOf
  rw [List.reverse_append]
  simp only [List.reverse_cons, List.reverse_nil, List.nil_append, List.cons_append, List.isPrefixOf, Bool.and_true]
  by_cases h : x = 0
  · subst h; rfl
  · have h1 : ((0 : UInt8) == x) = false := by simpa using fun e => h e.symm
    have h2 : (x == 0) = false := by simpa using h
    rw [h1, h2]
theorem data_len (v : ByteArray) : v.data.toList.length = v.size := by rw [Array.length_toList]; rfl
set_option maxRecDepth 100000 in
set_option maxHeartbeats 4000000 in
theorem ptexts_any (v : ByteArray) (hz : v.size ≤ 1048576) (w : World) (hv : Var0 w) :
    Calls Tryd.prog 68 #[.string v] w fun e w' => TextsR v e w' ∧ Below w.heap.size w w' := by
  rcases List.eq_nil_or_concat v.data.toList with h | ⟨b, x, h⟩
  · have hv0 : v = ByteArray.empty := bytes_eq (by rw [h]; rfl)
    subst hv0
    clear h
    go_enter Tryd.func68, Tryd.ntmps68
    go_wp2_with fail
    go_ret2
    exact ⟨⟨none, 0, 0, [], rfl, rfl, Seg.nil, rfl⟩, Below.refl _ _⟩
  · rw [List.concat_eq_append] at h
    have hvl := data_len v
    rw [h, List.length_append, List.length_singleton] at hvl
    have hne : v.toList.isEmpty = false := by
      rw [ByteArray.toList_eq, h]
      cases b <;> rfl
    have hcs := Tryd.strings_CutSuffix v ⟨#[0]⟩ w (by omega)
    have hsuf : Lib.hasSuffix v.data.toList (⟨#[0]⟩ : ByteArray).data.toList = (x == 0) := by rw [h]; exact suffix_one b x
    rw [hsuf] at hcs
    by_cases hx : x = 0
    · subst hx
      have htr : Lib.trimSuffix v.data.toList (⟨#[0]⟩ : ByteArray).data.toList = b := by
        unfold Lib.trimSuffix
        rw [hsuf, if_pos (by rfl), h]
        show List.take ((b ++ [0]).length - 1) (b ++ [0]) = b
        simp
      rw [htr] at hcs
      obtain ⟨R, hR⟩ : ∃ R : ByteArray, R = ⟨b.toArray⟩ := ⟨_, rfl⟩
      have hRb : R.data.toList = b := by rw [hR]
      rw [← hR] at hcs
      have hRz : R.size = b.length := by rw [← data_len, hRb]
      obtain ⟨mv, hmv⟩ := hv
      have hsp := Tryd.strings_Split R ⟨#[0]⟩ mv w (by omega) hmv (by show 1 ≤ 1; omega)
      obtain ⟨ps, hps⟩ : ∃ ps, ps = Lib.splitB ⟨#[0]⟩ 0 (Lib.countB R ⟨#[0]⟩) R := ⟨_, rfl⟩
      have hpl : ps.length = Lib.countB R ⟨#[0]⟩ + 1 := by rw [hps]; exact Lib.splitB_all ⟨#[0]⟩ (Nat.le_refl 1) 0 _ R rfl
      have hpd : ps.map (·.data.toList) = splitC 0 b := by rw [hps, ← hRb]; exact split_shelf 0 R
      rw [← hps, ← hpl] at hsp
      have hT : textsL v.data.toList = some (ps.map (·.data.toList)) := by rw [h, texts_body, hpd]
      have hbt : ((0 : UInt8) == 0) = true := rfl
      rw [hbt] at hcs
      obtain ⟨K, hK⟩ : ∃ K, K = ps.length := ⟨_, rfl⟩
      rw [← hK] at hsp
      have HCS := Lib.hid hcs
      have HSP := Lib.hid hsp
      have HT := Lib.hid hT
      have HK := Lib.hid hK
      clear hcs hsp hT hpd hpl hps hmv hRz hRb hR htr hsuf h hvl hbt hK
      go_enter Tryd.func68, Tryd.ntmps68
      go_wp2_with (first
        | (go_at_call 89; refine HCS.out.mono ?_; rintro e w1 ⟨rfl, rfl⟩)
        | (go_at_call 65; refine HSP.out.mono ?_; rintro e w2 ⟨rfl, hw2⟩; have HW2 := Lib.hid hw2; clear hw2))
      go_ret2
      have hb : Below w1.heap.size w1 w2 := by rw [HW2.out]; exact (Below.refl _ w1).alloc (Nat.le_refl _) _
      refine ⟨?_, hb⟩
      unfold TextsR
      rw [HT.out]
      refine ⟨_, _, _, ps, rfl, HK.out, ?_, rfl⟩
      rw [HW2.out]
      exact (seg_new w1 9 (ps.map Value.string).toArray).more (by simp)
    · have hbf : (x == 0) = false := by simpa using hx
      rw [hbf] at hcs
      have hT : textsL v.data.toList = none := by rw [h, texts_snoc, if_neg hx]
      have HCS := Lib.hid hcs
      have HT := Lib.hid hT
      clear hcs hT hsuf h hvl hbf hx
      go_enter Tryd.func68, Tryd.ntmps68
      go_wp2_with (first
        | (go_at_call 89; refine HCS.out.mono ?_; rintro e w1 ⟨rfl, rfl⟩))
      go_ret2
      refine ⟨?_, Below.refl _ _⟩
      unfold TextsR
      rw [HT.out]
      rfl
theorem info9 : (Tryd.prog.info? 9).map (fun i => (i.zero, i.size, i.bytes)) = some (some (.string ByteArray.empty), 1, 16) := by kernel_rfl
theorem heads_nil : headsC 0 ([] : List UInt8) = [] := rfl
theorem last_nil : lastC 0 ([] : List UInt8) = [] := rfl
theorem extract_list (v : ByteArray) (a b : Nat) : (v.extract a b).data.toList = (v.data.toList.drop a).take (b - a) := by
  simp [ByteArray.data_extract, Array.toList_extract, List.extract]
theorem byte_list (v : ByteArray) {i : Nat} (h : i < v.size) : v.data.toList[i]'(by rw [data_len]; exact h) = v[i] := by
  rw [Array.getElem_toList]
  rfl
set_option maxRecDepth 100000 in
set_option maxHeartbeats 4000000 in
theorem rtexts_any (v : ByteArray) (hz : v.size ≤ 1048576) (w : World) :
    Calls Tryd.prog 69 #[.string v] w fun e w' => TextsR v e w' ∧ Below w.heap.size w w' := by
  obtain ⟨i0, fi, fz0, fz1, fz2⟩ := info_parts info9
  have hdn := data_len v
  by_cases hbad : textsL v.data.toList = none
  · rcases List.eq_nil_or_concat v.data.toList with h | ⟨b, x, h⟩
    · rw [h] at hbad; cases hbad
    · rw [List.concat_eq_append] at h
      rw [h, texts_snoc] at hbad
      have hx : x ≠ 0 := fun e => by rw [if_pos e] at hbad; cases hbad
      have hT : textsL v.data.toList = none := by rw [h, texts_snoc, if_neg hx]
      have hvl := hdn
      rw [h, List.length_append, List.length_singleton] at hvl
      have hq : b.length < v.size := by omega
      have hb := byte_list v hq
      have hvx : v[b.length] = x := by
        rw [← hb]
        simp [h]
      have hne : v.toList.isEmpty = false := by
        rw [ByteArray.toList_eq, h]
        cases b <;> rfl
      obtain ⟨q, hqe⟩ : ∃ q, q = b.length := ⟨_, rfl⟩
      have hqs : q < v.size := by omega
      have hvq : v[q] = x := by
        have : v[q] = v[b.length] := by congr 1
        rw [this, hvx]
      have hxn : (((v[q]).toNat : Int) != 0) = true := by
        rw [hvq]
        have : x.toNat ≠ 0 := fun e => hx (UInt8.toNat_inj.mp (by rw [e]; rfl))
        simp; omega
      have hq1 : (v.size : Int) - 1 = (q : Int) := by omega
      have hqw : IntKind.i64.wrap (q : Int) = (q : Int) := IntWalk.i64_in _ (by omega)
      have hqi : (q : Int) < (v.size : Int) := by omega
      have HT := Lib.hid hT
      clear hT hbad h hvl hb hvx hvq hqe hx hq hdn
      go_enter Tryd.func69, Tryd.ntmps69
      go_wp2_with fail
      go_ret2
      refine ⟨?_, Below.refl _ _⟩
      unfold TextsR
      rw [HT.out]
      rfl
  · have hT : textsL v.data.toList = some (headsC 0 v.data.toList) := by
      rcases List.eq_nil_or_concat v.data.toList with h | ⟨b, x, h⟩
      · rw [h]; rfl
      · rw [List.concat_eq_append] at h
        rw [h] at hbad ⊢
        rw [texts_snoc] at hbad ⊢
        by_cases hx : x = 0
        · rw [if_pos hx]
        · rw [if_neg hx] at hbad; exact absurd rfl hbad
    have hE : v.toList.isEmpty = true ∧ v.size = 0 ∨ v.toList.isEmpty = false ∧ ∃ q, ∃ h : q < v.size, v.size = q + 1 ∧ (((v[q]).toNat : Int) != 0) = false := by
      rcases List.eq_nil_or_concat v.data.toList with h | ⟨b, x, h⟩
      · left
        refine ⟨by rw [ByteArray.toList_eq, h]; rfl, by rw [← hdn, h]; rfl⟩
      · right
        rw [List.concat_eq_append] at h
        have hvl := hdn
        rw [h, List.length_append, List.length_singleton] at hvl
        rw [h, texts_snoc] at hbad
        have hx : x = 0 := by
          by_cases hx : x = 0
          · exact hx
          · rw [if_neg hx] at hbad; exact absurd rfl hbad
        have hq : b.length < v.size := by omega
        have hb := byte_list v hq
        refine ⟨by rw [ByteArray.toList_eq, h]; cases b <;> rfl, b.length, hq, by omega, ?_⟩
        rw [← hb]
        simp [h, hx]
    have HT := Lib.hid hT
    have HDN := Lib.hid hdn
    clear hbad hT hdn
    have key : ∀ W : List UInt8, W = v.data.toList → True := fun _ _ => trivial
    clear key
    rcases hE with ⟨hE1, hE2⟩ | ⟨hE1, q, hqs, hq2, hq3⟩
    · go_enter Tryd.func69, Tryd.ntmps69
      go_wp2_with fail
      go_loop [4, 5, 6] (fun lv fv iv => lv = .slice none 0 0 ∧ iv = .int .i64 0 ∧ fv = .int .i64 0) (fun _ _ _ => 0)
      case atStart => exact ⟨rfl, rfl, rfl⟩
      case round =>
        obtain ⟨rfl, rfl, rfl⟩ := hrel
        go_wp2_with fail
        go_ret2
        refine ⟨?_, Below.refl _ _⟩
        unfold TextsR
        have hv0 : v.data.toList = [] := List.eq_nil_of_length_eq_zero (by rw [HDN.out]; exact hE2)
        rw [hv0]
        exact ⟨none, 0, 0, [], rfl, rfl, Seg.nil, rfl⟩
    · have hq1 : (v.size : Int) - 1 = (q : Int) := by omega
      have hqw : IntKind.i64.wrap (q : Int) = (q : Int) := IntWalk.i64_in _ (by omega)
      have hqi : (q : Int) < (v.size : Int) := by omega
      go_enter Tryd.func69, Tryd.ntmps69
      go_wp2_with fail
      clear hq1 hqw hqi hq3
      go_loopw [4, 5, 6] (fun lv fv iv wx => ∃ (i f m c : Nat) (A : Option Addr) (bs : List ByteArray), lv = .slice A m c ∧ fv = .int .i64 f ∧ iv = .int .i64 i ∧ i ≤ v.size ∧ f ≤ i ∧ m ≤ i ∧ wx.ownsRow w.heap.size 9 1 (.slice A m c) m (bs.map Value.string) ∧ bs.map (·.data.toList) = headsC 0 (v.data.toList.take i) ∧
        (v.data.toList.drop f).take (i - f) = lastC 0 (v.data.toList.take i) ∧ Below w.heap.size w wx) (fun _ _ iv _ => v.size - (intOf iv).toNat)
      case atStart => exact ⟨0, 0, 0, 0, none, [], rfl, rfl, rfl, by omega, by omega, by omega, World.ownsRow_nil _ _ _ _, by rw [List.take_zero]; rfl, by rw [List.take_zero]; rfl, Below.refl _ _⟩
      case round =>
        obtain ⟨i, f, m, c, A, bs, rfl, rfl, rfl, hi, hf, hm, hown, hbs, hla, hb⟩ := hrel
        have HO := Lib.hid hown
        have HBS := Lib.hid hbs
        have HLA := Lib.hid hla
        have HB := Lib.hid hb
        clear hown hbs hla
        have hbz : w.heap.size ≤ wr.heap.size := hb.size
        clear hb
        by_cases hlt : i < v.size
        · have hii : (i : Int) < (v.size : Int) := by omega
          have htk : v.data.toList.take (i + 1) = v.data.toList.take i ++ [v[i]] := by
            rw [List.take_succ_eq_append_getElem (by rw [HDN.out]; exact hlt), byte_list v hlt]
          by_cases h0 : v[i] = 0
          · have hv1 : ((v[i]).toNat : Int) = 0 := by rw [h0]; rfl
            rw [h0] at htk
            have hps := parts_sep 0 (v.data.toList.take i)
            rw [← htk] at hps
            obtain ⟨t, ht⟩ : ∃ t, t = v.extract f i := ⟨_, rfl⟩
            have htd : t.data.toList = lastC 0 (v.data.toList.take i) := by rw [ht, extract_list, HLA.out]
            have hfi : (f : Int) ≤ (i : Int) := by omega
            have HPS := Lib.hid hps
            have HTD := Lib.hid htd
            have HTT := Lib.hid ht
            clear htk hps htd h0 ht
            go_wp2_with (first
              | (at_builtin; rw [← HTT.out]; refine wpList_push rfl (.tmp 27) (.tmp 32) 71 rfl w.heap.size 9 i0 _ 1 16 Tryd.underlying71 fi fz0 fz1 fz2 rfl (by decide) _ m (bs.map Value.string) rfl HO.out #[.string t] rfl rfl ?_ ?_ ?_ ?_ ?_))
            · first | rfl | (intro u hu; simp at hu; subst hu; rfl)
            · unfold maxLen; omega
            · omega
            · exact hbz
            intro A5 c5 w5 hown5 hp5
            have ho5 : w5.ownsRow w.heap.size 9 1 (.slice A5 (m + 1) c5) (m + 1) ((bs ++ [t]).map Value.string) := by simpa using hown5
            have HO5 := Lib.hid ho5
            have HB5 := Lib.hid (HB.out.trans hp5.low)
            clear hown5 hp5 ho5
            go_wp2_with fail
            refine ⟨⟨i + 1, i + 1, m + 1, c5, A5, bs ++ [t], rfl, by go_num, by go_num, hlt, by omega, by omega, HO5.out, ?_, ?_, HB5.out⟩, by simp [intOf]; omega⟩
            · rw [List.map_append, HBS.out, HPS.out.1]
              simp [HTD.out]
            · rw [HPS.out.2, Nat.sub_self, List.take_zero]
          · have hv1 : (((v[i]).toNat : Int) == 0) = false := by
              have : (v[i]).toNat ≠ 0 := fun e => h0 (UInt8.toNat_inj.mp (by rw [e]; rfl))
              simp; omega
            have hpp := parts_push 0 v[i] h0 (v.data.toList.take i)
            rw [← htk] at hpp
            have hst : (v.data.toList.drop f).take (i + 1 - f) = (v.data.toList.drop f).take (i - f) ++ [v[i]] := by
              rw [show i + 1 - f = (i - f) + 1 by omega, List.take_succ_eq_append_getElem (by rw [List.length_drop, HDN.out]; omega)]
              congr 2
              rw [List.getElem_drop]
              rw [← byte_list v hlt]
              congr 1
              omega
            have HPP := Lib.hid hpp
            have HST := Lib.hid hst
            clear htk hpp hst h0
            go_wp2_with fail
            refine ⟨⟨i + 1, f, m, c, A, bs, rfl, rfl, by go_num, hlt, by omega, by omega, HO.out, ?_, ?_, HB.out⟩, by simp [intOf]; omega⟩
            · rw [HBS.out, HPP.out.1]
            · rw [HST.out, HLA.out, HPP.out.2]
        · obtain rfl : i = v.size := by omega
          have hf0 : ¬ (v.size : Int) < (v.size : Int) := by omega
          go_wp2_with fail
          go_ret2
          refine ⟨?_, HB.out⟩
          unfold TextsR
          rw [HT.out]
          have h1 := HBS.out
          rw [List.take_of_length_le (by rw [HDN.out]; exact Nat.le_refl _)] at h1
          have hml : m = bs.length := by have := HO.out.1; simpa using this.symm
          exact ⟨A, c, m, bs, rfl, hml, own_seg HO.out, h1⟩
end Go.Proofs.YtmdnbajbfnhecaaDoor
