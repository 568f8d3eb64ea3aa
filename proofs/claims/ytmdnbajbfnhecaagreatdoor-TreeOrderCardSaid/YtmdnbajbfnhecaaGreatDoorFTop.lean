/- Find, Handle and Alias: the contracts of both sides. -/
import Derived.Test.YtmdnbajbfnhecaaGreatDoorFText
import Derived.Test.YtmdnbajbfnhecaaGreatDoorPlace
import Derived.Test.YtmdnbajbfnhecaaGreatDoorFPre
set_option linter.unusedVariables false
namespace Go.Proofs.YtmdnbajbfnhecaaGreatDoor
open Go.RowKit
/-- One text, and whether there is one. -/
def textB (v : ByteArray) : ByteArray × Int := match textL v.data.toList with
  | none => (ByteArray.empty, 4)
  | some x => (⟨x.toArray⟩, 0)
theorem text_two (v : ByteArray) : (textB v).2 = 0 ∨ (textB v).2 = 4 := by
  unfold textB
  split
  · exact .inr rfl
  · exact .inl rfl
theorem part_len (c : UInt8) : ∀ s : List UInt8, ∀ x ∈ splitC c s, x.length ≤ s.length
  | [], x, hx => by
    simp [splitC] at hx
    subst hx; exact Nat.le_refl _
  | b :: r, x, hx => by
    have ih := part_len c r
    rw [splitC] at hx
    split at hx
    · rcases List.mem_cons.1 hx with e | hx
      · subst e; simp
      · have := ih x hx; simp only [List.length_cons]; omega
    · split at hx
      · simp at hx; subst hx; simp
      · rename_i h t he
        rw [he] at ih
        rcases List.mem_cons.1 hx with e | hx
        · subst e
          have := ih h (List.mem_cons_self ..)
          simp only [List.length_cons]; omega
        · have := ih x (List.mem_cons_of_mem _ hx)
          simp only [List.length_cons]; omega
theorem text_len (v : ByteArray) : (textB v).1.size ≤ v.size := by
  unfold textB
  split
  · exact Nat.zero_le _
  · rename_i x hx
    unfold textL at hx
    split at hx
    · rename_i y hy
      injection hx with hx
      subst hx
      have hm : y ∈ splitC 0 v.data.toList := by
        unfold textsL at hy
        split at hy
        · cases hy
        · split at hy
          · injection hy with hy
            have : y ∈ headsC 0 v.data.toList := by rw [hy]; simp
            exact List.dropLast_subset _ this
          · cases hy
      have := part_len 0 _ y hm
      rw [data_len] at this
      rw [← data_len ⟨y.toArray⟩]
      exact this
    · cases hx
/-! The program's Text and the document's. -/
theorem text_cases {v : ByteArray} {F : Nat} {w : World} (H : Calls Tryz.prog F #[.string v] w fun e w' => TextsR v e w' ∧ Below w.heap.size w w') :
    (textB v = (ByteArray.empty, 4) ∧ Calls Tryz.prog F #[.string v] w fun e w' => e = .returned (.tuple #[.slice none 0 0, .int .i64 4]) ∧ Below w.heap.size w w') ∨
    (textB v = (ByteArray.empty, 4) ∧ Calls Tryz.prog F #[.string v] w fun e w' => (∃ (A : Option Addr) (c m : Nat), e = .returned (.tuple #[.slice A m c, .int .i64 0]) ∧ m ≠ 1) ∧ Below w.heap.size w w') ∨
    (∃ t, textB v = (t, 0) ∧ Calls Tryz.prog F #[.string v] w fun e w' => (∃ (b off c : Nat), e = .returned (.tuple #[.slice (some ⟨b, off, none⟩) 1 c, .int .i64 0]) ∧ w'.cell? ⟨b, off, none⟩ = some (.string t)) ∧ Below w.heap.size w w') := by
  unfold TextsR at H
  unfold textB textL
  cases hT : textsL v.data.toList with
  | none =>
    rw [hT] at H
    exact .inl ⟨rfl, H⟩
  | some ts =>
    rw [hT] at H
    right
    match ts, H with
    | [], H =>
      left
      refine ⟨rfl, H.mono fun e w' h => ?_⟩
      obtain ⟨⟨A, c, m, bs, he, hm, hs, hd⟩, hb⟩ := h
      have : bs = [] := by simpa using hd
      subst this
      exact ⟨⟨A, c, m, he, by rw [hm]; simp⟩, hb⟩
    | [x], H =>
      right
      refine ⟨⟨x.toArray⟩, rfl, H.mono fun e w' h => ?_⟩
      obtain ⟨⟨A, c, m, bs, he, hm, hs, hd⟩, hb⟩ := h
      match bs, hd with
      | [t], hd =>
        obtain ⟨b, off, hA, _, hc⟩ := hs (by simp)
        subst hA
        have h1 := hc 0 _ rfl
        have h2 : t.data.toList = x := by simpa using hd
        have h3 : t = ⟨x.toArray⟩ := bytes_eq (by rw [h2])
        rw [← h3]
        exact ⟨⟨b, off, c, by rw [he, hm]; rfl, h1⟩, hb⟩
    | x :: y :: r, H =>
      left
      refine ⟨rfl, H.mono fun e w' h => ?_⟩
      obtain ⟨⟨A, c, m, bs, he, hm, hs, hd⟩, hb⟩ := h
      have := congrArg List.length hd
      simp at this
      exact ⟨⟨A, c, m, he, by rw [hm]; omega⟩, hb⟩
set_option maxRecDepth 100000 in
set_option maxHeartbeats 4000000 in
theorem ptext_any (v : ByteArray) (hz : v.size ≤ 1048576) (w : World) (hv : Var0 w) :
    Calls Tryz.prog 50 #[.string v] w fun e w' => e = .returned (.tuple #[.string (textB v).1, .int .i64 (textB v).2]) ∧ Below w.heap.size w w' := by
  have H := ptexts_any v hz w hv
  rcases text_cases H with ⟨hR, hc⟩ | ⟨hR, hc⟩ | ⟨t, hR, hc⟩
  · rw [hR]
    have HC := Lib.hid hc
    clear H hc hR
    go_enter Tryz.func50, Tryz.ntmps50
    go_wp2_with (first
      | (go_at_call 40; refine HC.out.mono ?_; rintro e w1 ⟨rfl, hb⟩; have HB := Lib.hid hb; clear hb))
    go_ret2
    exact ⟨rfl, HB.out⟩
  · rw [hR]
    have HC := Lib.hid hc
    clear H hc hR
    go_enter Tryz.func50, Tryz.ntmps50
    go_wp2_with (first
      | (go_at_call 40; refine HC.out.mono ?_; rintro e w1 ⟨⟨A, c, m, rfl, hm⟩, hb⟩; have HB := Lib.hid hb; have hm1 : ((m : Int) != 1) = true := (by simp; omega); clear hb hm))
    go_ret2
    exact ⟨rfl, HB.out⟩
  · rw [hR]
    have HC := Lib.hid hc
    clear H hc hR
    go_enter Tryz.func50, Tryz.ntmps50
    go_wp2_with (first
      | (go_at_call 40; refine HC.out.mono ?_; rintro e w1 ⟨⟨b, off, c, rfl, hcell⟩, hb⟩; have HB := Lib.hid hb; clear hb))
    go_ret2
    exact ⟨rfl, HB.out⟩
/-- The node of a path. -/
def findV (l : List Nd) (s : ByteArray) : Int × Int := if (checkF l).2 = 0 then (match findL l s.data.toList with
  | none => (0, 6)
  | some i => ((i : Int), 0)) else (0, 40)
/-- The node of a handle. -/
def handV (l : List Nd) (h : Nat) : Int × Int := if (checkF l).2 = 0 then (if h = 0 then ((0 : Int), (1 : Int)) else match holdF l h with
  | none => (0, 6)
  | some i => ((i : Int), 0)) else (0, 40)
def kAl : ByteArray := ⟨#[47, 97, 108, 105, 97, 115, 101, 115]⟩
/-- The node of an alias. -/
def aliasV (l : List Nd) (k : ByteArray) : Int × Int := if (checkF l).2 = 0 then (match findL l kAl.data.toList with
  | none => (0, 6)
  | some i => if valB (holdF.propsAt l i) k = true ∧ (textB (valS (holdF.propsAt l i) k)).2 = 0 then findV l (textB (valS (holdF.propsAt l i) k)).1 else (0, 6)) else (0, 40)
theorem hold_lt {l : List Nd} {h i : Nat} (hh : holdF l h = some i) : i < l.length := by
  unfold holdF at hh
  rw [List.find?_range_eq_some] at hh
  simpa using hh.2.1
theorem find_lt {l : List Nd} (ht : Tr l) (hl : 0 < l.length) {s : List UInt8} {i : Nat} (h : findL l s = some i) : i < l.length := (path_find ht hl h).1
section
variable (A : Option Addr) (cap n : Nat) (l : List Nm) (hn : n = l.length) (hz : Sized l)
set_option maxRecDepth 100000 in
set_option maxHeartbeats 4000000 in
include hn hz in
theorem pfind_any (s : ByteArray) (hs1 : s.size ≤ 1048576) (w : World) (hv0 : Var0 w) (hw0 : 0 < w.heap.size) (B : Nat) (hB : B ≤ w.heap.size) (hs : Nodes w B A l) :
    Calls Tryz.prog 11 #[.slice A n cap, .string s] w fun e w' => e = .returned (.tuple #[.int .i64 (findV (dat l) s).1, .int .i64 (findV (dat l) s).2]) ∧ Below w.heap.size w w' := by
  have hch := pCheck_any A cap n l hn hz w B hB hs
  rcases check_two (dat l) with h0 | h0
  · obtain ⟨hf, hpos, h5⟩ := check_fine h0
    rw [dat_len, ← hn] at hpos h5
    have hfd := fun w1 (hb : Below w.heap.size w w1) => find_any A cap n l hn h5 hpos s hs1 w1 (hv0.below hb hw0) (Nat.lt_of_lt_of_le hw0 hb.size) B (Nat.le_trans hB hb.size) (hs.below (hb.mono hB))
    have e : findV (dat l) s = match findL (dat l) s.data.toList with
      | none => (0, 6)
      | some i => ((i : Int), 0) := by unfold findV; rw [if_pos h0]
    rw [e]
    rw [h0] at hch
    generalize findL (dat l) s.data.toList = F at *
    generalize (checkF (dat l)).1 = R1 at *
    have HCH := Lib.hid hch
    have HFD := Lib.hid hfd
    clear hch hfd hn hs hz hf h0 e hv0
    rcases F with _ | i
    · go_enter Tryz.func11, Tryz.ntmps11
      go_wp2_with (first
        | (go_at_call 23; refine HCH.out.mono ?_; rintro e w1 ⟨rfl, hb1⟩; have HB1 := Lib.hid hb1; clear hb1)
        | (go_at_call 36; refine (HFD.out w1 HB1.out).mono ?_; rintro e w2 ⟨rfl, hb2⟩; have HB2 := Lib.hid (below_next HB1.out hb2); clear hb2))
      go_ret2
      exact ⟨rfl, HB2.out⟩
    · go_enter Tryz.func11, Tryz.ntmps11
      go_wp2_with (first
        | (go_at_call 23; refine HCH.out.mono ?_; rintro e w1 ⟨rfl, hb1⟩; have HB1 := Lib.hid hb1; clear hb1)
        | (go_at_call 36; refine (HFD.out w1 HB1.out).mono ?_; rintro e w2 ⟨rfl, hb2⟩; have HB2 := Lib.hid (below_next HB1.out hb2); clear hb2))
      go_ret2
      exact ⟨rfl, HB2.out⟩
  · have e : findV (dat l) s = (0, 40) := by unfold findV; rw [if_neg (by rw [h0]; decide)]
    rw [e]
    rw [h0] at hch
    generalize (checkF (dat l)).1 = R1 at *
    have HCH := Lib.hid hch
    clear hch hn hs hz h0 e hv0
    go_enter Tryz.func11, Tryz.ntmps11
    go_wp2_with (first
      | (go_at_call 23; refine HCH.out.mono ?_; rintro e w1 ⟨rfl, hb1⟩; have HB1 := Lib.hid hb1; clear hb1))
    go_ret2
    exact ⟨rfl, HB1.out⟩
end
end Go.Proofs.YtmdnbajbfnhecaaGreatDoor
