/- cells.U32s and cells.One: contracts. -/
import Derived.Test.YtmdnbajbfnhecaaGreatDoorMem
import Derived.Test.YtmdnbajbfnhecaaGreatDoorProg
import Derived.Lib.Builder
import Derived.LoopTactic
import Derived.LoopN
import Derived.Laws.BitsAllLaws
set_option linter.unusedVariables false
namespace Go.Proofs.YtmdnbajbfnhecaaGreatDoor
open Go.RowKit
def nl (s : ByteArray) : List Nat := s.data.toList.map UInt8.toNat
theorem nl_len (s : ByteArray) : (nl s).length = s.size := by unfold nl; rw [List.length_map]; rfl
theorem nl_lt (s : ByteArray) : ∀ x ∈ nl s, x < 256 := by
  intro x hx
  unfold nl at hx
  obtain ⟨c, _, rfl⟩ := List.mem_map.1 hx
  exact c.toNat_lt
theorem nl_extract (s : ByteArray) (i j : Nat) : nl (s.extract i j) = ((nl s).drop i).take (j - i) := by
  unfold nl
  rw [← List.map_drop, ← List.map_take]
  congr 1
  simp [ByteArray.data_extract, Array.toList_extract, List.extract]
theorem nl_at (s : ByteArray) (k : Nat) (h : k < s.size) : (nl s)[k]'(by rw [nl_len]; exact h) = s[k].toNat := by unfold nl; rw [List.getElem_map]; rfl
/-- What bytes are, the highest first. -/
def num (l : List Nat) : Nat := l.foldl (fun n b => 256 * n + b) 0
theorem num_snoc (l : List Nat) (b : Nat) : num (l ++ [b]) = 256 * num l + b := by unfold num; simp
theorem fold_lt : ∀ (l : List Nat) (n k : Nat), (∀ b ∈ l, b < 256) → n < 256 ^ k → l.foldl (fun n b => 256 * n + b) n < 256 ^ (k + l.length)
  | [], n, k, _, h => h
  | b :: t, n, k, hl, h => by
    have hb := hl b (by simp)
    have h1 : 256 * n + b < 256 ^ (k + 1) := by rw [Nat.pow_succ]; omega
    have := fold_lt t (256 * n + b) (k + 1) (fun x hx => hl x (by simp [hx])) h1
    rw [List.foldl_cons, List.length_cons, show k + (t.length + 1) = k + 1 + t.length from by omega]
    exact this
theorem num_lt {l : List Nat} (h : ∀ b ∈ l, b < 256) : num l < 256 ^ l.length := by
  have := fold_lt l 0 0 h (by simp)
  rwa [Nat.zero_add] at this
theorem num_take (l : List Nat) {k : Nat} (h : k < l.length) : num (l.take (k + 1)) = 256 * num (l.take k) + l[k] := by
  rw [List.take_succ_eq_append_getElem h, num_snoc]
theorem take_lt {l : List Nat} (h : ∀ b ∈ l, b < 256) (n : Nat) : ∀ b ∈ l.take n, b < 256 := fun b hb => h b (List.mem_of_mem_take hb)
theorem drop_lt {l : List Nat} (h : ∀ b ∈ l, b < 256) (n : Nat) : ∀ b ∈ l.drop n, b < 256 := fun b hb => h b (List.mem_of_mem_drop hb)
/-- At most eight bytes are a number of 64 bits. -/
theorem num_u64 {l : List Nat} (h : ∀ b ∈ l, b < 256) (hl : l.length ≤ 8) : num l < 18446744073709551616 := by
  have h1 := num_lt h
  have h2 : 256 ^ l.length ≤ 256 ^ 8 := Nat.pow_le_pow_right (by omega) hl
  have h3 : 256 ^ 8 = 18446744073709551616 := by decide
  omega
theorem num_u32 {l : List Nat} (h : ∀ b ∈ l, b < 256) (hl : l.length ≤ 4) : num l < 4294967296 := by
  have h1 := num_lt h
  have h2 : 256 ^ l.length ≤ 256 ^ 4 := Nat.pow_le_pow_right (by omega) hl
  have h3 : 256 ^ 4 = 4294967296 := by decide
  omega
theorem or_byte (a b : Nat) (hb : b < 256) : (256 * a ||| b) = 256 * a + b := by
  have := Nat.two_pow_add_eq_or_of_lt (i := 8) (b := b) (by simpa using hb) a
  simpa using this.symm
theorem or32 (a b : Nat) (ha : a < 16777216) (hb : b < 256) : bits .or .u32 ((a : Int) * 256) (b : Int) = ((256 * a + b : Nat) : Int) := by
  have h := u32_or_nat (256 * a) b (by omega) (by omega)
  rw [or_byte a b hb] at h
  rw [← h]
  congr 1
  omega
theorem or64 (a b : Nat) (ha : a < 72057594037927936) (hb : b < 256) : bits .or .u64 ((a : Int) * 256) (b : Int) = ((256 * a + b : Nat) : Int) := by
  have h := u64_or_nat (256 * a) b (by omega) (by omega)
  rw [or_byte a b hb] at h
  rw [← h]
  congr 1
  omega
theorem arr4 (a b c d : Value) : (∀ w, (Instr.index 143 (.agg #[a, b, c, d]) (.int .i64 0)).run Tryz.prog w = .ok a w) ∧ (∀ w, (Instr.index 143 (.agg #[a, b, c, d]) (.int .i64 1)).run Tryz.prog w = .ok b w) ∧ (∀ w, (Instr.index 143 (.agg #[a, b, c, d]) (.int .i64 2)).run Tryz.prog w = .ok c w) ∧ (∀ w, (Instr.index 143 (.agg #[a, b, c, d]) (.int .i64 3)).run Tryz.prog w = .ok d w) := by
  refine ⟨?_, ?_, ?_, ?_⟩
  all_goals
    intro w
    unfold Instr.index
    simp [run_underlying Tryz.underlying143, go_sem, Tryz.sizeOf5, part]
set_option maxRecDepth 100000 in
set_option maxHeartbeats 16000000 in
theorem word_any (b0 b1 b2 b3 : Nat) (h0 : b0 < 256) (h1 : b1 < 256) (h2 : b2 < 256) (h3 : b3 < 256) (w : World) :
    Calls Tryz.prog 105 #[.agg #[.int .u8 b0, .int .u8 b1, .int .u8 b2, .int .u8 b3]] w fun e w' => e = .returned (.int .u32 (num [b0, b1, b2, b3] : Nat)) ∧ Below w.heap.size w w' := by
  obtain ⟨i0, i1, i2, i3⟩ := arr4 (.int .u8 b0) (.int .u8 b1) (.int .u8 b2) (.int .u8 b3)
  have e1 : bits .or .u32 0 (b0 : Int) = (b0 : Int) := by
    have h := u32_or_nat 0 b0 (by omega) (by omega)
    rw [Nat.zero_or] at h
    exact h
  have e2 := or32 b0 b1 (by omega) h1
  have e3 := or32 (256 * b0 + b1) b2 (by omega) h2
  have e4 := or32 (256 * (256 * b0 + b1) + b2) b3 (by omega) h3
  have hn : num [b0, b1, b2, b3] = 256 * (256 * (256 * b0 + b1) + b2) + b3 := by simp [num]
  rw [← hn] at e4
  have hv : num [b0, b1, b2, b3] < 4294967296 := by omega
  clear hn
  generalize num [b0, b1, b2, b3] = N at e4 hv ⊢
  have q2 : 256 * (256 * b0 + b1) + b2 < 16777216 := by omega
  have q1 : 256 * b0 + b1 < 65536 := by omega
  generalize 256 * (256 * b0 + b1) + b2 = n2 at e3 e4 q2
  generalize 256 * b0 + b1 = n1 at e2 e3 q1
  go_enter Tryz.func105, Tryz.ntmps105
  go_wp2_with fail
  refine wp_loop_rounds 5 ?_
  rw [rounds_succ]
  go_wp2_with fail
  rw [rounds_succ]
  go_wp2_with fail
  rw [rounds_succ]
  go_wp2_with fail
  rw [rounds_succ]
  go_wp2_with fail
  rw [rounds_succ]
  go_wp2_with fail
  go_ret
  exact ⟨rfl, (Below.refl _ w).alloc (Nat.le_refl _) _⟩
/-- '[]byte(s)' as a block. -/
theorem bytes_block {P : Program} (w : World) (src dst e : TypeId) (s : ByteArray) (hs : P.underlying src = some .string) (hd : P.underlying dst = some (.slice e)) (he : P.underlying e = some (.int .u8)) :
    ∃ cap W cs fr, (convert src dst (.string s)).run P w = .ok (.slice (some ⟨w.heap.size, 0, none⟩) s.size cap) W ∧ Below w.heap.size w W ∧ s.size ≤ cap ∧ W.heap[w.heap.size]? = some (.cells cs e fr) ∧
      ∀ k (h : k < s.size), cs[k]? = some (.int .u8 ((s[k]).toNat : Int)) := by
  refine ⟨_, _, _, _, run_bytes_of_string w src dst e s hs hd he, (Below.refl _ _).drew.alloc (Nat.le_refl _) _, ?_, heap_alloc_new w.drew _, fun k h => ?_⟩
  · exact grownCap_ge ..
  · unfold bytesRow
    rw [Array.getElem?_append_left (by simpa using h)]
    simp [h]
    rfl
theorem own_kept {w w' : World} {base size n : Nat} {e : TypeId} {v : Value} {xs : List Value} (h : w.ownsRow base e size v n xs) (hk : ∀ g, v.ownBlock = some g → g < w.heap.size → w'.heap[g]? = w.heap[g]?) : w'.ownsRow base e size v n xs := by
  refine ⟨h.1, ?_⟩
  rcases h.2 with h2 | ⟨g, cap, cur, a1, a2, a3, a4⟩
  · exact .inl h2
  · refine .inr ⟨g, cap, cur, a1, a2, ?_, a4⟩
    rw [hk g (by rw [a1]; rfl) (Array.getElem?_eq_some_iff.1 a3).1]
    exact a3
theorem seg_new1 {w : World} {cs : Array Value} {e : TypeId} : Seg (w.alloc (.cells cs e)) (w.heap.size + 1) (some ⟨w.heap.size, 0, none⟩) cs.toList := fun _ => by
  refine ⟨_, _, rfl, by omega, fun j u hu => ?_⟩
  rw [Nat.zero_add, cell_of_row _ _ _ _ _ (0, 0) (heap_alloc_new w _)]
  simpa using hu
/-- What U32s gives. -/
def U32R (s : ByteArray) (base : Nat) (e : Ending) (w' : World) : Prop := if s.size % 4 ≠ 0 then e = .returned (.tuple #[.slice none 0 0, .int .i64 4])
  else ∃ A c xs, e = .returned (.tuple #[.slice A (s.size / 4) c, .int .i64 0]) ∧ w'.ownsRow base 36 1 (.slice A (s.size / 4) c) (s.size / 4) xs ∧ (s.size = 4 → xs = [.int .u32 (num (nl s) : Nat)])
theorem info23 : (Tryz.prog.info? 36).map (fun i => (i.zero, i.size, i.bytes)) = some (some (.int .u32 0), 1, 4) := by kernel_rfl
theorem arr_ptr (a : Option Addr) (m c : Nat) (h : 4 ≤ m) (W : World) : (Instr.arrayAt 143 (.slice a m c)).run Tryz.prog W = .ok (.pointer a) W := by
  unfold Instr.arrayAt
  simp [run_underlying Tryz.underlying143, go_sem]
  omega
def lenV : Value → Nat
  | .slice _ k _ => k
  | _ => 0
theorem nl_four {s : ByteArray} (h : s.size = 4) : nl s = [s[0].toNat, s[1].toNat, s[2].toNat, s[3].toNat] := by
  apply List.ext_getElem
  · rw [nl_len]; exact h
  · intro i h1 h2
    rw [nl_at s i (by rw [nl_len] at h1; exact h1)]
    match i, h2 with
    | 0, _ => rfl
    | 1, _ => rfl
    | 2, _ => rfl
    | 3, _ => rfl
set_option maxRecDepth 100000 in
set_option maxHeartbeats 16000000 in
theorem u32s_any (s : ByteArray) (hz : s.size ≤ 1048576) (w : World) :
    Calls Tryz.prog 88 #[.string s] w fun e w' => U32R s w.heap.size e w' ∧ Below w.heap.size w w' := by
  by_cases h4 : s.size % 4 = 0
  · obtain ⟨N, hN⟩ : ∃ N, s.size / 4 = N := ⟨_, rfl⟩
    obtain ⟨i0, fi, fz0, fz1, fz2⟩ := info_parts info23
    obtain ⟨W1, hW1, own1, g1⟩ := run_make_own (P := Tryz.prog) w w.heap.size 127 36 i0 _ 1 Tryz.underlying127 fi fz0 fz1 .i64 .i64 N (by rw [fz2]; omega) (by unfold maxLen; omega) (Nat.le_refl _)
    have m4 : ((s.size : Int) % 4 != 0) = false := by simp; omega
    have d4 : (s.size : Int) / 4 = (N : Int) := by omega
    have hb1 : Below w.heap.size w W1 := (Below.refl _ w).grown g1 (Nat.le_refl _) (fun g hg => by cases hg)
    obtain ⟨cap, W2, cs, fr, hrun, hb2, hcap, hheap, hcell⟩ := bytes_block (P := Tryz.prog) W1 9 94 5 s Tryz.underlying9 Tryz.underlying94 Tryz.underlying5
    have HB2 := Lib.hid (hb1.trans (hb2.mono hb1.size))
    have OW2 := Lib.hid (show W2.ownsRow w.heap.size 36 1 (.slice (some ⟨w.heap.size, 0, none⟩) 0 N) 0 [] from own_kept own1 fun g _ hlt => hb2.block g hlt)
    have HH := Lib.hid hheap
    have HC := Lib.hid hcell
    have HN := Lib.hid hN
    have hcp := hcap
    clear hb1 hb2 own1 g1 hheap hcell hN
    go_enter Tryz.func88, Tryz.ntmps88
    go_wp2_with fail
    clear hrun hW1 d4 m4
    generalize W1.heap.size = B at HH ⊢
    go_loopw [4, 5] (fun v bv wx => ∃ (k o c2 cA : Nat) (A : Option Addr) (xs : List Value), v = .slice A k cA ∧ bv = .slice (some ⟨B, o, none⟩) (s.size - 4 * k) c2 ∧ 4 * k ≤ s.size ∧ s.size - 4 * k ≤ c2 ∧ (4 * k < s.size → o = 4 * k) ∧ wx.heap[B]? = some (.cells cs 5 fr) ∧ wx.ownsRow w.heap.size 36 1 (.slice A k cA) k xs ∧ (s.size = 4 → k = 1 → xs = [.int .u32 (num (nl s) : Nat)]) ∧ Below w.heap.size w wx) (fun _ bv _ => lenV bv)
    case atStart => exact ⟨0, 0, cap, N, _, [], rfl, by simp, by omega, by omega, by omega, HH.out, OW2.out, by omega, HB2.out⟩
    case round =>
      obtain ⟨k, o, c2, cA, A, xs, rfl, rfl, hk, hc2, ho, hhp, hown, hxs, hb⟩ := hrel
      have HO := Lib.hid hown
      have HB := Lib.hid hb
      have HX := Lib.hid hxs
      have HP := Lib.hid hhp
      have hsz := hb.size
      by_cases hlt : 4 * k < s.size
      · obtain rfl := ho hlt
        have hli : (0 : Int) < ((s.size - 4 * k : Nat) : Int) := by omega
        have hli2 : decide (0 < s.size - 4 * k) = true := decide_eq_true (by omega)
        have q : ∀ j, 4 * k + j < s.size → ∃ b : Nat, b < 256 ∧ wr.cell? ⟨B, 4 * k + j, none⟩ = some (.int .u8 (b : Int)) ∧ (nl s)[4 * k + j]? = some b := fun j h => by
          refine ⟨(s[4 * k + j]).toNat, UInt8.toNat_lt _, ?_, ?_⟩
          · rw [cell_of_row _ _ _ _ _ _ HP.out, HC.out _ h]
          · rw [List.getElem?_eq_getElem (by rw [nl_len]; exact h), nl_at s _ h]
        obtain ⟨b0, l0, q0, r0⟩ := q 0 (by omega)
        obtain ⟨b1, l1, q1, r1⟩ := q 1 (by omega)
        obtain ⟨b2, l2, q2, r2⟩ := q 2 (by omega)
        obtain ⟨b3, l3, q3, r3⟩ := q 3 (by omega)
        rw [Nat.add_zero] at q0
        have HR := Lib.hid (And.intro r0 (And.intro r1 (And.intro r2 r3)))
        clear r0 r1 r2 r3
        have hm4 : 4 ≤ s.size - 4 * k := by omega
        clear q hown hb hxs hhp
        obtain ⟨m, hm⟩ : ∃ m, m = s.size - 4 * k := ⟨_, rfl⟩
        rw [← hm] at hli hli2 hm4 hc2 ⊢
        have HM := Lib.hid hm
        have hap := arr_ptr (some ⟨B, 4 * k, none⟩) m c2 hm4
        clear hm
        by_cases hc4 : c2 = 4
        · subst hc4
          have HM4 := Lib.hid (show m = 4 from by omega)
          go_wp2_with (first
            | (go_at_call 105; refine (word_any b0 b1 b2 b3 l0 l1 l2 l3 _).mono ?_; rintro e w1 ⟨rfl, hb1⟩
               have O1 := Lib.hid (own_kept HO.out fun g _ hlt => hb1.block g hlt); have B1 := Lib.hid (HB.out.trans (hb1.mono hsz)); have P1 := Lib.hid ((hb1.block B (Array.getElem?_eq_some_iff.1 HP.out).1).trans HP.out); have hsz1 := B1.out.size; clear hb1)
            | (at_builtin; refine wpList_append_seg _ rfl (.tmp 21) (.tmp 26) 127 rfl w.heap.size 36 i0 _ 1 4 Tryz.underlying127 fi fz0 fz1 fz2 rfl (by decide) (.slice A k cA) k xs rfl (World.ownsRow.alloc O1.out _) (w1.heap.size + 1) (some ⟨w1.heap.size, 0, none⟩) 1 1 [.int .u32 (num [b0, b1, b2, b3] : Nat)] rfl rfl (seg_new1 (e := 36) (cs := #[.int .u32 (num [b0, b1, b2, b3] : Nat)])) (by simp [Value.oneCell']) (by unfold maxLen; omega) (by omega) (by rw [World.size_alloc]; omega) ?_
               intro v3 w3 hown3 hg3 _
               have hb3 : Below w.heap.size w w3 := (B1.out.alloc hsz1 _).grown hg3 (by rw [World.size_alloc]; omega) (fun g hg => (O1.out.lt g hg).1)
               have hp1 : (w1.alloc (.cells #[.int .u32 (num [b0, b1, b2, b3] : Nat)] 36)).heap[B]? = some (.cells cs 5 fr) := (Below.heap_alloc _ _ _ (Array.getElem?_eq_some_iff.1 P1.out).1).trans P1.out
               have hp3 : w3.heap[B]? = some (.cells cs 5 fr) := (hg3.block B (Array.getElem?_eq_some_iff.1 hp1).1 (fun e => Lib.ownBlock_ne (World.ownsRow.alloc O1.out _) hp1 (by decide) e.symm)).trans hp1
               obtain ⟨A3, c3, rfl⟩ := own_shape hown3
               have HO3 := Lib.hid hown3; have HB3 := Lib.hid hb3; have HP3 := Lib.hid hp3; clear hown3 hg3 hb3 hp1 hp3)
            | fail)
          refine ⟨⟨k + 1, 4 * k, 0, c3, A3, xs ++ [.int .u32 (num [b0, b1, b2, b3] : Nat)], rfl, by rw [show s.size - 4 * (k + 1) = 0 from by have := HM.out; have := HM4.out; omega], by have := HM.out; omega, by have := HM.out; omega, by have := HM.out; omega, HP3.out, HO3.out, fun h1 h2 => ?_, HB3.out⟩, by show 0 < m; omega⟩
          obtain ⟨z1, z2, z3, z4⟩ := HR.out
          obtain rfl : k = 0 := by omega
          have hx0 : xs = [] := List.eq_nil_of_length_eq_zero (by have := HO.out.1; simpa using this)
          rw [hx0, nl_four h1]
          have f0 : s[0].toNat = b0 := by rw [List.getElem?_eq_getElem (by rw [nl_len]; omega), nl_at s _ (by omega)] at z1; injection z1
          have f1 : s[1].toNat = b1 := by rw [List.getElem?_eq_getElem (by rw [nl_len]; omega), nl_at s _ (by omega)] at z2; injection z2
          have f2 : s[2].toNat = b2 := by rw [List.getElem?_eq_getElem (by rw [nl_len]; omega), nl_at s _ (by omega)] at z3; injection z3
          have f3 : s[3].toNat = b3 := by rw [List.getElem?_eq_getElem (by rw [nl_len]; omega), nl_at s _ (by omega)] at z4; injection z4
          rw [f0, f1, f2, f3]
          rfl
        · have hc5 : 4 < c2 := by omega
          have hc6 : ¬ 4 = c2 := by omega
          go_wp2_with (first
            | (go_at_call 105; refine (word_any b0 b1 b2 b3 l0 l1 l2 l3 _).mono ?_; rintro e w1 ⟨rfl, hb1⟩
               have O1 := Lib.hid (own_kept HO.out fun g _ hlt => hb1.block g hlt); have B1 := Lib.hid (HB.out.trans (hb1.mono hsz)); have P1 := Lib.hid ((hb1.block B (Array.getElem?_eq_some_iff.1 HP.out).1).trans HP.out); have hsz1 := B1.out.size; clear hb1)
            | (at_builtin; refine wpList_append_seg _ rfl (.tmp 21) (.tmp 26) 127 rfl w.heap.size 36 i0 _ 1 4 Tryz.underlying127 fi fz0 fz1 fz2 rfl (by decide) (.slice A k cA) k xs rfl (World.ownsRow.alloc O1.out _) (w1.heap.size + 1) (some ⟨w1.heap.size, 0, none⟩) 1 1 [.int .u32 (num [b0, b1, b2, b3] : Nat)] rfl rfl (seg_new1 (e := 36) (cs := #[.int .u32 (num [b0, b1, b2, b3] : Nat)])) (by simp [Value.oneCell']) (by unfold maxLen; omega) (by omega) (by rw [World.size_alloc]; omega) ?_
               intro v3 w3 hown3 hg3 _
               have hb3 : Below w.heap.size w w3 := (B1.out.alloc hsz1 _).grown hg3 (by rw [World.size_alloc]; omega) (fun g hg => (O1.out.lt g hg).1)
               have hp1 : (w1.alloc (.cells #[.int .u32 (num [b0, b1, b2, b3] : Nat)] 36)).heap[B]? = some (.cells cs 5 fr) := (Below.heap_alloc _ _ _ (Array.getElem?_eq_some_iff.1 P1.out).1).trans P1.out
               have hp3 : w3.heap[B]? = some (.cells cs 5 fr) := (hg3.block B (Array.getElem?_eq_some_iff.1 hp1).1 (fun e => Lib.ownBlock_ne (World.ownsRow.alloc O1.out _) hp1 (by decide) e.symm)).trans hp1
               obtain ⟨A3, c3, rfl⟩ := own_shape hown3
               have HO3 := Lib.hid hown3; have HB3 := Lib.hid hb3; have HP3 := Lib.hid hp3; clear hown3 hg3 hb3 hp1 hp3)
            | fail)
          refine ⟨⟨k + 1, 4 * k + 4, c2 - 4, c3, A3, xs ++ [.int .u32 (num [b0, b1, b2, b3] : Nat)], rfl, by first | rfl | (simp; have := HM.out; omega), by have := HM.out; omega, by have := HM.out; omega, by have := HM.out; omega, HP3.out, HO3.out, fun h1 h2 => ?_, HB3.out⟩, by show m - 4 < m; omega⟩
          obtain ⟨z1, z2, z3, z4⟩ := HR.out
          obtain rfl : k = 0 := by omega
          have hx0 : xs = [] := List.eq_nil_of_length_eq_zero (by have := HO.out.1; simpa using this)
          rw [hx0, nl_four h1]
          have f0 : s[0].toNat = b0 := by rw [List.getElem?_eq_getElem (by rw [nl_len]; omega), nl_at s _ (by omega)] at z1; injection z1
          have f1 : s[1].toNat = b1 := by rw [List.getElem?_eq_getElem (by rw [nl_len]; omega), nl_at s _ (by omega)] at z2; injection z2
          have f2 : s[2].toNat = b2 := by rw [List.getElem?_eq_getElem (by rw [nl_len]; omega), nl_at s _ (by omega)] at z3; injection z3
          have f3 : s[3].toNat = b3 := by rw [List.getElem?_eq_getElem (by rw [nl_len]; omega), nl_at s _ (by omega)] at z4; injection z4
          rw [f0, f1, f2, f3]
          rfl
      · have hk4 : 4 * k = s.size := by omega
        have hz0 : s.size - 4 * k = 0 := by omega
        rw [hz0]
        clear hown hb hxs hhp
        go_wp2_with fail
        go_ret2
        refine ⟨?_, HB.out⟩
        have hkN : k = s.size / 4 := by omega
        unfold U32R
        rw [if_neg (by omega)]
        rw [← hkN]
        exact ⟨A, cA, xs, rfl, HO.out, fun h => HX.out h (by omega)⟩
  · have m4 : ((s.size : Int) % 4 != 0) = true := by simp; omega
    have HH := Lib.hid h4
    clear h4
    go_enter Tryz.func88, Tryz.ntmps88
    go_wp2_with fail
    go_ret2
    exact ⟨by unfold U32R; rw [if_pos HH.out]; rfl, Below.refl _ _⟩
def oneC (s : ByteArray) : Nat × Nat := if s.size = 4 then (num (nl s), 0) else (0, 4)
set_option maxRecDepth 100000 in
set_option maxHeartbeats 16000000 in
theorem cone_any (s : ByteArray) (hz : s.size ≤ 1048576) (w : World) :
    Calls Tryz.prog 59 #[.string s] w fun e w' => e = .returned (.tuple #[.int .u32 ((oneC s).1 : Nat), .int .i64 ((oneC s).2 : Nat)]) ∧ Below w.heap.size w w' := by
  have HU0 := u32s_any s hz w
  by_cases h4 : s.size % 4 = 0
  · have HU : Calls Tryz.prog 88 #[.string s] w fun e w' => (∃ A c xs, e = .returned (.tuple #[.slice A (s.size / 4) c, .int .i64 0]) ∧ w'.ownsRow w.heap.size 36 1 (.slice A (s.size / 4) c) (s.size / 4) xs ∧ (s.size = 4 → xs = [.int .u32 (num (nl s) : Nat)])) ∧ Below w.heap.size w w' := HU0.mono fun e w' h => ⟨by
      have h1 := h.1
      unfold U32R at h1
      rw [if_neg (by omega)] at h1
      exact h1, h.2⟩
    clear HU0
    by_cases hs : s.size = 4
    · have e : oneC s = (num (nl s), 0) := by unfold oneC; rw [if_pos hs]
      rw [e]
      have hN : s.size / 4 = 1 := by omega
      rw [hN] at HU
      have H := Lib.hid HU
      have HS := Lib.hid hs
      have hv := num_u32 (nl_lt s) (by rw [nl_len]; omega)
      clear HU hs h4 hN e
      go_enter Tryz.func59, Tryz.ntmps59
      go_wp2_with (first
        | (go_at_call 88; refine H.out.mono ?_; rintro e w1 ⟨⟨A, c, xs, rfl, hown, hx⟩, hb⟩
           obtain rfl := hx HS.out
           obtain ⟨g, rfl, _, _⟩ := own_head hown (by omega)
           have x0 : w1.cell? ⟨g, 0, none⟩ = some (.int .u32 (num (nl s) : Nat)) := (by rw [hown.cellAt 0 (by omega)]; rfl)
           have HB := Lib.hid hb; clear hown hb hx)
        | fail)
      go_ret2
      exact ⟨rfl, HB.out⟩
    · have e : oneC s = (0, 4) := by unfold oneC; rw [if_neg hs]
      rw [e]
      have H := Lib.hid HU
      obtain ⟨N, hN⟩ : ∃ N, s.size / 4 = N := ⟨_, rfl⟩
      have n1 : ((N : Int) != 1) = true := by simp; omega
      rw [hN] at H
      clear HU hs h4 hN e
      go_enter Tryz.func59, Tryz.ntmps59
      go_wp2_with (first
        | (go_at_call 88; refine H.out.mono ?_; rintro e w1 ⟨⟨A, c, xs, rfl, hown, hx⟩, hb⟩; have HB := Lib.hid hb; clear hown hb hx)
        | fail)
      go_ret2
      exact ⟨rfl, HB.out⟩
  · have e : oneC s = (0, 4) := by unfold oneC; rw [if_neg (by omega)]
    rw [e]
    have HU : Calls Tryz.prog 88 #[.string s] w fun e w' => e = .returned (.tuple #[.slice none 0 0, .int .i64 4]) ∧ Below w.heap.size w w' := HU0.mono fun e w' h => ⟨by
      have h1 := h.1
      unfold U32R at h1
      rw [if_pos h4] at h1
      exact h1, h.2⟩
    have H := Lib.hid HU
    clear HU HU0 h4 e
    go_enter Tryz.func59, Tryz.ntmps59
    go_wp2_with (first
      | (go_at_call 88; refine H.out.mono ?_; rintro e w1 ⟨rfl, hb⟩; have HB := Lib.hid hb; clear hb)
      | fail)
    go_ret2
    exact ⟨rfl, HB.out⟩
end Go.Proofs.YtmdnbajbfnhecaaGreatDoor
