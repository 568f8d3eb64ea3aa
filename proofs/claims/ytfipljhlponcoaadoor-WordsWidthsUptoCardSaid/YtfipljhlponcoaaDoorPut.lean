/- put: the bytes of what is not shown. -/
import Derived.Test.YtfipljhlponcoaaDoorPutMem
import Derived.Test.YtfipljhlponcoaaDoorShelf
import Derived.Lib.OthersKept
set_option linter.unusedVariables false
namespace Go.Proofs.YtfipljhlponcoaaDoor
open Go.RowKit
theorem Tryd.info5 : (Tryd.prog.info? 5).map (fun i => (i.zero, i.size, i.bytes)) = some (some (.int .u8 0), 1, 1) := by kernel_rfl
theorem sum_in {s : ByteArray} {pos k : Nat} (hp : pos + k ≤ s.size) (hz : s.size ≤ 140737488355000) : wrap64 ((pos : Int) + (k : Int)) = (pos : Int) + (k : Int) := by
  rw [IntWalk.wrap64_in _ (by omega)]
theorem cut_run {s : ByteArray} {pos k : Nat} (hp : pos + k ≤ s.size) (w : World) : (Instr.slice 9 (Value.string s) (some (Value.int IntKind.i64 ↑pos)) (some (Value.int IntKind.i64 (↑pos + ↑k))) none).run Tryd.prog w = .ok (.string (s.extract pos (pos + k))) w := by
  have := run_slice_string (P := Tryd.prog) w 9 s .i64 .i64 pos ((pos + k : Nat) : Int) Tryd.underlying9 (Int.natCast_nonneg _) (Int.ofNat_le.2 (Nat.le_add_right _ _)) (Int.ofNat_le.2 hp)
  rw [Int.toNat_natCast, Int.toNat_natCast, Int.natCast_add] at this
  exact this
theorem ext_len {s : ByteArray} {pos k : Nat} (hp : pos + k ≤ s.size) : (s.extract pos (pos + k)).size = k := by rw [ByteArray.size_extract]; omega
/-- The call's own row of bytes. -/
def Own (w : World) (base : Nat) (A : Option Addr) (n c : Nat) (l : List Nat) : Prop := n = l.length ∧ w.ownsRow base 5 1 (.slice A n c) n (bV l)
theorem kept_below {w w' : World} (h : Below w.heap.size w w') : Lib.OthersKept 5 none w w' := fun k o hk _ _ => (h.block k (Array.getElem?_eq_some_iff.1 hk).1).trans hk
theorem own_kind {w : World} {base n : Nat} {v : Value} {xs : List Value} (h : w.ownsRow base 5 1 v n xs) : ∀ g, v.ownBlock = some g → ∃ c fz, w.heap[g]? = some (.cells c 5 fz) := Lib.ownsRowF_kind (World.ownsRowF_of h)
theorem own_keep2 {w w' : World} {base size n : Nat} {e : TypeId} {v : Value} {xs : List Value} (h : w.ownsRow base e size v n xs) (hk : ∀ g, v.ownBlock = some g → g < w.heap.size → w'.heap[g]? = w.heap[g]?) : w'.ownsRow base e size v n xs := by
  refine ⟨h.1, ?_⟩
  rcases h.2 with h2 | ⟨g, cap, cur, a1, a2, a3, a4⟩
  · exact .inl h2
  · exact .inr ⟨g, cap, cur, a1, a2, (hk g (by rw [a1]; rfl) (Array.getElem?_eq_some_iff.1 a3).1).trans a3, a4⟩
theorem own_more {w : World} {base n m : Nat} {v : Value} {l l' : List Nat} (hn : n = l.length) (hm : m = l'.length) (h : w.ownsRow base 5 1 v (n + m) (bV l ++ bV l')) : ∃ A c, v = .slice A (n + m) c ∧ Own w base A (n + m) c (l ++ l') := by
  obtain ⟨A, c, rfl⟩ := own_shape h
  exact ⟨A, c, rfl, by rw [List.length_append]; omega, by rw [bV_app]; exact h⟩
theorem hex_get : ∀ y : Fin 16, ((⟨#[48, 49, 50, 51, 52, 53, 54, 55, 56, 57, 97, 98, 99, 100, 101, 102]⟩ : ByteArray)[y.val]'(y.isLt)).toNat = hexd y.val := by decide
theorem hex_run (y : Nat) (h : y < 16) (I : Int) (hI : (y : Int) = I) (w : World) : (Instr.index 9 (Value.string ⟨#[48, 49, 50, 51, 52, 53, 54, 55, 56, 57, 97, 98, 99, 100, 101, 102]⟩) (Value.int IntKind.u8 I)).run Tryd.prog w = .ok (.int .u8 ((hexd y : Nat) : Int)) w := by
  subst hI
  have hs : (⟨#[48, 49, 50, 51, 52, 53, 54, 55, 56, 57, 97, 98, 99, 100, 101, 102]⟩ : ByteArray).size = 16 := rfl
  rw [run_index_string w 9 _ .u8 _ Tryd.underlying9, dif_pos ⟨Int.natCast_nonneg _, by rw [hs]; omega⟩, ← hex_get ⟨y, h⟩]
  rfl
theorem esc_len (l : List Nat) : (l.flatMap escB).flatten.length = 4 * l.length := by
  induction l with
  | nil => rfl
  | cons a t ih => simp only [List.flatMap_cons, List.flatten_append, List.length_append, ih]; simp [escB]; omega
set_option maxRecDepth 100000 in
set_option maxHeartbeats 16000000 in
theorem put_esc (s : ByteArray) (pos k : Nat) (r0 r : Int) (hp : pos + k ≤ s.size) (hk : k ≤ 4) (hh : r0 ≠ 65533 ∧ r = r0 ∧ Lib.runeLen r0 = k) (hr : r < 32) (q : Nat) (A : Option Addr) (n c : Nat) (l : List Nat) (w : World) (base : Nat) (hb : base ≤ w.heap.size) (ho : Own w base A n c l) (hn : n ≤ 140737488355000) (hz : s.size ≤ 140737488355000) :
    Calls Tryd.prog 74 #[.slice A n c, .string s, .int .i64 pos, .int .i32 r0, .int .u8 q] w fun e w' => ∃ A' n' c', e = .returned (.slice A' n' c') ∧ Own w' base A' n' c' (l ++ ((((nl s).drop pos).take k).flatMap escB).flatten) ∧ Below base w w' ∧ Lib.OthersKept 5 none w w' := by
  obtain ⟨i0, fi, fz0, fz1, fz2⟩ := info_parts Tryd.info5
  obtain ⟨bs, hbs⟩ : ∃ bs, bs = ((nl s).drop pos).take k := ⟨_, rfl⟩
  have hbl : bs.length = k := by rw [hbs, List.length_take, List.length_drop, nl_len]; omega
  have hb256 : ∀ x ∈ bs, x < 256 := fun x hx => by rw [hbs] at hx; exact drop_lt (nl_lt s) pos x (List.mem_of_mem_take hx)
  have hcv := fun w => Frz.new (P := Tryd.prog) w 9 72 (s.extract pos (pos + k)) Tryd.underlying9 Tryd.underlying72 Tryd.underlying5
  rw [ext_len hp, nl_extract, show pos + k - pos = k from by omega, ← hbs] at hcv
  rw [← hbs]
  have hpi : (pos : Int) + (k : Int) ≤ s.size := by omega
  have hk0 : (pos : Int) ≤ s.size := by omega
  obtain ⟨hne, rfl, hrl⟩ := hh
  have hne2 : (r != 65533) = true := by simp; omega
  have hr2 : decide (r < 32) = true := by simp [hr]
  have hsum := sum_in hp hz
  have hcut := cut_run hp
  have HCV := Lib.hid hcv
  have HO := Lib.hid ho
  have HB := Lib.hid hb256
  have HL := Lib.hid hbl
  clear hcv hbs hb256 hr
  go_enter Tryd.func74, Tryd.ntmps74
  obtain ⟨cp, W, hW1, hW2, hW3, hW4⟩ := HCV.out w
  have H2 := Lib.hid hW2
  have H4 := Lib.hid hW4
  clear hW2 hW4 hbl
  go_wp2_with (first
    | (go_at_call 99; refine (Tryd.utf8_RuneLen _ _).mono ?_; rintro e w1 ⟨rfl, rfl⟩; rw [hrl])
    | (fail))
  go_loopw [0, 51] (fun o v w' => ∃ (j : Nat) (A' : Option Addr) (n' c' : Nat), j ≤ k ∧ v = .int .i64 j ∧ o = .slice A' n' c' ∧ n' = n + 4 * j ∧ Own w' base A' n' c' (l ++ ((bs.take j).flatMap escB).flatten) ∧ Frz w' w1.heap.size bs ∧ Below base w1 w' ∧ Lib.OthersKept 5 none w1 w') (fun _ v _ => k - (intOf v).toNat)
  case atStart =>
    exact ⟨0, A, n, c, by omega, rfl, rfl, by omega, ⟨by simpa using HO.out.1, by simpa using own_keep2 HO.out.2 fun g _ hlt => H2.out.block g hlt⟩, H4.out, H2.out.mono hb, kept_below H2.out⟩
  case round =>
    obtain ⟨j, A', n', c', hj, rfl, rfl, hn', ho', hf', hb', hk'⟩ := hrel
    have HK2 := Lib.hid hk'
    clear hk'
    have HO2 := Lib.hid ho'
    have HF2 := Lib.hid hf'
    have HB2 := Lib.hid hb'
    have HN2 := Lib.hid hn'
    clear hb' hn'
    by_cases hjk : j < k
    · have hcl := hf'.cell (k := j) (by rw [HL.out]; exact hjk)
      have hji : (j : Int) < (k : Int) := by omega
      have hx : bs[j]'(by rw [HL.out]; exact hjk) < 256 := HB.out _ (List.getElem_mem _)
      obtain ⟨x, hxx⟩ : ∃ x, x = bs[j]'(by rw [HL.out]; exact hjk) := ⟨_, rfl⟩
      rw [← hxx] at hcl hx
      have HX := Lib.hid hxx
      clear hf' hxx
      have ix1 := hex_run (x / 16) (by omega) (↑x / 16) (by omega)
      have ix2 := hex_run (x % 16) (by omega) (↑x % 16) (by omega)
      have hba : bits BinOp.and IntKind.u8 (x : Int) 15 = (x : Int) % 16 := u8_and15 _ (by omega) (by omega)
      have m1 : n' + 4 ≤ maxLen := by have := HN2.out; unfold maxLen; omega
      have m2 : (n' + 4) * 1 ≤ 140737488355328 := by have := HN2.out; omega
      have m3 : base ≤ wr.heap.size := Nat.le_trans hb HB2.out.size
      have M1 := Lib.hid m1
      have M2 := Lib.hid m2
      have M3 := Lib.hid m3
      clear m1 m2 m3
      have a1 : (0 : Int) ≤ (x : Int) / 16 := by omega
      have a2 : (x : Int) / 16 < 16 := by omega
      have a3 : (0 : Int) ≤ (x : Int) % 16 := by omega
      have a4 : (x : Int) % 16 < 16 := by omega
      go_wp2
      go_region_held3 (fun _ => True) (trivial) (first
        | (refine step_append_seg rfl (.tmp 55) (.tmp 62) 72 rfl base 5 i0 _ 1 1 Tryd.underlying72 fi fz0 fz1 fz2 rfl (by decide) (.slice A' n' c') n' (bV (l ++ ((bs.take j).flatMap escB).flatten)) (by first | rfl | simp [Act.eval] | simp [Act.eval, Act.put]) (by first | exact HO2.out.2 | exact HO2.out.2.alloc _) (wr.heap.size + 1) (some ⟨wr.heap.size, 0, none⟩) 4 4 (bV (escB x).flatten) (by first | rfl | simp [Act.eval] | simp [Act.eval, Act.put]) (by simp [bV, escB]) (by exact seg_new) (bV_one _) M1.out M2.out (by first | exact M3.out | exact Nat.le_trans M3.out (by simp)) ?_; intro v3 w3 hown3 hg3 _)
        | fail)
      all_goals
        obtain ⟨A3, c3, rfl, hown4⟩ := own_more (m := 4) (l' := (escB x).flatten) HO2.out.1 (by simp [escB]) hown3
        have hf4 : Frz w3 w1.heap.size bs := by
          refine Frz.grown (base := base) (size := 1) (n := n') (e := 5) (xs := bV (l ++ ((bs.take j).flatMap escB).flatten)) ?_ ?_ hg3
          rotate_left
          · first | exact HO2.out.2.alloc _ | exact (HO2.out.2.alloc _).drew
          · exact HF2.out.alloc _
        have hb4 : Below base w1 w3 := by
          refine Below.grown ?_ hg3 (by simp; have := M3.out; omega) (fun g hg => (HO2.out.2.lt g hg).1)
          first | exact HB2.out.alloc M3.out _ | exact (HB2.out.alloc M3.out _).drew | exact HB2.out.drew.alloc M3.out _
        have hk4 : Lib.OthersKept 5 none w1 w3 := by
          refine Lib.OthersKept.grown ?_ hg3 (own_kind (n := n') (base := base) (xs := bV (l ++ ((bs.take j).flatMap escB).flatten)) ?_)
          rotate_left
          · first | exact HO2.out.2.alloc _ | exact (HO2.out.2.alloc _).drew
          · first | exact HK2.out.alloc _ | exact (HK2.out.alloc _).drew
        have hl4 : l ++ ((bs.take j).flatMap escB).flatten ++ (escB x).flatten = l ++ ((bs.take (j + 1)).flatMap escB).flatten := by
          rw [List.take_succ_eq_append_getElem (by rw [HL.out]; exact hjk), ← HX.out]
          simp
        rw [hl4] at hown4
        clear hl4 hown3 hg3
        go_wp2
        exact ⟨⟨j + 1, A3, n' + 4, c3, hjk, by go_num, rfl, by have := HN2.out; omega, hown4, hf4, hb4, hk4⟩, by simp [intOf]; omega⟩
    · obtain rfl : j = k := by omega
      go_wp2
      go_ret
      refine ⟨A', n', c', rfl, ?_, HB2.out, HK2.out⟩
      have := HO2.out
      rw [List.take_of_length_le (by rw [HL.out]; exact Nat.le_refl _)] at this
      exact this
end Go.Proofs.YtfipljhlponcoaaDoor
