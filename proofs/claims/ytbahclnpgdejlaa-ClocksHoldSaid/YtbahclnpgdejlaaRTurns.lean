/- The document's turns: the contract. -/
import Derived.Test.YtbahclnpgdejlaaROn
set_option linter.unusedVariables false
namespace Go.Proofs.Ytbahclnpgdejlaa
open Go.RowKit
/-- Those that came on, of the first k places; those that went off, of the last d places, the last one first. -/
def upT (was is : List Bool) : Nat → List (Int × Bool)
  | 0 => []
  | k + 1 => upT was is k ++ (if is.getD k false && !was.getD k false then [((k : Int), true)] else [])
def downT (was is : List Bool) (n : Nat) : Nat → List (Int × Bool)
  | 0 => []
  | d + 1 => downT was is n d ++ (if was.getD (n - 1 - d) false && !is.getD (n - 1 - d) false then [(((n - 1 - d : Nat) : Int), false)] else [])
def refTurns (was is : List Bool) (n : Nat) : List (Int × Bool) := upT was is n ++ downT was is n n
theorem upT_len (was is : List Bool) : ∀ k, (upT was is k).length ≤ k
  | 0 => by simp [upT]
  | k + 1 => by have := upT_len was is k; unfold upT; split <;> simp <;> omega
theorem downT_len (was is : List Bool) (n : Nat) : ∀ k, (downT was is n k).length ≤ k
  | 0 => by simp [downT]
  | k + 1 => by have := downT_len was is n k; unfold downT; split <;> simp <;> omega
theorem Try.info109 : (Try.prog.info? 109).map (fun i => (i.zero, i.size, i.bytes)) = some (some (.agg #[.int .i64 0, .bool false]), 2, 16) := by kernel_rfl
theorem turnCells_snoc (t : List (Int × Bool)) (x : Int × Bool) : turnCells (t ++ [x]) = turnCells t ++ [.int .i64 x.1, .bool x.2] := by simp [turnCells]
theorem bools_at {w : World} {g : Nat} {l : List Bool} (h : RowAt w g 4 (bools l)) {k : Nat} (hk : k < l.length) : w.cell? ⟨g, k, none⟩ = some (.bool (l.getD k false)) := by
  rw [h.cell (by rw [bools_len]; exact hk)]
  simp [bools, List.getD, hk]
set_option maxRecDepth 100000 in
set_option maxHeartbeats 4000000 in
theorem rturns_any (g1 g2 n : Nat) (was is : List Bool) (h1 : n = was.length) (h2 : n = is.length) (hn5 : n ≤ 512) (w : World) (r1 : RowAt w g1 4 (bools was)) (r2 : RowAt w g2 4 (bools is)) :
    Calls Try.prog 50 #[.slice (some ⟨g1, 0, none⟩) n n, .slice (some ⟨g2, 0, none⟩) n n] w fun e w' => ∃ A c, e = .returned (.slice A (refTurns was is n).length c) ∧
      w'.ownsRow w.heap.size 109 2 (.slice A (refTurns was is n).length c) (refTurns was is n).length (turnCells (refTurns was is n)) ∧ Below w.heap.size w w' := by
  obtain ⟨i0, fi, fz0, fz1, fz2⟩ := info_parts Try.info109
  have H1 := Lib.hid h1
  have H2 := Lib.hid h2
  have R1 := Lib.hid r1
  have R2 := Lib.hid r2
  clear h1 h2 r1 r2
  go_enter Try.func50, Try.ntmps50
  go_wp2
  go_loopw [5, 6] (fun o i wr => ∃ k : Nat, k ≤ n ∧ i = .int .i64 k ∧ (∃ A c, o = .slice A (upT was is k).length c) ∧ wr.ownsRow w.heap.size 109 2 o (upT was is k).length (turnCells (upT was is k)) ∧ Below w.heap.size w wr) (fun _ i _ => n - (intOf i).toNat)
  case atStart => exact ⟨0, by omega, rfl, ⟨none, 0, rfl⟩, World.ownsRow_nil _ _ _ _, Below.refl _ _⟩
  case round =>
    obtain ⟨k, hk, rfl, ⟨Ao, co, rfl⟩, hown, hb⟩ := hrel
    have HO := Lib.hid hown
    have HB := Lib.hid hb
    have hul := upT_len was is k
    clear hown hb
    by_cases hlt : k < n
    · have c1 := bools_at (R1.out.below HB.out) (k := k) (by rw [← H1.out]; exact hlt)
      have c2 := bools_at (R2.out.below HB.out) (k := k) (by rw [← H2.out]; exact hlt)
      have hki : (k : Int) < (n : Int) := by omega
      have hup : upT was is (k + 1) = upT was is k ++ (if is.getD k false && !was.getD k false then [((k : Int), true)] else []) := rfl
      generalize was.getD k false = a at *
      generalize is.getD k false = b at *
      have HUP := Lib.hid hup
      clear hup
      by_cases hab : a = false ∧ b = true
      · obtain ⟨rfl, rfl⟩ := hab
        have hu2 : upT was is (k + 1) = upT was is k ++ [((k : Int), true)] := HUP.out
        have HU2 := Lib.hid hu2
        clear hu2 HUP
        go_wp2_with (at_builtin; refine wpList_append_seg _ rfl (.tmp 25) (.tmp 28) 88 rfl w.heap.size 109 i0 _ 2 16 Try.underlying88 fi fz0 fz1 fz2 rfl (by decide) _ _ (turnCells (upT was is k)) rfl (HO.out.alloc _) (wr.heap.size + 1) (some ⟨wr.heap.size, 0, none⟩) 1 1 [.int .i64 k, .bool true] rfl rfl (seg_new wr 109 #[.int .i64 k, .bool true]) ?_ ?_ ?_ ?_ ?_)
        · first | exact ⟨rfl, rfl⟩ | (intro u hu; simp at hu; rcases hu with rfl | rfl <;> rfl)
        · unfold maxLen; omega
        · omega
        · have := HB.out.size; simp; omega
        intro v3 w3 hown3 hg3 _
        obtain ⟨A3, c3, rfl⟩ := own_shape hown3
        have hb3 : Below w.heap.size w w3 := (HB.out.alloc HB.out.size _).grown hg3 (by have := HB.out.size; simp; omega) (fun g hg => by have := (HO.out.lt g hg).1; omega)
        have ht : turnCells (upT was is k) ++ [.int .i64 (k : Int), .bool true] = turnCells (upT was is (k + 1)) := by rw [HU2.out, turnCells_snoc]
        have hl : (upT was is k).length + 1 = (upT was is (k + 1)).length := by rw [HU2.out]; simp
        rw [ht, hl] at hown3
        have H3 := Lib.hid hown3
        have HB3 := Lib.hid hb3
        have HL3 := Lib.hid hl
        clear hown3 hb3 hg3 ht hl
        go_wp2
        go_roundw
        case rel => exact ⟨k + 1, by omega, by go_num, ⟨A3, c3, by rw [HL3.out]⟩, by rw [HL3.out]; exact H3.out, HB3.out⟩
        case measure => simp [intOf]; omega
      · have hu2 : upT was is (k + 1) = upT was is k := by
          rw [HUP.out, if_neg (by rcases a with _ | _ <;> rcases b with _ | _ <;> simp at hab ⊢)]
          simp
        have HU2 := Lib.hid hu2
        clear hu2 HUP
        rcases a with _ | _ <;> rcases b with _ | _
        · go_wp2
          go_roundw
          case rel => exact ⟨k + 1, by omega, by go_num, ⟨Ao, co, by rw [HU2.out]⟩, by rw [HU2.out]; exact HO.out, HB.out⟩
          case measure => simp [intOf]; omega
        · exact absurd ⟨rfl, rfl⟩ hab
        all_goals
          go_wp2
          go_roundw
          case rel => exact ⟨k + 1, by omega, by go_num, ⟨Ao, co, by rw [HU2.out]⟩, by rw [HU2.out]; exact HO.out, HB.out⟩
          case measure => simp [intOf]; omega
    · obtain rfl : k = n := by omega
      go_wp2_with fail
      go_loopw [5, 7] (fun o i wr => ∃ d : Nat, d ≤ k ∧ i = .int .i64 ((k : Int) - 1 - d) ∧ (∃ A c, o = .slice A (upT was is k ++ downT was is k d).length c) ∧ wr.ownsRow w.heap.size 109 2 o (upT was is k ++ downT was is k d).length (turnCells (upT was is k ++ downT was is k d)) ∧ Below w.heap.size w wr) (fun _ i _ => (intOf i + 1).toNat)
      case atStart => exact ⟨0, by omega, by simp, ⟨Ao, co, by simp [downT]⟩, by simpa [downT] using HO.out, HB.out⟩
      case round =>
        obtain ⟨d, hd, rfl, ⟨Ao, co, rfl⟩, hown, hb⟩ := hrel
        have HO2 := Lib.hid hown
        have HB2 := Lib.hid hb
        have hdl := downT_len was is k d
        clear hown hb HO
        by_cases hlt : d < k
        · obtain ⟨j, hj⟩ : ∃ j : Nat, (k : Int) - 1 - d = j := ⟨k - 1 - d, by omega⟩
          have hj2 : k - 1 - d = j := by omega
          rw [hj]
          have c1 := bools_at (R1.out.below HB2.out) (k := j) (by rw [← H1.out]; omega)
          have c2 := bools_at (R2.out.below HB2.out) (k := j) (by rw [← H2.out]; omega)
          have hki : (j : Int) < (k : Int) := by omega
          have hup : downT was is k (d + 1) = downT was is k d ++ (if was.getD (k - 1 - d) false && !is.getD (k - 1 - d) false then [(((k - 1 - d : Nat) : Int), false)] else []) := rfl
          rw [hj2] at hup
          have hji : (j : Int) - 1 = (k : Int) - 1 - ((d + 1 : Nat) : Int) := by omega
          have HJ := Lib.hid hji
          have hjm : j + 1 + d = k := by omega
          have HJM := Lib.hid hjm
          generalize was.getD j false = a at *
          generalize is.getD j false = b at *
          have HUP := Lib.hid hup
          have htl : (upT was is k ++ downT was is k d).length ≤ 1024 := by simp; omega
          clear hup hj hj2 hji hjm
          by_cases hab : a = true ∧ b = false
          · obtain ⟨rfl, rfl⟩ := hab
            have hu2 : upT was is k ++ downT was is k (d + 1) = (upT was is k ++ downT was is k d) ++ [((j : Int), false)] := by rw [HUP.out, List.append_assoc]; rfl
            have HU2 := Lib.hid hu2
            obtain ⟨T, hT⟩ : ∃ T, T = upT was is k ++ downT was is k d := ⟨_, rfl⟩
            rw [← hT] at HO2 HU2 htl ⊢
            clear hu2 HUP hT
            go_wp2_with (at_builtin; refine wpList_append_seg _ rfl (.tmp 48) (.tmp 51) 88 rfl w.heap.size 109 i0 _ 2 16 Try.underlying88 fi fz0 fz1 fz2 rfl (by decide) _ _ (turnCells T) rfl (HO2.out.alloc _) (wr.heap.size + 1) (some ⟨wr.heap.size, 0, none⟩) 1 1 [.int .i64 j, .bool false] rfl rfl (seg_new wr 109 #[.int .i64 j, .bool false]) ?_ ?_ ?_ ?_ ?_)
            · first | exact ⟨rfl, rfl⟩ | (intro u hu; simp at hu; rcases hu with rfl | rfl <;> rfl)
            · unfold maxLen; omega
            · omega
            · have := HB2.out.size; simp; omega
            intro v3 w3 hown3 hg3 _
            obtain ⟨A3, c3, rfl⟩ := own_shape hown3
            have hb3 : Below w.heap.size w w3 := (HB2.out.alloc HB2.out.size _).grown hg3 (by have := HB2.out.size; simp; omega) (fun g hg => by have := (HO2.out.lt g hg).1; omega)
            have ht : turnCells T ++ [.int .i64 (j : Int), .bool false] = turnCells (upT was is k ++ downT was is k (d + 1)) := by rw [HU2.out, turnCells_snoc]
            have hl : T.length + 1 = (upT was is k ++ downT was is k (d + 1)).length := by rw [HU2.out]; simp
            rw [ht, hl] at hown3
            have H3 := Lib.hid hown3
            have HB3 := Lib.hid hb3
            have HL3 := Lib.hid hl
            clear hown3 hb3 hg3 ht hl
            go_wp2
            exact ⟨⟨d + 1, by omega, by rw [HJ.out], ⟨A3, c3, by rw [HL3.out]⟩, by rw [HL3.out]; exact H3.out, HB3.out⟩, by simp [intOf]⟩
          · have hu2 : downT was is k (d + 1) = downT was is k d := by
              rw [HUP.out, if_neg (by rcases a with _ | _ <;> rcases b with _ | _ <;> simp at hab ⊢)]
              simp
            have HU2 := Lib.hid hu2
            clear hu2 HUP
            rcases a with _ | _ <;> rcases b with _ | _
            case true.false => exact absurd ⟨rfl, rfl⟩ hab
            all_goals
              go_wp2
              exact ⟨⟨d + 1, by omega, by rw [HJ.out], ⟨Ao, co, by rw [HU2.out]⟩, by rw [HU2.out]; exact HO2.out, HB2.out⟩, by simp [intOf]⟩
        · obtain rfl : d = k := by omega
          rw [show (d : Int) - 1 - d = -1 by omega]
          go_wp2_with fail
          go_ret
          exact ⟨Ao, co, rfl, HO2.out, HB2.out⟩
end Go.Proofs.Ytbahclnpgdejlaa
