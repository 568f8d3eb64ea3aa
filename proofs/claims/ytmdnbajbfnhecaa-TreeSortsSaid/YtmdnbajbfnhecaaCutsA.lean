/- What a cut or a graft hands back; what stays of what was handed in. -/
import Derived.Test.YtmdnbajbfnhecaaGraftY
import Derived.Test.YtmdnbajbfnhecaaRGraft
import Derived.Test.YtmdnbajbfnhecaaPCut
import Derived.Test.YtmdnbajbfnhecaaRCut
import Derived.Test.YtmdnbajbfnhecaaSpoil
import Derived.Test.YtmdnbajbfnhecaaRSame
set_option linter.unusedVariables false
namespace Go.Proofs.Ytmdnbajbfnhecaa
open Go.RowKit
/-! What a cut or a graft hands back is made of the nodes that were handed in. -/
structure From (d : List Nd) (l : List Nm) : Prop where
  len : d.length ≤ 2048
  of_ : ∀ x ∈ d, ∃ y ∈ l, x.n = y.d.n ∧ x.ps = y.d.ps ∧ -1024 ≤ x.p ∧ x.p ≤ 4096
theorem From.sized {d : List Nd} {l : List Nm} (h : From d l) (hl : Sized l) : SizedD d := by
  refine ⟨by have := h.len; omega, fun x hx => ?_, fun x hx => ?_, fun x hx => ?_⟩
  · obtain ⟨y, hy, e1, e2, _⟩ := h.of_ x hx
    rw [e1, e2]
    exact hl.small y.d (by unfold dat; exact List.mem_map_of_mem hy)
  · obtain ⟨y, hy, e1, e2, _⟩ := h.of_ x hx
    rw [e2]; exact hl.props y hy
  · obtain ⟨y, hy, _, _, h1, h2⟩ := h.of_ x hx
    exact WalkArith.wf_i64 (by omega)
theorem From.nil (l : List Nm) : From [] l := ⟨by simp, by simp⟩
theorem tree_bd {l : List Nm} (hf : Fine (dat l) (dat l).length) (h5 : (dat l).length ≤ 512) : ∀ x ∈ l, -1 ≤ x.d.p ∧ x.d.p ≤ 512 := fun x hx => by
  obtain ⟨j, hj, rfl⟩ := List.mem_iff_getElem.1 hx
  have := fine_bd hf h5 (j := j) (by rw [dat_len]; exact hj)
  rw [dat_get l hj] at this
  exact this
theorem mem_dat {l : List Nm} {x : Nd} (h : x ∈ dat l) : ∃ y ∈ l, y.d = x := by unfold dat at h; exact List.mem_map.1 h
theorem cut_from (l : List Nm) (i : Int) : From (cutR (dat l) i) l ∧ From (cutP (dat l) i) l := by
  by_cases h0 : cutE (dat l) i = 0
  case neg =>
    unfold cutR cutP
    rw [if_neg h0, if_neg h0]
    exact ⟨From.nil _, From.nil _⟩
  have hw0 : wrongF (dat l) i = 0 := by
    unfold cutE at h0
    split at h0
    · cases h0
    · exact h0
  obtain ⟨hf, h5, k, rfl, hk⟩ := wrong_zero hw0
  have hbd := tree_bd hf h5
  have hz := (endN_at hk).le
  unfold cutR cutP
  rw [if_pos h0, if_pos h0]
  simp only [Int.toNat_natCast]
  generalize endN (dat l) k = z at *
  refine ⟨⟨?_, fun x hx => ?_⟩, ⟨?_, fun x hx => ?_⟩⟩
  · rw [rest_len]; simp; omega
  · unfold restF at hx
    obtain ⟨y, hy, rfl⟩ := List.mem_map.1 hx
    have hy2 : y ∈ dat l := by
      rcases List.mem_append.1 hy with h | h
      · exact List.mem_of_mem_take h
      · exact List.mem_of_mem_drop h
    obtain ⟨y2, hy3, rfl⟩ := mem_dat hy2
    have := hbd y2 hy3
    refine ⟨y2, hy3, ?_, ?_, ?_, ?_⟩
    · unfold restOne; split <;> rfl
    · unfold restOne; split <;> rfl
    · unfold restOne; split
      · simp only [Nd.par]; omega
      · omega
    · unfold restOne; split
      · simp only [Nd.par]; omega
      · omega
  · rw [piece_len]; simp; omega
  · unfold pieceF at hx
    obtain ⟨j, hj, rfl⟩ := List.mem_mapIdx.1 hx
    obtain ⟨y2, hy3, e⟩ := mem_dat (List.mem_of_mem_take (List.mem_of_mem_drop (List.getElem_mem hj)))
    have := hbd y2 hy3
    rw [e] at this
    refine ⟨y2, hy3, by rw [e]; rfl, by rw [e]; rfl, ?_, ?_⟩ <;> · simp only [Nd.par]; split <;> omega
theorem graft_from (l p : List Nm) (i : Int) : From (graftR (dat l) i (dat p)) (l ++ p) := by
  by_cases h0 : graftE (dat l) i (dat p) = 0
  case neg =>
    unfold graftR
    rw [if_neg h0]
    exact From.nil _
  have hw0 : wrongF (dat l) i = 0 := by
    unfold graftE at h0
    split at h0
    · exact h0
    · rename_i h; exact Classical.byContradiction fun e => h e
  have hpb : pieceB (dat p) = true := by
    unfold graftE at h0
    rw [if_neg (by simp [hw0])] at h0
    split at h0
    · cases h0
    · rename_i h; exact Bool.not_eq_false _ ▸ h
  obtain ⟨hf, h5, k, rfl, hk⟩ := wrong_zero hw0
  have hbd := tree_bd hf h5
  have hz := (endN_at hk).le
  have hl0 : 0 < (dat p).length := by
    rcases Nat.eq_zero_or_pos (dat p).length with h | h
    · rw [pieceB_no h] at hpb; cases hpb
    · exact h
  have hc0 : (checkF (headless (dat p))).2 = 0 := by
    have := pieceB_some hl0
    rw [hpb] at this
    have := this.symm
    rw [Bool.and_eq_true, beq_iff_eq] at this
    exact this.2
  obtain ⟨_, hp5, hpbd⟩ := piece_fine hc0
  unfold graftR
  rw [if_pos h0]
  simp only [Int.toNat_natCast]
  generalize endN (dat l) k = z at *
  refine ⟨?_, fun x hx => ?_⟩
  · unfold graftF
    simp only [List.length_append, List.length_take, put_len, List.length_map, List.length_drop]
    omega
  · unfold graftF at hx
    rcases List.mem_append.1 hx with hx | hx
    · rcases List.mem_append.1 hx with hx | hx
      · obtain ⟨y2, hy3, rfl⟩ := mem_dat (List.mem_of_mem_take hx)
        have := hbd y2 hy3
        exact ⟨y2, List.mem_append_left _ hy3, rfl, rfl, by omega, by omega⟩
      · unfold putF at hx
        obtain ⟨j, hj, rfl⟩ := List.mem_mapIdx.1 hx
        obtain ⟨y2, hy3, e⟩ := mem_dat (List.getElem_mem hj)
        have := hpbd j hj
        refine ⟨y2, List.mem_append_right _ hy3, by rw [e]; rfl, by rw [e]; rfl, ?_, ?_⟩ <;> · simp only [Nd.par]; split <;> omega
    · obtain ⟨y, hy, rfl⟩ := List.mem_map.1 hx
      obtain ⟨y2, hy3, rfl⟩ := mem_dat (List.mem_of_mem_drop hy)
      have := hbd y2 hy3
      refine ⟨y2, List.mem_append_left _ hy3, ?_, ?_, ?_, ?_⟩
      · unfold liftOne; split <;> rfl
      · unfold liftOne; split <;> rfl
      · unfold liftOne; split
        · simp only [Nd.par]; omega
        · omega
      · unfold liftOne; split
        · simp only [Nd.par]; omega
        · omega
theorem Sized.app {l p : List Nm} (h : Sized l) (h' : Sized p) (hn : (l ++ p).length * 48 ≤ 140737488355328) : Sized (l ++ p) := by
  refine ⟨hn, fun x hx => ?_, fun x hx => ?_, fun x hx => ?_⟩
  · obtain ⟨y, hy, rfl⟩ := mem_dat hx
    rcases List.mem_append.1 hy with hy | hy
    · exact h.small _ (by unfold dat; exact List.mem_map_of_mem hy)
    · exact h'.small _ (by unfold dat; exact List.mem_map_of_mem hy)
  · rcases List.mem_append.1 hx with hx | hx
    · exact h.props x hx
    · exact h'.props x hx
  · rcases List.mem_append.1 hx with hx | hx
    · exact h.wf x hx
    · exact h'.wf x hx
theorem pgraft_any (A : Option Addr) (cap n : Nat) (l : List Nm) (hn : n = l.length) (hcap : n ≤ cap) (hsz : Sized l) (i : Int) (A' : Option Addr) (cap' n' : Nat) (p : List Nm) (hn' : n' = p.length) (hsz' : Sized p) (w : World) (B : Nat) (hB : B ≤ w.heap.size) (hs : Nodes w B A l) (hs' : Nodes w B A' p) :
    Calls Try.prog 14 #[.slice A n cap, .int .i64 i, .slice A' n' cap'] w fun e w' => GraftRet (dat l) i (dat p) w' w.heap.size e ∧ Below w.heap.size w w' := by
  by_cases hno : wrongF (dat l) i ≠ 0 ∨ pieceB (dat p) = false
  · exact pgraft_no A cap n l hn hsz i A' cap' n' p hn' hsz' w B hB hs hs' hno
  · exact pgraft_ok A cap n l hn hcap hsz i A' cap' n' p hn' hsz' w B hB hs hs' (Classical.byContradiction fun e => hno (.inl e)) (by cases h : pieceB (dat p) with | true => rfl | false => exact absurd (.inr h) hno)
theorem rgraft_any (A : Option Addr) (cap n : Nat) (l : List Nm) (hn : n = l.length) (hsz : Sized l) (i : Int) (A' : Option Addr) (cap' n' : Nat) (p : List Nm) (hn' : n' = p.length) (hsz' : Sized p) (w : World) (B : Nat) (hB : B ≤ w.heap.size) (hs : Nodes w B A l) (hs' : Nodes w B A' p) :
    Calls Try.prog 15 #[.slice A n cap, .int .i64 i, .slice A' n' cap'] w fun e w' => RGraftRet (dat l) i (dat p) w' w.heap.size e ∧ Below w.heap.size w w' := by
  by_cases hno : wrongF (dat l) i ≠ 0 ∨ pieceB (dat p) = false
  · exact rgraft_no A cap n l hn hsz i A' cap' n' p hn' hsz' w B hB hs hs' hno
  · exact rgraft_ok A cap n l hn hsz i A' cap' n' p hn' hsz' w B hB hs hs' (Classical.byContradiction fun e => hno (.inl e)) (by cases h : pieceB (dat p) with | true => rfl | false => exact absurd (.inr h) hno)
theorem rsame_eq (A : Option Addr) (c n : Nat) (la : List Nm) (hn : n = la.length) (hz : Sized la) (A' : Option Addr) (c' n' : Nat) (lb : List Nm) (hn' : n' = lb.length) (w : World) (hs : Nodes w w.heap.size A la) (hs' : Nodes w w.heap.size A' lb) (he : dat la = dat lb) :
    Calls Try.prog 9 #[.slice A n c, .slice A' n' c'] w fun e w' => e = .returned (.bool true) ∧ Below w.heap.size w w' := by
  have := rsame_any A c n la hn hz A' c' n' lb hn' w _ (Nat.le_refl _) hs hs'
  rw [he, same_refl] at this
  exact this
/-- What stays of the two lists that were handed in, while other lists come and go. -/
structure S0 (w : World) (mid hi : Nat) (A1 : Option Addr) (n c1 : Nat) (l1 : List Nm) (A2 : Option Addr) (n2 c2 : Nat) (l2 : List Nm) (w' : World) : Prop where
  in_ : OwnN w' w.heap.size A1 n c1 l1
  lt1 : ∀ g, Blk A1 l1 g → g < mid
  put : OwnN w' mid A2 n2 c2 l2
  lt2 : ∀ g, Blk A2 l2 g → g < hi
  low : Below w.heap.size w w'
  base : w.heap.size ≤ mid
  mh : mid ≤ hi
  hi_ : hi ≤ w'.heap.size
section
variable {w w' w'' : World} {mid hi n c1 n2 c2 : Nat} {A1 A2 : Option Addr} {l1 l2 : List Nm}
theorem S0.frame {S : Nat → Prop} (h : S0 w mid hi A1 n c1 l1 A2 n2 c2 l2 w') (hf : Frame S w' w'') (hs : ∀ g, S g → hi ≤ g) : S0 w mid hi A1 n c1 l1 A2 n2 c2 l2 w'' := by
  have hm := h.mh
  have hh := h.hi_
  refine ⟨h.in_.keepB fun g hg => hf.block g ?_ ?_, h.lt1, h.put.keepB fun g hg => hf.block g ?_ ?_, h.lt2, h.low.trans (hf.toBelow (by have := h.base; omega) fun k hk hsk => ?_), h.base, h.mh, Nat.le_trans h.hi_ hf.size⟩
  · have := h.lt1 g hg; omega
  · intro hx; have := h.lt1 g hg; have := hs g hx; omega
  · have := h.lt2 g hg; omega
  · intro hx; have := h.lt2 g hg; have := hs g hx; omega
  · have := hs k hsk; have := h.base; omega
theorem S0.below (h : S0 w mid hi A1 n c1 l1 A2 n2 c2 l2 w') (hb : Below w'.heap.size w' w'') : S0 w mid hi A1 n c1 l1 A2 n2 c2 l2 w'' :=
  h.frame (S := fun _ => False) (Frame.of_below hb) (fun g hx => hx.elim)
end
theorem OwnN.frame {S : Nat → Prop} {w w' : World} {base n c : Nat} {A : Option Addr} {l : List Nm} (h : OwnN w base A n c l) (hf : Frame S w w') (hs : ∀ g, Blk A l g → ¬ S g) : OwnN w' base A n c l :=
  h.keepB fun g hg => hf.block g (h.blk hg).2 (hs g hg)
theorem NodesL.frame {S : Nat → Prop} {w w' : World} {lo n : Nat} {A : Option Addr} {l : List Nm} (h : NodesL w lo A n l) (hf : Frame S w w') (hs : ∀ g, lo ≤ g → ¬ S g) : NodesL w' lo A n l :=
  h.keep hf.size fun g hg hlt => hf.block g hlt (hs g hg)
end Go.Proofs.Ytmdnbajbfnhecaa
