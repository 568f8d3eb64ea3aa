/- Tame lists, their paths and ends, what has been seen, and the walk of TreePaths. -/
import Derived.Test.YtmdnbajbfnhecaaDoorWorks
import Derived.Test.YtmdnbajbfnhecaaDoorWalksW
import Derived.Maps.OwnIn
import Derived.Maps.OwnSet
set_option linter.unusedVariables false
namespace Go.Proofs.YtmdnbajbfnhecaaDoor
open Go.RowKit
/-- A tree in memory: it is one, and small. -/
structure TreeAt (w : World) (A : Option Addr) (m : Nat) (l : List Nm) : Prop where
  len : m = l.length
  nodes : Nodes w w.heap.size A l
  sized : Sized l
  ok : checkF (dat l) = (0, 0)
  few : m ≤ 60
set_option maxRecDepth 100000 in
theorem small_ok : checkF smallD = (0, 0) := by kernel_rfl
theorem check_fst {l : List Nd} (h : (checkF l).2 = 0) : checkF l = (0, 0) := by
  unfold checkF at *
  split at h
  · cases h
  · split at h
    · cases h
    · rename_i h1 h2
      rw [if_neg h2]
set_option maxRecDepth 100000 in
set_option maxHeartbeats 2000000 in
theorem tame_any (A : Option Addr) (cap n : Nat) (l : List Nm) (hn : n = l.length) (hsz : Sized l) (w : World) (B : Nat) (hB : B ≤ w.heap.size) (hs : Nodes w B A l) :
    Calls Tryd.prog 31 #[.slice A n cap] w fun e w' => ∃ (A' : Option Addr) (m c' : Nat) (l' : List Nm), e = .returned (.slice A' m c') ∧ TreeAt w' A' m l' ∧ Below w.heap.size w w' := by
  have hq := pCheck_any A cap n l hn hsz w B hB hs
  have hck : (checkF (dat l)).2 = 0 → checkF (dat l) = (0, 0) := check_fst
  have HCK := Lib.hid hck
  generalize hR : checkF (dat l) = R at hq
  obtain ⟨R1, R2⟩ := R
  simp only at hq
  have HR := Lib.hid hR
  have HN := Lib.hid hn
  have HS := Lib.hid hs
  have HZ := Lib.hid hsz
  have HQ := Lib.hid hq
  clear hck hR hn hs hsz hq
  have fin : ∀ (w1 : World), Below w.heap.size w w1 → Calls Tryd.prog 59 #[] w1 fun e w' => ∃ (A' : Option Addr) (m c' : Nat) (l' : List Nm), e = .returned (.slice A' m c') ∧ TreeAt w' A' m l' ∧ Below w.heap.size w w' := fun w1 hb1 =>
    (small_any w1).mono fun e w2 ⟨b, g1, g2, g3, g4, he, hs2, hb2⟩ => ⟨_, 7, 7, smallM g1 g2 g3 g4, he, ⟨rfl, hs2, small_sized _ _ _ _, by rw [small_dat]; exact small_ok, by omega⟩, below_next hb1 hb2⟩
  have HFN := Lib.hid fin
  clear fin
  by_cases h0 : R2 = 0
  · subst h0
    by_cases h60 : 60 < n
    · have h6i : (60 : Int) < (n : Int) := by omega
      go_enter Tryd.func31, Tryd.ntmps31
      go_wp2_with (first
        | (go_at_call 59
           refine (HFN.out w1 HB1.out).mono ?_
           rintro e w2 ⟨A', m, c', l', rfl, ht, hb2⟩
           have HT := Lib.hid ht
           have HB2 := Lib.hid hb2
           clear ht hb2)
        | (go_at_call 26
           refine HQ.out.mono ?_
           rintro e w1 ⟨rfl, hb1⟩
           have HB1 := Lib.hid hb1
           clear hb1))
      go_ret
      exact ⟨A', m, c', l', rfl, HT.out, HB2.out⟩
    · have h6i : ¬ (60 : Int) < (n : Int) := by omega
      go_enter Tryd.func31, Tryd.ntmps31
      go_wp2_with (first
        | (go_at_call 8
           refine (rtwin_any A cap n l HN.out HZ.out w1 w.heap.size HB1.out.size (((HS.out.more hB)).below HB1.out)).mono ?_
           rintro e w2 ⟨A', c', l', rfl, hd, ho, hb2⟩
           have HT := Lib.hid (show TreeAt w2 A' n l' from ⟨ho.len, ho.nodes, sized_dat HZ.out hd, by rw [hd]; exact HCK.out (by rw [HR.out]), by omega⟩)
           have HB2 := Lib.hid (below_next HB1.out hb2)
           clear hd ho hb2)
        | (go_at_call 26
           refine HQ.out.mono ?_
           rintro e w1 ⟨rfl, hb1⟩
           have HB1 := Lib.hid hb1
           clear hb1))
      go_ret
      exact ⟨A', n, c', l', rfl, HT.out, HB2.out⟩
  · have e0 : (R2 != 0) = true := by rw [bne_iff_ne]; exact h0
    go_enter Tryd.func31, Tryd.ntmps31
    go_wp2_with (first
      | (go_at_call 59
         refine (HFN.out w1 HB1.out).mono ?_
         rintro e w2 ⟨A', m, c', l', rfl, ht, hb2⟩
         have HT := Lib.hid ht
         have HB2 := Lib.hid hb2
         clear ht hb2)
      | (go_at_call 26
         refine HQ.out.mono ?_
         rintro e w1 ⟨rfl, hb1⟩
         have HB1 := Lib.hid hb1
         clear hb1))
    go_ret
    exact ⟨A', m, c', l', rfl, HT.out, HB2.out⟩
end Go.Proofs.YtmdnbajbfnhecaaDoor

set_option linter.unusedVariables false
namespace Go.Proofs.YtmdnbajbfnhecaaDoor
/-- A list that is a tree. -/
structure Is (l : List Nd) : Prop where
  fine : Fine l l.length
  pos : 0 < l.length
  ok : (checkF l).2 = 0
theorem is_tree {l : List Nd} (h : checkF l = (0, 0)) : Is l := by
  have h2 : (checkF l).2 = 0 := by rw [h]
  obtain ⟨a, b, _⟩ := check_fine h2
  exact ⟨a, b, h2⟩
section
variable {l : List Nd}
theorem Is.wrong (h : Is l) {i : Nat} (hi : i < l.length) : wrongF l (i : Int) = 0 := by
  unfold wrongF
  rw [if_pos h.ok, if_neg (by omega)]
theorem Is.path (h : Is l) {i : Nat} (hi : i < l.length) : pathS l (i : Int) = pathB l i := by
  unfold pathS
  rw [if_pos (h.wrong hi), Int.toNat_natCast]
theorem Is.find (h : Is l) {i : Nat} (hi : i < l.length) : findV l (pathB l i) = ((i : Int), 0) := by
  unfold findV
  rw [if_pos h.ok]
  have : (pathB l i).data.toList = pathL l i := by simp [pathB]
  rw [this, find_path (fine_tr h.fine) hi]
theorem Is.apart (h : Is l) {i j : Nat} (hi : i < l.length) (hj : j < l.length) (e : pathB l i = pathB l j) : i = j := by
  have h1 := h.find hi
  rw [e, h.find hj] at h1
  injection h1 with h1 _
  omega
theorem Is.par (h : Is l) {i : Nat} (h0 : 0 < i) (hi : i < l.length) : ∃ p : Nat, parAt l i = (p : Int) ∧ p < i := by
  obtain ⟨h1, h2⟩ := (fine_tr h.fine).par h0 hi
  exact ⟨parM l i, h2, h1⟩
theorem Is.depth (h : Is l) {i p : Nat} (hi : i < l.length) (hp : parAt l i = (p : Int)) (hpi : p < i) : depthI l (i : Int) = depthI l (p : Int) + 1 := by
  unfold depthI
  rw [if_pos (h.wrong hi), if_pos (h.wrong (by omega)), above_step h.fine (Nat.le_refl _) hi, hp]
  simp
theorem pathL_root (l : List Nd) : pathL l 0 = [47] := by unfold pathL; rw [if_pos rfl]
theorem pathB_root (l : List Nd) : pathB l 0 = ⟨#[47]⟩ := by unfold pathB; rw [pathL_root]
theorem strokes_snoc (xs : List (List UInt8)) (x : List UInt8) : strokes (xs ++ [x]) = strokes xs ++ 47 :: x := by
  unfold strokes; simp
theorem Is.path_root (h : Is l) {i : Nat} (h0 : 0 < i) (hi : i < l.length) (hp : parAt l i = 0) : (pathB l i).data.toList = 47 :: nameAt l i := by
  have hm : parM l i = 0 := by unfold parM; rw [hp]; rfl
  have h1 := seg_step (fine_tr h.fine) h0 hi
  rw [hm, seg_zero] at h1
  show (pathL l i).toArray.toList = _
  unfold pathL
  rw [if_neg (by omega), h1]
  unfold strokes
  simp
theorem Is.path_deep (h : Is l) {i p : Nat} (h0 : 0 < i) (hi : i < l.length) (hp : parAt l i = (p : Int)) (hp0 : 0 < p) : (pathB l i).data.toList = (pathB l p).data.toList ++ 47 :: nameAt l i := by
  have hm : parM l i = p := by unfold parM; rw [hp, Int.toNat_natCast]
  have h1 := seg_step (fine_tr h.fine) h0 hi
  rw [hm] at h1
  show (pathL l i).toArray.toList = (pathL l p).toArray.toList ++ _
  unfold pathL
  rw [if_neg (by omega), if_neg (by omega), h1, strokes_snoc]
theorem Is.path_not (h : Is l) {p : Nat} (hp0 : 0 < p) (hp : p < l.length) : pathB l p ≠ ⟨#[47]⟩ := fun e => by
  have := h.apart hp h.pos (e.trans (pathB_root l).symm)
  omega
/-- The kids, each behind what is beneath the one ahead of it. -/
inductive Chain (l : List Nd) (i : Nat) : Nat → List Nat → Nat → Prop
  | nil (z : Nat) : Chain l i z [] z
  | cons {z : Nat} {ks : List Nat} {e : Nat} (h1 : z < l.length) (h2 : parAt l z = (i : Int)) (h3 : Chain l i (endN l z) ks e) : Chain l i z (z :: ks) e
def kidsFrom (l : List Nd) (i z : Nat) : List Nat := ((List.range l.length).drop z).filter fun (j : Nat) => parAt l j == (i : Int)
theorem kidsFrom_step {i z : Nat} (hz : z < l.length) : kidsFrom l i z = if parAt l z = (i : Int) then z :: kidsFrom l i (z + 1) else kidsFrom l i (z + 1) := by
  unfold kidsFrom
  rw [List.drop_eq_getElem_cons (by simpa using hz), List.filter_cons]
  simp only [List.getElem_range, beq_iff_eq]
theorem kidsFrom_end {i z : Nat} (hz : l.length ≤ z) : kidsFrom l i z = [] := by
  unfold kidsFrom
  rw [List.drop_of_length_le (by simpa using hz)]
  rfl
theorem kidsFrom_skip {i : Nat} : ∀ (m z : Nat), z + m ≤ l.length → (∀ j : Nat, z ≤ j → j < z + m → parAt l j ≠ (i : Int)) → kidsFrom l i z = kidsFrom l i (z + m)
  | 0, z, _, _ => rfl
  | m + 1, z, h, hn => by
    rw [kidsFrom_step (by omega), if_neg (hn z (Nat.le_refl _) (by omega)), kidsFrom_skip m (z + 1) (by omega) (fun j h1 h2 => hn j (by omega) (by omega))]
    congr 1
    omega
theorem Is.mem_above (h : Is l) {k : Nat} (hk : k < l.length) {x : Int} (hx : x ∈ above l k) : 0 ≤ x ∧ x ≤ k := by
  obtain ⟨h1, h2, _⟩ := above_mem h.fine (Nat.le_refl _) k hk x hx
  exact ⟨h1, h2⟩
theorem Is.on (h : Is l) {j : Nat} (h0 : 0 < j) (hj : j < l.length) : parAt l j ∈ above l ((j - 1 : Nat) : Int) := by
  have hn := h.fine j hj
  rw [node_some hj (by omega)] at hn
  simp only [Bool.and_eq_true] at hn
  have h1 := hn.2.1.1.2
  have : parAt l j = l[j].p := by
    unfold parAt
    rw [Int.toNat_natCast, List.getElem?_eq_getElem hj]
  rw [this]
  simpa using h1
/-- Behind what is beneath a node nothing hangs from it. -/
theorem Is.past (h : Is l) {i z : Nat} (hi : i < l.length) (hz : EndAt l i z) : ∀ j : Nat, z ≤ j → j < l.length → (i : Int) ∉ above l j ∧ parAt l j ≠ (i : Int) := by
  intro j
  induction j with
  | zero => intro h1 _; have := hz.lt; omega
  | succ j ih =>
    intro h1 h2
    have hst := above_step h.fine (Nat.le_refl _) h2
    obtain ⟨p, hp, hpj⟩ := h.par (Nat.succ_pos j) h2
    have hlt := hz.lt
    rcases Nat.lt_or_ge z (j + 1) with h3 | h3
    · obtain ⟨n1, n2⟩ := ih (by omega) (by omega)
      have hon := h.on (j := j + 1) (Nat.succ_pos j) h2
      rw [show j + 1 - 1 = j from rfl] at hon
      obtain ⟨_, _, pre, e⟩ := above_mem h.fine (Nat.le_refl _) j (by omega) _ hon
      have hno : (i : Int) ∉ above l (parAt l ((j + 1 : Nat) : Int)) := fun hm => n1 (by rw [e]; exact List.mem_append_right _ hm)
      refine ⟨?_, ?_⟩
      · rw [hst, List.mem_cons, not_or]
        exact ⟨by omega, hno⟩
      · intro he
        apply hno
        rw [he]
        rw [above_step h.fine (Nat.le_refl _) hi]
        exact List.mem_cons_self
    · obtain rfl : z = j + 1 := by omega
      have hs := hz.stop h2
      refine ⟨?_, by omega⟩
      rw [hst, List.mem_cons, not_or]
      refine ⟨by omega, fun hm => ?_⟩
      rw [hp] at hm hs
      have := (h.mem_above (by omega) hm).2
      omega
theorem Is.under (h : Is l) {z y : Nat} (hz : z < l.length) (hy : EndAt l z y) : ∀ k : Nat, z ≤ k → k < y → (z : Int) ∈ above l k := by
  intro k h1 h2
  have hk : k < l.length := by have := hy.le; omega
  rcases Nat.eq_or_lt_of_le h1 with rfl | h3
  · rw [above_step h.fine (Nat.le_refl _) hk]
    exact List.mem_cons_self
  · have := under_iff h.fine k h3 hk (fun j a b => hy.under j a (by omega))
    have h4 := hy.under k h3 h2
    rw [decide_eq_true h4] at this
    simpa using this
theorem Is.down (h : Is l) : ∀ k : Nat, k < l.length → (above l k).Pairwise (fun x y => y < x) := by
  intro k
  induction k using Nat.strongRecOn with
  | ind k ih =>
    intro hk
    rw [above_step h.fine (Nat.le_refl _) hk, List.pairwise_cons]
    rcases Nat.eq_zero_or_pos k with h0 | h0
    · subst h0
      have := (fine_par h.fine hk hk).1
      rw [above_neg l (by omega)]
      exact ⟨by simp, List.Pairwise.nil⟩
    · obtain ⟨p, hp, hpk⟩ := h.par h0 hk
      rw [hp]
      exact ⟨fun x hx => by have := (h.mem_above (by omega) hx).2; omega, ih p hpk (by omega)⟩
theorem chain_from (h : Is l) {i e : Nat} (hi : i < l.length) (he : EndAt l i e) : ∀ (m z : Nat), l.length - z ≤ m → i < z → z ≤ e → (z < e → parAt l z = (i : Int)) → Chain l i z (kidsFrom l i z) e
  | m, z, hm, hiz, hze, hpz => by
    have hel := he.le
    rcases Nat.eq_or_lt_of_le hze with rfl | hlt
    · have : kidsFrom l i z = [] := by
        rw [kidsFrom_skip (l.length - z) z (by omega) (fun j h1 h2 => (h.past hi he j h1 (by omega)).2), kidsFrom_end (by omega)]
      rw [this]
      exact .nil _
    · have hzl : z < l.length := by omega
      have hp := hpz hlt
      have hy := endN_at hzl
      have hyl := hy.le
      have hyt := hy.lt
      have hye : endN l z ≤ e := by
        rcases Nat.lt_or_ge e (endN l z) with hh | hh
        · exfalso
          have h1 := he.stop (by omega)
          have h2 := hy.under e hlt hh
          omega
        · exact hh
      have hks : kidsFrom l i z = z :: kidsFrom l i (endN l z) := by
        rw [kidsFrom_step hzl, if_pos hp, kidsFrom_skip (endN l z - (z + 1)) (z + 1) (by omega) (fun j h1 h2 hh => by
          have := hy.under j (by omega) (by omega)
          omega)]
        congr 2
        omega
      rw [hks]
      match m, hm with
      | 0, hm => omega
      | m + 1, hm =>
      refine .cons hzl hp (chain_from h hi he m (endN l z) (by omega) (by omega) hye fun hye2 => ?_)
      have hyl2 : endN l z < l.length := by omega
      have h1 := hy.stop hyl2
      have h2 := he.under (endN l z) (by omega) hye2
      have hon := h.on (by omega) hyl2
      have hin := h.under hzl hy (endN l z - 1) (by omega) (by omega)
      obtain ⟨_, _, pre, ee⟩ := above_mem h.fine (Nat.le_refl _) (endN l z - 1) (by omega) _ hin
      have hst := above_step h.fine (Nat.le_refl _) hzl
      rw [hp] at hst
      rw [ee, hst] at hon
      rcases List.mem_append.1 hon with hm2 | hm2
      · exfalso
        -- those ahead of z on the way are beneath it
        have hdn := h.down (endN l z - 1) (by omega)
        rw [ee, hst, List.pairwise_append] at hdn
        have hgt : ∀ x ∈ pre, (z : Int) < x := fun x hx => hdn.2.2 x hx _ List.mem_cons_self
        have := hgt _ hm2
        omega
      · rcases List.mem_cons.1 hm2 with hm3 | hm3
        · omega
        · have := (h.mem_above hi hm3).2
          omega
/-- The kids of a node, one behind the other, up to its end. -/
theorem Is.chain (h : Is l) {i : Nat} (hi : i < l.length) : Chain l i (i + 1) (kidsN l i) (endN l i) := by
  have he := endN_at hi
  refine chain_from h hi he l.length (i + 1) (by omega) (by omega) he.lt fun hlt => ?_
  have h1 := he.under (i + 1) (by omega) hlt
  obtain ⟨p, hp, hpi⟩ := h.par (i := i + 1) (by omega) (by have := he.le; omega)
  rw [hp] at h1 ⊢
  omega
end
end Go.Proofs.YtmdnbajbfnhecaaDoor

set_option linter.unusedVariables false
namespace Go.Proofs.YtmdnbajbfnhecaaDoor
open Go Go.RowKit Go.Maps Go.Shelf
section
attribute [local go_sem] Oper.semAt_some
set_option maxRecDepth 100000 in
set_option maxHeartbeats 2000000 in
theorem closN_in (F : Fence) (n : Nat) (h8 : F.fn 62) (hro : F.round = none) (hn : 1 ≤ n) (l Bs n₀ b off len cap : Nat) (ps : List ByteArray) (hreach : len ≤ 1000) (hb : b < n₀) (J Jx : List (Nat) → World → Prop)
    (hY : ∀ (pre : List Nat) (x : Nat) (W : World), J pre W → pre.length < len → YieldAt F (n - 1) Tryd.prog l #[.string (ps[x]?.getD ByteArray.empty), .int .i64 (x : Int)] W fun e W' =>
      (e = .returned (.bool true) ∧ J (pre ++ [x]) W' ∧ Below n₀ W W') ∨ (e = .returned (.bool false) ∧ Jx (pre ++ [x]) W'))
    (W : World) (hBs : W.cell? ⟨Bs, 0, none⟩ = some (.slice (some ⟨b, off, none⟩) len cap)) (hc : ∀ j, j < len → W.cell? ⟨b, off + j, none⟩ = some (.string (ps[j]?.getD ByteArray.empty))) (h0 : J [] W) :
    CallsIn F n Tryd.prog 62 #[.func (.yield l) #[] #[], .pointer (some ⟨Bs, 0, none⟩)] W fun e W' => (∃ v, e = .returned v) ∧
      ((∃ ys, ys = upto (fun j => j) len ∧ J ys W') ∨ (∃ pre, (∃ k, k ≤ len ∧ pre = upto (fun j => j) k) ∧ Jx pre W')) := by
  refine callsIn_of_wp Tryd.func62 rfl h8 ?_ hro
  simp only [Tryd.ntmps62, List.size_toArray, List.length_cons, List.length_nil, Nat.reduceAdd, Nat.reduceSub, Array.replicate_succ, Array.replicate_zero, List.push_toArray, List.append_toArray, List.nil_append, List.cons_append]
  gi_wp2
  gi_loopw [7] (fun i wr => ∃ k : Nat, k ≤ len ∧ i = .int .i64 k ∧ J (upto (fun j => j) k) wr ∧ Below n₀ W wr)
    (fun i _ => len - (intOf i).toNat)
  case atStart => exact ⟨0, Nat.zero_le _, rfl, h0, Below.refl _ _⟩
  case round =>
    obtain ⟨k, hk, rfl, hJs, hnx⟩ := hrel
    have hcx : k < len → wr.cell? ⟨b, off + k, none⟩ = some (.string (ps[k]?.getD ByteArray.empty)) := fun h => (hnx.cell (p := ⟨b, off + k, none⟩) hb).trans (hc k h)
    by_cases hlt : k < len
    · obtain ⟨fn, tmps, assign, body, hy, hR⟩ := hY _ k wr hJs (by rw [upto_length]; exact hlt)
      try dsimp only at hy
      have hcx' := hcx hlt
      gi_wp2
      refine hR.mono ?_
      rintro e W3 (⟨rfl, hJ3, hk3⟩ | ⟨rfl, hJx3⟩)
      · gi_wp2
        go_roundw
        case rel => exact ⟨k + 1, by omega, by simp, by rw [upto_succ]; exact hJ3, hnx.trans hk3⟩
        case measure => simp [intOf]; omega
      · gi_wp2
        refine bodyPost_ret (results_none rfl _ _ _) rfl ?_
        exact ⟨⟨_, rfl⟩, .inr ⟨_, ⟨k + 1, by omega, (upto_succ _ _).symm⟩, hJx3⟩⟩
    · obtain rfl : k = len := by omega
      gi_wp2
      go_end0
      exact ⟨⟨_, rfl⟩, .inl ⟨_, rfl, hJs⟩⟩
set_option maxRecDepth 100000 in
set_option maxHeartbeats 1000000 in
theorem closN_nil_in (F : Fence) (n : Nat) (h8 : F.fn 62) (hro : F.round = none) (l Bs c : Nat) (A : Option Addr) (J : List (Nat) → World → Prop) (W : World) (hBs : W.cell? ⟨Bs, 0, none⟩ = some (.slice A 0 c)) (h0 : J [] W) :
    CallsIn F n Tryd.prog 62 #[.func (.yield l) #[] #[], .pointer (some ⟨Bs, 0, none⟩)] W fun e W' => (∃ v, e = .returned v) ∧ J [] W' := by
  refine callsIn_of_wp Tryd.func62 rfl h8 ?_ hro
  simp only [Tryd.ntmps62, List.size_toArray, List.length_cons, List.length_nil, Nat.reduceAdd, Nat.reduceSub, Array.replicate_succ, Array.replicate_zero, List.push_toArray, List.append_toArray, List.nil_append, List.cons_append]
  gi_wp2
  gi_loopw [7] (fun i wr => i = .int .i64 0 ∧ J [] wr) (fun _ _ => 0)
  case atStart => exact ⟨rfl, h0⟩
  case round =>
    obtain ⟨rfl, hJs⟩ := hrel
    gi_wp2
    go_end0
    exact ⟨⟨_, rfl⟩, hJs⟩
/-- The function value that Walk hands back: all pairs, or the first k of them. -/
theorem closN_stops (F : Fence) (n : Nat) (h8 : F.fn 62) (hro : F.round = none) (hn : 1 ≤ n) (Bs base n₀ : Nat) (A : Option Addr) (m c : Nat) (ps : List ByteArray) (hreach : ps.length ≤ 1000) (w : World) (hn₀ : n₀ ≤ w.heap.size)
    (hp : PathsAt w Bs base A m c ps) (hlt : ∀ g, (Value.slice A m c).ownBlock = some g → g < n₀) (hBs : Bs < n₀) :
    SeqStopsK F n Tryd.prog 62 #[.pointer (some ⟨Bs, 0, none⟩)] (fun x : Nat => #[Value.string (ps[x]?.getD ByteArray.empty), Value.int .i64 (x : Int)]) (Below n₀) (fun ys => ys = upto (fun j => j) ps.length)
      (fun pre => ∃ k, k ≤ ps.length ∧ pre = upto (fun j => j) k) ps.length w := fun l J Jx W hW _ _ hY h0 => by
  have hc0 := hp.box.cell (k := 0) (by simp)
  simp only [List.getElem?_cons_zero] at hc0
  have hc' := (hW.cell (p := ⟨Bs, 0, none⟩) hp.box.lt).trans hc0
  obtain rfl := hp.len
  rcases Nat.eq_zero_or_pos ps.length with h | h
  · rw [h] at hc'
    exact (closN_nil_in F n h8 hro l Bs c A J W hc' h0).mono fun e W' ⟨he, hj⟩ => ⟨he, .inl ⟨[], by rw [h]; rfl, hj⟩⟩
  · obtain ⟨g, rfl, _, hg⟩ := own_head hp.row h
    refine (closN_in F n h8 hro hn l Bs n₀ g 0 ps.length c ps hreach (hlt g rfl) J Jx hY W hc' (fun j hj => ?_) h0).mono ?_
    · have := hp.row.cells (g := g) rfl j (.string ps[j]) (by unfold strV; simp [hj])
      rw [addr_add] at this
      rw [hW.cell (p := ⟨g, 0 + j, none⟩) hg, this, List.getElem?_eq_getElem hj]
      rfl
    · rintro e W' ⟨he, ⟨ys, rfl, hj⟩ | ⟨pre, ⟨k, hk, rfl⟩, hj⟩⟩
      · exact ⟨he, .inl ⟨_, rfl, hj⟩⟩
      · exact ⟨he, .inr ⟨_, ⟨k, hk, rfl⟩, hj⟩⟩
end
theorem keyS (s : ByteArray) (hs : s.size ≤ maxLen) : ∃ kl, keyOf Tryd.prog 9 (.string s) = some kl := by
  rw [keyOf_string Tryd.underlying9]
  exact ⟨.string s.data.toList, by simp [mapKey, Tryd.underlying9]; exact hs⟩
theorem strK : Keyed Tryd.prog 9 := string_keyed Tryd.underlying9
/-- The paths of the first k nodes lead to their places; no other text is there. -/
def Seen (w : World) (b k : Nat) (l : List Nd) : Prop :=
  ∃ D : DataW Unit, w.ownsMap Tryd.prog 9 (plainElem Tryd.prog 3) b k D ∧ IsMap D ∧ (∀ j, j < k → ∀ kl, keyOf Tryd.prog 9 (.string (pathB l j)) = some kl → D.atKey kl (.lit (.int .i64 0)) = .lit (.int .i64 (j : Nat))) ∧
    ∀ s kl, keyOf Tryd.prog 9 (.string s) = some kl → (∀ j, j < k → s ≠ pathB l j) → Maps.has D kl = false
theorem seen_made (w : World) (l : List Nd) : Seen (w.alloc (.map #[] 0)) w.heap.size 0 l :=
  ⟨.map [], World.ownsMap_made w _ _ _, isMap_empty, fun j hj => absurd hj (Nat.not_lt_zero j), fun s kl _ _ => rfl⟩
theorem Seen.block {w w' : World} {b k : Nat} {l : List Nd} (h : Seen w b k l) (hk : w'.heap[b]? = w.heap[b]?) : Seen w' b k l := by
  obtain ⟨D, ⟨es, clock, hb, F, hs, hD⟩, hr⟩ := h
  exact ⟨D, ⟨es, clock, hk.trans hb, F, hs, hD⟩, hr⟩
theorem Seen.lt {w : World} {b k : Nat} {l : List Nd} (h : Seen w b k l) : b < w.heap.size := by
  obtain ⟨D, ho, _⟩ := h
  exact ho.lt
set_option maxRecDepth 100000 in
theorem seen_put {w' : World} {b k : Nat} {l : List Nd} {D : DataW Unit} {kl : Lit} (hm : IsMap D) (h1 : ∀ j, j < k → ∀ kl, keyOf Tryd.prog 9 (.string (pathB l j)) = some kl → D.atKey kl (.lit (.int .i64 0)) = .lit (.int .i64 (j : Nat)))
    (h2 : ∀ s kl, keyOf Tryd.prog 9 (.string s) = some kl → (∀ j, j < k → s ≠ pathB l j) → Maps.has D kl = false) (hkey : keyOf Tryd.prog 9 (.string (pathB l k)) = some kl) (hne : ∀ j, j < k → pathB l j ≠ pathB l k)
    (ho : w'.ownsMap Tryd.prog 9 (plainElem Tryd.prog 3) b (k + 1) (D.put kl (.lit (.int .i64 (k : Nat))))) : Seen w' b (k + 1) l := by
  refine ⟨_, ho, hm.put _ _, fun j hj kl' hv => ?_, fun s kl' hv hs => ?_⟩
  · rcases Nat.lt_or_ge j k with h | h
    · have hkk : kl' ≠ kl := fun e => by
        subst e
        have := strK.inj hv hkey
        injection this with this
        exact hne j h this
      rw [atKey_put_other hkk]
      exact h1 j h kl' hv
    · obtain rfl : j = k := by omega
      rw [hkey] at hv
      injection hv with hv
      subst hv
      exact atKey_put_same hm (strK.key hkey) _ _
  · have hkk : kl' ≠ kl := fun e => by
      subst e
      have := strK.inj hv hkey
      injection this with this
      exact hs k (Nat.lt_succ_self k) this
    rw [has_put_other hkk]
    exact h2 s kl' hv (fun j hj => hs j (by omega))
end Go.Proofs.YtmdnbajbfnhecaaDoor

set_option linter.unusedVariables false
namespace Go.Proofs.YtmdnbajbfnhecaaDoor
open Go.RowKit Go.Shelf Go.Maps
attribute [local go_sem] Oper.semAt_some
theorem Is.size {l : List Nd} (h : Is l) : ∀ i : Nat, i < l.length → (pathB l i).size ≤ 32 * i + 1 := by
  intro i
  induction i using Nat.strongRecOn with
  | ind i ih =>
    intro hi
    have hs : ∀ s : ByteArray, s.size = s.data.toList.length := fun s => by rw [Array.length_toList]; rfl
    rcases Nat.eq_zero_or_pos i with rfl | h0
    · rw [pathB_root]; decide
    · obtain ⟨p, hp, hpi⟩ := h.par h0 hi
      have hn := fine_name h.fine hi
      rcases Nat.eq_zero_or_pos p with rfl | hp0
      · rw [hs, h.path_root h0 hi hp, List.length_cons]
        omega
      · rw [hs, h.path_deep h0 hi hp hp0, List.length_append, List.length_cons, ← hs]
        have := ih p hpi (by omega)
        omega
theorem mismN {N : Nat} {pre : List Nat} {x : Nat} (h : x ≠ pre.length) : ∀ j, j ≤ N → ¬ pre ++ [x] = upto (fun j => j) j := by
  intro j _ e
  have hl := congrArg List.length e
  rw [upto_length, List.length_append, List.length_singleton] at hl
  subst hl
  rw [upto_succ] at e
  have := List.append_inj' e rfl
  exact h (by simpa using this.2)
set_option maxRecDepth 100000 in
set_option maxHeartbeats 8000000 in
theorem treePaths_walk (A : Option Addr) (cap n : Nat) (l : List Nm) (hn : n = l.length) (hsz : Sized l) (w : World) (hv0 : Var0 w) (hw0 : 0 < w.heap.size) (hs : Nodes w w.heap.size A l) :
    Calls Tryd.prog 7 #[.slice A n cap] w fun e w' => e = .returned (.bool true) ∧ Below w.heap.size w w' := by
  have hnn : n * 48 ≤ 140737488355328 := by rw [hn]; exact hsz.n
  have hb0 : Below w.heap.size w (w.alloc (.cells #[.bool false] 4)) := (Below.refl _ w).alloc (Nat.le_refl _) _
  have hz0 : (w.alloc (.cells #[.bool false] 4)).heap.size = w.heap.size + 1 := by simp
  have r0 : RowAt (w.alloc (.cells #[.bool false] 4)) w.heap.size 4 [.bool false] := ⟨_, heap_alloc_new _ _, rfl⟩
  have hwk := works_any (w.alloc (.cells #[.bool false] 4)) (hv0.below hb0 hw0) (by omega)
  rw [hz0] at hwk
  have HN := Lib.hid hn
  have HS := Lib.hid hs
  have HV := Lib.hid hv0
  have HZ := Lib.hid hsz
  have HB0 := Lib.hid hb0
  have R0 := Lib.hid r0
  have HWK := Lib.hid hwk
  have hnf := func_nil
  have hmm := @run_makeMap Tryd.prog
  clear hn hs hv0 hsz hb0 r0 hwk
  refine (callsIn_wide (n := 20)).1 ?_
  refine callsIn_of_wp_marks Tryd.func7 rfl trivial ?_ rfl
  simp only [Tryd.ntmps7, List.size_toArray, List.length_cons, List.length_nil, Nat.reduceAdd, Nat.reduceSub, Array.replicate_succ, Array.replicate_zero, List.push_toArray, List.append_toArray, List.nil_append, List.cons_append]
  gi_wp2_with (first
    | (refine ⟨trivial, ?_⟩
       gi_at_call 31
       refine (callsIn_wide.2 (tame_any A cap n l HN.out HZ.out w1 w.heap.size HBW1.out.size (HS.out.below HBW1.out))).mono ?_
       rintro e w2 ⟨A', m, c', L, rfl, ht, hb2⟩
       have HT := Lib.hid ht
       have HB2 := Lib.hid hb2
       have hw12 := hb2.size
       clear ht hb2)
    | (refine ⟨trivial, ?_⟩
       gi_at_call 27
       refine (callsIn_wide.2 HWK.out).mono ?_
       rintro e w1 ⟨rfl, hb1⟩
       have hr1 := R0.out.keep (hb1.block _ (by omega))
       have HR1 := Lib.hid hr1
       have HBW1 := Lib.hid (HB0.out.trans (hb1.mono (by omega)))
       have hw01 := hr1.lt
       clear hb1 hr1))
  have hb3 : Below w2.heap.size w2 ((w2.alloc (.map #[] 0)).alloc (.cells #[.map (some w2.heap.size)] 52)) := ((Below.refl _ w2).alloc (Nat.le_refl _) _).alloc (by simp) _
  have hbx : RowAt ((w2.alloc (.map #[] 0)).alloc (.cells #[.map (some w2.heap.size)] 52)) (w2.heap.size + 1) 52 [.map (some w2.heap.size)] := ⟨_, by have := heap_alloc_new (w2.alloc (.map #[] 0)) (.cells #[.map (some w2.heap.size)] 52); simpa using this, rfl⟩
  have hsn : Seen ((w2.alloc (.map #[] 0)).alloc (.cells #[.map (some w2.heap.size)] 52)) w2.heap.size 0 (dat L) := (seen_made w2 (dat L)).block (Below.heap_alloc _ _ _ (by simp))
  have HB3 := Lib.hid hb3
  have HBX := Lib.hid hbx
  have HSN := Lib.hid hsn
  clear hb3 hbx hsn
  gi_loopw [5] (fun iv wr => ∃ k : Nat, k ≤ m ∧ iv = .int .i64 k ∧ RowAt wr (w2.heap.size + 1) 52 [.map (some w2.heap.size)] ∧ Seen wr w2.heap.size k (dat L) ∧ Below w2.heap.size w2 wr) (fun iv _ => m - (intOf iv).toNat)
  case atStart => exact ⟨0, by omega, rfl, HBX.out, HSN.out, HB3.out⟩
  case round =>
    obtain ⟨k, hk, rfl, hbx, hsn, hb⟩ := hrel
    have hbw : Below w.heap.size w wr := (HBW1.out.trans ((HB2.out.trans (hb.mono hw12)).mono HBW1.out.size))
    have HBX := Lib.hid hbx
    have HSN := Lib.hid hsn
    have HB := Lib.hid hb
    have HBW := Lib.hid hbw
    have hwz := hb.size
    clear hbx hsn hb hbw HB3
    by_cases hkm : k < m
    · have hki : (k : Int) < (m : Int) := by omega
      have hIs := is_tree HT.out.ok
      have hm6 := HT.out.few
      have hkD : k < (dat L).length := by rw [dat_len, ← HT.out.len]; exact hkm
      have hnd : Nodes wr w2.heap.size A' L := HT.out.nodes.below HB.out
      have IS := Lib.hid hIs
      have hbD : ∀ W, Below w2.heap.size w2 W → Below w.heap.size w W := fun W h => HBW1.out.trans ((HB2.out.trans (h.mono hw12)).mono HBW1.out.size)
      have hndW : ∀ W, Below w2.heap.size w2 W → w2.heap.size ≤ W.heap.size ∧ Nodes W w2.heap.size A' L := fun W h => ⟨h.size, HT.out.nodes.below h⟩
      have hp : ∀ W, Below w2.heap.size w2 W → Calls Tryd.prog 16 #[.slice A' m c', .int .i64 (k : Int)] W fun e w' => e = .returned (.tuple #[.string (pathB (dat L) k), .int .i64 0]) ∧ Below W.heap.size W w' := fun W h => by
        have := ppath_any A' c' m L HT.out.len HT.out.sized (k : Int) W w2.heap.size (hndW W h).1 (hndW W h).2
        rw [hIs.path hkD, hIs.wrong hkD] at this
        exact this
      have hf : ∀ W, Below w2.heap.size w2 W → Calls Tryd.prog 9 #[.slice A' m c', .string (pathB (dat L) k)] W fun e w' => e = .returned (.tuple #[.int .i64 (k : Int), .int .i64 0]) ∧ Below W.heap.size W w' := fun W h => by
        have := pfind_any A' c' m L HT.out.len HT.out.sized (pathB (dat L) k) (by have := hIs.size k hkD; omega) W (HV.out.below (hbD W h) hw0) (Nat.lt_of_lt_of_le hw0 (hbD W h).size) w2.heap.size (hndW W h).1 (hndW W h).2
        rw [hIs.find hkD] at this
        exact this
      have hde : ∀ W, Below w2.heap.size w2 W → Calls Tryd.prog 18 #[.slice A' m c', .int .i64 (k : Int)] W fun e w' => e = .returned (.tuple #[.int .i64 (depthI (dat L) k), .int .i64 0]) ∧ Below W.heap.size W w' := fun W h => by
        have := pdepth_any A' c' m L HT.out.len HT.out.sized (k : Int) W w2.heap.size (hndW W h).1 (hndW W h).2
        rw [hIs.wrong hkD] at this
        exact this
      have hen : ∀ W, Below w2.heap.size w2 W → Calls Tryd.prog 22 #[.slice A' m c', .int .i64 (k : Int)] W fun e w' => e = .returned (.tuple #[.int .i64 (endN (dat L) k : Nat), .int .i64 0]) ∧ Below W.heap.size W w' := fun W h => by
        have := pend_any A' c' m L HT.out.len HT.out.sized (k : Int) W w2.heap.size (hndW W h).1 (hndW W h).2
        rw [hIs.wrong hkD] at this
        unfold endI at this
        rw [if_pos (hIs.wrong hkD), Int.toNat_natCast] at this
        exact this
      have hki2 : ∀ W, Below w2.heap.size w2 W → Calls Tryd.prog 20 #[.slice A' m c', .int .i64 (k : Int)] W fun e w' => ∃ (A9 : Option Addr) (c9 : Nat), e = .returned (.tuple #[.slice A9 (kidsN (dat L) k).length c9, .int .i64 0]) ∧ w'.ownsRow W.heap.size 3 1 (.slice A9 (kidsN (dat L) k).length c9) (kidsN (dat L) k).length (natsV (kidsN (dat L) k)) ∧ Below W.heap.size W w' := fun W h => by
        have := pkids_any A' c' m L HT.out.len HT.out.sized (k : Int) W w2.heap.size (hndW W h).1 (hndW W h).2
        have hkv : kidsV (dat L) (k : Int) = kidsN (dat L) k := by unfold kidsV; rw [if_pos (hIs.wrong hkD), Int.toNat_natCast]
        rw [hIs.wrong hkD, hkv] at this
        refine Calls.mono this ?_
        rintro e w' ⟨⟨A9, q, c9, he, hq, ho⟩, hb⟩
        subst hq
        exact ⟨A9, c9, he, ho, hb⟩
      obtain ⟨kl, hkey⟩ := keyS (pathB (dat L) k) (by have := hIs.size k hkD; unfold maxLen; omega)
      have hap : ∀ j, j < k → pathB (dat L) k ≠ pathB (dat L) j := fun j hj he => by
        have := hIs.apart hkD (by omega) he
        omega
      obtain ⟨Dm, hown, him, hs1, hs2⟩ := HSN.out
      have hhas : Maps.has Dm kl = false := hs2 _ _ hkey hap
      obtain ⟨s, hs⟩ : ∃ s, s = pathB (dat L) k := ⟨_, rfl⟩
      rw [← hs] at hp hf hkey
      have ekk : ((k : Int) != (k : Int)) = false := bne_self_eq_false _
      have HP := Lib.hid hp
      have HF := Lib.hid hf
      have HDE := Lib.hid hde
      have HEN := Lib.hid hen
      have HKI := Lib.hid hki2
      have HSS := Lib.hid hs
      have HOW := Lib.hid hown
      have HIM := Lib.hid him
      have HS1 := Lib.hid hs1
      have HS2 := Lib.hid hs2
      have HAP := Lib.hid hap
      have HBD := Lib.hid hbD
      have HND := Lib.hid hndW
      have hmb : w2.heap.size < wr.heap.size := HOW.out.lt
      clear hp hf hde hen hki2 hs hown him hs1 hs2 hap hbD hndW hnd
      have hcl : ∃ b off, A' = some ⟨b, off, none⟩ ∧ ∀ (j : Nat) (hj : j < L.length) (W : World), Below w2.heap.size w2 W → W.cell? ⟨b, off + j * 3, none⟩ = some (.int .i64 (parAt (dat L) j)) ∧ W.cell? ⟨b, off + j * 3 + 1, none⟩ = some (.string L[j].d.n) := by
        obtain ⟨b, off, eA, _⟩ := HT.out.nodes.at_ (k := k) (by rw [← HT.out.len]; exact hkm)
        refine ⟨b, off, eA, fun j hj W hW => ?_⟩
        obtain ⟨b2, off2, eA2, hb2, x0, x1, _⟩ := HT.out.nodes.at_ hj
        rw [eA] at eA2
        injection eA2 with eA2
        injection eA2 with e1 e2
        subst e1 e2
        have hpar : parAt (dat L) (j : Nat) = L[j].d.p := by
          unfold parAt
          rw [Int.toNat_natCast, List.getElem?_eq_getElem (by rw [dat_len]; exact hj)]
          simp only [dat_get L hj]
        rw [hpar]
        exact ⟨(hW.cell (p := ⟨b, off + j * 3, none⟩) hb2).trans x0, (hW.cell (p := ⟨b, off + j * 3 + 1, none⟩) hb2).trans x1⟩
      obtain ⟨b, off, eA, hcl⟩ := hcl
      have HCL := Lib.hid hcl
      have HLn := Lib.hid HT.out.len
      have HTn := HT
      have hml : L.length = m := HT.out.len.symm
      have hgen := fun (j : Nat) (hj : j < m) => (show wrongF (dat L) (j : Nat) = 0 from hIs.wrong (by rw [dat_len, hml]; exact hj))
      have hdeA : ∀ (j : Nat), j < m → ∀ W, Below w2.heap.size w2 W → Calls Tryd.prog 18 #[.slice A' m c', .int .i64 (j : Int)] W fun e w' => e = .returned (.tuple #[.int .i64 (depthI (dat L) j), .int .i64 0]) ∧ Below W.heap.size W w' := fun j hj W h => by
        have := pdepth_any A' c' m L HT.out.len HT.out.sized (j : Int) W w2.heap.size (HND.out W h).1 (HND.out W h).2
        rw [hgen j hj] at this
        exact this
      have hpA : ∀ (j : Nat), j < m → ∀ W, Below w2.heap.size w2 W → Calls Tryd.prog 16 #[.slice A' m c', .int .i64 (j : Int)] W fun e w' => e = .returned (.tuple #[.string (pathB (dat L) j), .int .i64 0]) ∧ Below W.heap.size W w' := fun j hj W h => by
        have := ppath_any A' c' m L HT.out.len HT.out.sized (j : Int) W w2.heap.size (HND.out W h).1 (HND.out W h).2
        rw [hIs.path (by rw [dat_len, hml]; exact hj), hgen j hj] at this
        exact this
      have henA : ∀ (j : Nat), j < m → ∀ W, Below w2.heap.size w2 W → Calls Tryd.prog 22 #[.slice A' m c', .int .i64 (j : Int)] W fun e w' => e = .returned (.tuple #[.int .i64 (endN (dat L) j : Nat), .int .i64 0]) ∧ Below W.heap.size W w' := fun j hj W h => by
        have := pend_any A' c' m L HT.out.len HT.out.sized (j : Int) W w2.heap.size (HND.out W h).1 (HND.out W h).2
        rw [hgen j hj] at this
        unfold endI at this
        rw [if_pos (hgen j hj), Int.toNat_natCast] at this
        exact this
      have HDA := Lib.hid hdeA
      have HPA := Lib.hid hpA
      have HEA := Lib.hid henA
      have hch := hIs.chain hkD
      have HCH := Lib.hid hch
      have hql : (kidsN (dat L) k).length ≤ L.length := kidsN_le
      rw [hml] at hql
      subst eA
      clear hcl hdeA hpA henA hch hml hgen
      rcases Nat.eq_zero_or_pos k with hk0 | hk0
      · have hk0i : ¬ (0 : Int) < (k : Int) := by omega
        clear hk0
        gi_wp2_with (first
          | (gi_at_lookup
             refine wpListIn_lookup_own_ok_int _ rfl (.tmp 72) (.tmp 73) 52 rfl 9 3 .i64 strK Tryd.underlying52 Tryd.underlying3 (Tryd.zeroValue3 _) w2.heap.size k Dm rfl HOW7.out _ kl rfl hkey ?_
             intro cc hat hwc
             clear hat hwc)
          | (gi_at_mapUpdate
             refine wpListIn_mapUpdate_own _ rfl (.tmp 103) (.tmp 104) (.tmp 105) 52 rfl 9 3 strK Tryd.underlying52 (plainElem Tryd.prog 3) w2.heap.size k Dm rfl HOW7.out (by unfold maxLen; omega) _ (.int .i64 (k : Int)) kl rfl rfl hkey (.lit (.int .i64 (k : Int))) [] (by exact plainElem_int Tryd.underlying3 (WalkArith.wf_i64 (by omega))) ?_
             intro w8 ho8 hg8
             have hb8 : Below w2.heap.size w2 w8 := HB7.out.grown hg8 HB7.out.size (fun g e => by injection e with e; omega)
             have hx8 : RowAt w8 (w2.heap.size + 1) 52 [.map (some w2.heap.size)] := by exact (HBX.out.keep (HBR.out.block _ HBX.out.lt)).keep (hg8.block _ (by have := HBX.out.lt; have := HBR.out.size; omega) (by intro e; injection e with e; omega))
             have hs8 : Seen w8 w2.heap.size (k + 1) (dat L) := by exact seen_put HIM.out HS1.out HS2.out (by rw [← HSS.out]; exact hkey) (fun j hj e => HAP.out j hj e.symm) ho8
             have ho98 := own_keep (w' := w8) HO9.out fun g hg _ => by exact hg8.block g ((HO9.out.lt g hg).2) (by intro e; injection e with e; have := (HO9.out.lt g hg).1; have := HBR6.out.size; omega)
             have HB8 := Lib.hid hb8
             have HX8 := Lib.hid hx8
             have HS8 := Lib.hid hs8
             have HO98 := Lib.hid ho98
             have hw8 := hb8.size
             clear hb8 hx8 hs8 ho98 ho8 hg8)
          | (refine ⟨trivial, ?_⟩
             gi_at_call 20
             refine (callsIn_wide.2 (HKI.out w6 HB6.out)).mono ?_
             rintro e w7 ⟨A9, c9, rfl, ho9, hb7⟩
             have HB7 := Lib.hid (HB6.out.trans (hb7.mono HB6.out.size))
             have HBR := Lib.hid (below_next HBR6.out hb7)
             have HO9 := Lib.hid ho9
             have hb67 := hb7.size
             have HOW7 := Lib.hid (show w7.ownsMap Tryd.prog 9 (plainElem Tryd.prog 3) w2.heap.size k Dm from by
               obtain ⟨es, clock, hb, F, hs, hD⟩ := HOW.out
               exact ⟨es, clock, (HBR.out.block _ hmb).trans hb, F, hs, hD⟩)
             have hbx7 := (HBX.out.keep (HBR.out.block _ HBX.out.lt)).cell (k := 0) (by simp)
             simp only [List.getElem?_cons_zero] at hbx7
             clear hb7 ho9 HKI)
          | (refine ⟨trivial, ?_⟩
             gi_at_call 22
             refine (callsIn_wide.2 (HEN.out w5 HB5.out)).mono ?_
             rintro e w6 ⟨rfl, hb6⟩
             have HB6 := Lib.hid (HB5.out.trans (hb6.mono HB5.out.size))
             have HBR6 := Lib.hid (below_next HBR5.out hb6)
             clear hb6 HEN)
          | (refine ⟨trivial, ?_⟩
             gi_at_call 18
             refine (callsIn_wide.2 (HDE.out w4 HB4.out)).mono ?_
             rintro e w5 ⟨rfl, hb5⟩
             have HB5 := Lib.hid (HB4.out.trans (hb5.mono HB4.out.size))
             have HBR5 := Lib.hid (below_next HBR4.out hb5)
             clear hb5 HDE)
          | (refine ⟨trivial, ?_⟩
             gi_at_call 9
             refine (callsIn_wide.2 (HF.out w3 HB3.out)).mono ?_
             rintro e w4 ⟨rfl, hb4⟩
             have HB4 := Lib.hid (HB3.out.trans (hb4.mono HB3.out.size))
             have HBR4 := Lib.hid (below_next HBR3.out hb4)
             clear hb4 HF)
          | (refine ⟨trivial, ?_⟩
             gi_at_call 16
             refine (callsIn_wide.2 (HP.out wr HB.out)).mono ?_
             rintro e w3 ⟨rfl, hb3⟩
             have HB3 := Lib.hid (HB.out.trans (hb3.mono HB.out.size))
             have HBR3 := Lib.hid hb3
             clear hb3 HP))
        try simp only [show decide (0 < k) = false from by first | (rw [decide_eq_true_iff]; omega) | (rw [decide_eq_false_iff_not]; omega)]
        gi_loopw [22, 23] (fun zv jv wx => ∃ (j z : Nat), j ≤ (kidsN (dat L) k).length ∧ jv = .int .i64 j ∧ zv = .int .i64 z ∧ Chain (dat L) k z ((kidsN (dat L) k).drop j) (endN (dat L) k) ∧ Below w8.heap.size w8 wx) (fun _ jv _ => (kidsN (dat L) k).length - (intOf jv).toNat)
        case atStart => exact ⟨0, k + 1, by omega, rfl, by first | rfl | go_num, HCH.out, Below.refl _ _⟩
        case round =>
          obtain ⟨j, z, hj, rfl, rfl, hch, hb9⟩ := hrel
          have HC9 := Lib.hid hch
          have HB9 := Lib.hid hb9
          have hb29 : Below w2.heap.size w2 wr := HB8.out.trans (hb9.mono hw8)
          have HB29 := Lib.hid hb29
          by_cases hjq : j < (kidsN (dat L) k).length
          · have hji : (j : Int) < ((kidsN (dat L) k).length : Int) := by omega
            have hdr : (kidsN (dat L) k).drop j = (kidsN (dat L) k)[j] :: (kidsN (dat L) k).drop (j + 1) := List.drop_eq_getElem_cons hjq
            rw [hdr] at hch
            obtain ⟨hz1, hz2, hz3, hz4⟩ : z < (dat L).length ∧ parAt (dat L) z = (k : Int) ∧ Chain (dat L) k (endN (dat L) z) ((kidsN (dat L) k).drop (j + 1)) (endN (dat L) k) ∧ (kidsN (dat L) k)[j] = z := by
              generalize (kidsN (dat L) k)[j] = y at hch
              cases hch with
              | cons a b c => exact ⟨a, b, c, rfl⟩
            have hzm : z < m := by rw [HLn.out, ← dat_len]; exact hz1
            have hzi : (z : Int) < (m : Int) := by omega
            have hzge : ¬ (m : Int) ≤ (z : Int) := by omega
            obtain ⟨g9, eA9, _, hg9⟩ := own_head HO98.out (by omega)
            have hc9 := HO98.out.cells (g := g9) (by rw [eA9]; rfl) j (.int .i64 z) (by unfold natsV; rw [List.getElem?_map, List.getElem?_eq_getElem hjq, hz4]; rfl)
            rw [addr_add, Nat.zero_add] at hc9
            have y9 := (hb9.cell (p := ⟨g9, j, none⟩) hg9).trans hc9
            have hx := (HCL.out z (by rw [← HLn.out]; exact hzm) wr hb29).1
            rw [hz2] at hx
            have hcall := HEA.out z hzm wr hb29
            have HCALL := Lib.hid hcall
            have HZ3 := Lib.hid hz3
            have ezz : ((z : Int) != (z : Int)) = false := bne_self_eq_false _
            subst eA9
            clear hch hb9 hb29 hdr hz1 hz2 hz3 hz4 hc9 hcall
            gi_wp2_with (refine ⟨trivial, ?_⟩
                         gi_at_call 22
                         refine (callsIn_wide.2 HCALL.out).mono ?_
                         rintro e w10 ⟨rfl, hb10⟩
                         have hx10 := (hb10.cell (p := ⟨b, off + z * 3, none⟩) (World.block_lt_of_cell? _ _ hx)).trans hx
                         have y10 := (hb10.cell (p := ⟨g9, j, none⟩) (World.block_lt_of_cell? _ _ y9)).trans y9
                         have HB10 := Lib.hid (below_next HB9.out hb10)
                         clear hb10)
            go_roundw
            case rel => exact ⟨j + 1, endN (dat L) z, by omega, by go_num, rfl, HZ3.out, HB10.out⟩
            case measure => simp [intOf]; omega
          · have hjq2 : j = (kidsN (dat L) k).length := by omega
            have hze : z = endN (dat L) k := by
              rw [hjq2, List.drop_length] at hch
              cases hch
              rfl
            have hji : ¬ (j : Int) < ((kidsN (dat L) k).length : Int) := by omega
            have ezz : ((z : Int) != ((endN (dat L) k : Nat) : Int)) = false := by rw [hze]; exact bne_self_eq_false _
            have hsn : Seen wr w2.heap.size (k + 1) (dat L) := HS8.out.block (HB9.out.block _ HS8.out.lt)
            have hbx := HX8.out.keep (HB9.out.block _ HX8.out.lt)
            have HSN9 := Lib.hid hsn
            have HBX9 := Lib.hid hbx
            clear hch hb9 hb29 hze hsn hbx
            gi_wp2
            go_roundw
            case rel => exact ⟨k + 1, by omega, by go_num, HBX9.out, HSN9.out, HB29.out⟩
            case measure => simp [intOf]; omega
      · have hk0i : (0 : Int) < (k : Int) := by omega
        obtain ⟨p, hp, hpk⟩ := hIs.par hk0 hkD
        have hpm : p < m := by omega
        have hpD : p < (dat L).length := by omega
        have hdp : depthI (dat L) (k : Int) = depthI (dat L) (p : Int) + 1 := hIs.depth hkD hp hpk
        have hdb : 0 ≤ depthI (dat L) (p : Int) ∧ depthI (dat L) (p : Int) ≤ 100000 := by
          unfold depthI
          rw [if_pos (hIs.wrong hpD)]
          have := above_len hIs.fine (Nat.le_refl _) p hpD
          omega
        have hde2 := HDE.out
        have hda2 := HDA.out p hpm
        have hpa2 := HPA.out p hpm
        simp only [hdp] at hde2
        generalize depthI (dat L) (p : Int) = dp at hde2 hda2 hdb hdp
        have hkL : k < L.length := by rw [← HLn.out]; exact hkm
        have hdne : ((dp + 1 : Int) != dp + 1) = false := bne_self_eq_false _
        have hnm : nameAt (dat L) k = (L[k].d.n).data.toList := by
          unfold nameAt
          rw [List.getElem?_eq_getElem (by rw [dat_len]; exact hkL), dat_get L hkL]
        have hnsz : (L[k].d.n).size ≤ 31 := by
          have := fine_name hIs.fine hkD
          rw [hnm, Array.length_toList] at this
          exact this
        have hpsz : (pathB (dat L) p).size ≤ 32 * p + 1 := hIs.size p hpD
        have hssz : (pathB (dat L) k).size ≤ 32 * k + 1 := hIs.size k hkD
        have HDE2 := Lib.hid hde2
        have HDA2 := Lib.hid hda2
        have HPA2 := Lib.hid hpa2
        have HPP := Lib.hid hp
        clear hde2 hda2 hpa2 HDE hdp
        rcases Nat.eq_zero_or_pos p with hp0 | hp0
        · have hpr : pathB (dat L) p = ⟨#[47]⟩ := by rw [hp0]; exact pathB_root _
          have hpa3 := HPA2.out
          rw [hpr] at hpa3
          have HPA3 := Lib.hid hpa3
          have hroot := hIs.path_root hk0 hkD (by rw [hp, hp0]; rfl)
          rw [hnm, ← HSS.out] at hroot
          obtain rfl : s = ({ data := #[47] } : ByteArray) ++ L[k].d.n := bytes_eq (by rw [hroot, ByteArray.data_append]; simp)
          clear hpa3 HPA2 hp hp0 hpr hroot
          clear hk0
          gi_wp2_with (first
            | (gi_at_lookup
               refine wpListIn_lookup_own_ok_int _ rfl (.tmp 72) (.tmp 73) 52 rfl 9 3 .i64 strK Tryd.underlying52 Tryd.underlying3 (Tryd.zeroValue3 _) w2.heap.size k Dm rfl HOW7.out _ kl rfl hkey ?_
               intro cc hat hwc
               clear hat hwc)
            | (gi_at_mapUpdate
               refine wpListIn_mapUpdate_own _ rfl (.tmp 103) (.tmp 104) (.tmp 105) 52 rfl 9 3 strK Tryd.underlying52 (plainElem Tryd.prog 3) w2.heap.size k Dm rfl HOW7.out (by unfold maxLen; omega) _ (.int .i64 (k : Int)) kl rfl rfl hkey (.lit (.int .i64 (k : Int))) [] (by exact plainElem_int Tryd.underlying3 (WalkArith.wf_i64 (by omega))) ?_
               intro w8 ho8 hg8
               have hb8 : Below w2.heap.size w2 w8 := HB7.out.grown hg8 HB7.out.size (fun g e => by injection e with e; omega)
               have hx8 : RowAt w8 (w2.heap.size + 1) 52 [.map (some w2.heap.size)] := by exact (HBX.out.keep (HBR.out.block _ HBX.out.lt)).keep (hg8.block _ (by have := HBX.out.lt; have := HBR.out.size; omega) (by intro e; injection e with e; omega))
               have hs8 : Seen w8 w2.heap.size (k + 1) (dat L) := by exact seen_put HIM.out HS1.out HS2.out (by rw [← HSS.out]; exact hkey) (fun j hj e => HAP.out j hj e.symm) ho8
               have ho98 := own_keep (w' := w8) HO9.out fun g hg _ => by exact hg8.block g ((HO9.out.lt g hg).2) (by intro e; injection e with e; have := (HO9.out.lt g hg).1; have := HBR6.out.size; omega)
               have HB8 := Lib.hid hb8
               have HX8 := Lib.hid hx8
               have HS8 := Lib.hid hs8
               have HO98 := Lib.hid ho98
               have hw8 := hb8.size
               have hx81 := (HCL.out k hkL w8 HB8.out).1
               rw [HPP.out] at hx81
               clear hb8 hx8 hs8 ho98 ho8 hg8)
            | (refine ⟨trivial, ?_⟩
               gi_at_call 18
               refine (callsIn_wide.2 (HDA2.out w8 HB8.out)).mono ?_
               rintro e w10 ⟨rfl, hb10⟩
               have HB10 := Lib.hid (HB8.out.trans (hb10.mono HB8.out.size))
               have HBR10 := Lib.hid hb10
               have hx10 := (HCL.out k hkL w10 HB10.out).1
               rw [HPP.out] at hx10
               clear hb10 HDA2)
            | (refine ⟨trivial, ?_⟩
               gi_at_call 16
               refine (callsIn_wide.2 (HPA3.out w10 HB10.out)).mono ?_
               rintro e w11 ⟨rfl, hb11⟩
               have HB11 := Lib.hid (HB10.out.trans (hb11.mono HB10.out.size))
               have HBR11 := Lib.hid (below_next HBR10.out hb11)
               have hx11 := (HCL.out k hkL w11 HB11.out).2
               clear hb11 HPA3)
            | (refine ⟨trivial, ?_⟩
               gi_at_call 20
               refine (callsIn_wide.2 (HKI.out w6 HB6.out)).mono ?_
               rintro e w7 ⟨A9, c9, rfl, ho9, hb7⟩
               have HB7 := Lib.hid (HB6.out.trans (hb7.mono HB6.out.size))
               have HBR := Lib.hid (below_next HBR6.out hb7)
               have HO9 := Lib.hid ho9
               have hb67 := hb7.size
               have HOW7 := Lib.hid (show w7.ownsMap Tryd.prog 9 (plainElem Tryd.prog 3) w2.heap.size k Dm from by
                 obtain ⟨es, clock, hb, F, hs, hD⟩ := HOW.out
                 exact ⟨es, clock, (HBR.out.block _ hmb).trans hb, F, hs, hD⟩)
               have hbx7 := (HBX.out.keep (HBR.out.block _ HBX.out.lt)).cell (k := 0) (by simp)
               simp only [List.getElem?_cons_zero] at hbx7
               clear hb7 ho9 HKI)
            | (refine ⟨trivial, ?_⟩
               gi_at_call 22
               refine (callsIn_wide.2 (HEN.out w5 HB5.out)).mono ?_
               rintro e w6 ⟨rfl, hb6⟩
               have HB6 := Lib.hid (HB5.out.trans (hb6.mono HB5.out.size))
               have HBR6 := Lib.hid (below_next HBR5.out hb6)
               clear hb6 HEN)
            | (refine ⟨trivial, ?_⟩
               gi_at_call 18
               refine (callsIn_wide.2 (HDE2.out w4 HB4.out)).mono ?_
               rintro e w5 ⟨rfl, hb5⟩
               have HB5 := Lib.hid (HB4.out.trans (hb5.mono HB4.out.size))
               have HBR5 := Lib.hid (below_next HBR4.out hb5)
               clear hb5 HDE2)
            | (refine ⟨trivial, ?_⟩
               gi_at_call 9
               refine (callsIn_wide.2 (HF.out w3 HB3.out)).mono ?_
               rintro e w4 ⟨rfl, hb4⟩
               have HB4 := Lib.hid (HB3.out.trans (hb4.mono HB3.out.size))
               have HBR4 := Lib.hid (below_next HBR3.out hb4)
               clear hb4 HF)
            | (refine ⟨trivial, ?_⟩
               gi_at_call 16
               refine (callsIn_wide.2 (HP.out wr HB.out)).mono ?_
               rintro e w3 ⟨rfl, hb3⟩
               have HB3 := Lib.hid (HB.out.trans (hb3.mono HB.out.size))
               have HBR3 := Lib.hid hb3
               clear hb3 HP))

          try simp only [show decide (0 < k) = true from by first | (rw [decide_eq_true_iff]; omega) | (rw [decide_eq_false_iff_not]; omega)]
          gi_loopw [22, 23] (fun zv jv wx => ∃ (j z : Nat), j ≤ (kidsN (dat L) k).length ∧ jv = .int .i64 j ∧ zv = .int .i64 z ∧ Chain (dat L) k z ((kidsN (dat L) k).drop j) (endN (dat L) k) ∧ Below w8.heap.size w8 wx) (fun _ jv _ => (kidsN (dat L) k).length - (intOf jv).toNat)
          case atStart => exact ⟨0, k + 1, by omega, rfl, by first | rfl | go_num, HCH.out, HBR11.out⟩
          case round =>
            obtain ⟨j, z, hj, rfl, rfl, hch, hb9⟩ := hrel
            have HC9 := Lib.hid hch
            have HB9 := Lib.hid hb9
            have hb29 : Below w2.heap.size w2 wr := HB8.out.trans (hb9.mono hw8)
            have HB29 := Lib.hid hb29
            by_cases hjq : j < (kidsN (dat L) k).length
            · have hji : (j : Int) < ((kidsN (dat L) k).length : Int) := by omega
              have hdr : (kidsN (dat L) k).drop j = (kidsN (dat L) k)[j] :: (kidsN (dat L) k).drop (j + 1) := List.drop_eq_getElem_cons hjq
              rw [hdr] at hch
              obtain ⟨hz1, hz2, hz3, hz4⟩ : z < (dat L).length ∧ parAt (dat L) z = (k : Int) ∧ Chain (dat L) k (endN (dat L) z) ((kidsN (dat L) k).drop (j + 1)) (endN (dat L) k) ∧ (kidsN (dat L) k)[j] = z := by
                generalize (kidsN (dat L) k)[j] = y at hch
                cases hch with
                | cons a b c => exact ⟨a, b, c, rfl⟩
              have hzm : z < m := by rw [HLn.out, ← dat_len]; exact hz1
              have hzi : (z : Int) < (m : Int) := by omega
              have hzge : ¬ (m : Int) ≤ (z : Int) := by omega
              obtain ⟨g9, eA9, _, hg9⟩ := own_head HO98.out (by omega)
              have hc9 := HO98.out.cells (g := g9) (by rw [eA9]; rfl) j (.int .i64 z) (by unfold natsV; rw [List.getElem?_map, List.getElem?_eq_getElem hjq, hz4]; rfl)
              rw [addr_add, Nat.zero_add] at hc9
              have y9 := (hb9.cell (p := ⟨g9, j, none⟩) hg9).trans hc9
              have hx := (HCL.out z (by rw [← HLn.out]; exact hzm) wr hb29).1
              rw [hz2] at hx
              have hcall := HEA.out z hzm wr hb29
              have HCALL := Lib.hid hcall
              have HZ3 := Lib.hid hz3
              have ezz : ((z : Int) != (z : Int)) = false := bne_self_eq_false _
              subst eA9
              clear hch hb9 hb29 hdr hz1 hz2 hz3 hz4 hc9 hcall
              gi_wp2_with (refine ⟨trivial, ?_⟩
                           gi_at_call 22
                           refine (callsIn_wide.2 HCALL.out).mono ?_
                           rintro e w10 ⟨rfl, hb10⟩
                           have hx10 := (hb10.cell (p := ⟨b, off + z * 3, none⟩) (World.block_lt_of_cell? _ _ hx)).trans hx
                           have y10 := (hb10.cell (p := ⟨g9, j, none⟩) (World.block_lt_of_cell? _ _ y9)).trans y9
                           have HB10 := Lib.hid (below_next HB9.out hb10)
                           clear hb10)
              go_roundw
              case rel => exact ⟨j + 1, endN (dat L) z, by omega, by go_num, rfl, HZ3.out, HB10.out⟩
              case measure => simp [intOf]; omega
            · have hjq2 : j = (kidsN (dat L) k).length := by omega
              have hze : z = endN (dat L) k := by
                rw [hjq2, List.drop_length] at hch
                cases hch
                rfl
              have hji : ¬ (j : Int) < ((kidsN (dat L) k).length : Int) := by omega
              have ezz : ((z : Int) != ((endN (dat L) k : Nat) : Int)) = false := by rw [hze]; exact bne_self_eq_false _
              have hsn : Seen wr w2.heap.size (k + 1) (dat L) := HS8.out.block (HB9.out.block _ HS8.out.lt)
              have hbx := HX8.out.keep (HB9.out.block _ HX8.out.lt)
              have HSN9 := Lib.hid hsn
              have HBX9 := Lib.hid hbx
              clear hch hb9 hb29 hze hsn hbx
              gi_wp2
              go_roundw
              case rel => exact ⟨k + 1, by omega, by go_num, HBX9.out, HSN9.out, HB29.out⟩
              case measure => simp [intOf]; omega

        · have hdeep := hIs.path_deep hk0 hkD hp hp0
          have hnot := hIs.path_not hp0 hpD
          rw [hnm, ← HSS.out] at hdeep
          obtain ⟨t, ht⟩ : ∃ t, t = pathB (dat L) p := ⟨_, rfl⟩
          have hpa3 := HPA2.out
          rw [← ht] at hpa3 hdeep hnot hpsz
          have HPA3 := Lib.hid hpa3
          have htn : ¬ t.toList = [47] := fun h => hnot (bytes_eq (by rw [← ByteArray.toList_eq, h]))
          have htb : (t.toList == [47]) = false := by rw [beq_eq_false_iff_ne]; exact htn
          have hz1 : ¬ 9223372036854775807 < t.size + 1 := by omega
          have hz2 : ¬ 9223372036854775807 < t.size + 1 + L[k].d.n.size := by omega
          obtain rfl : s = t ++ ({ data := #[47] } : ByteArray) ++ L[k].d.n := bytes_eq (by rw [hdeep, ByteArray.data_append, ByteArray.data_append]; simp)
          clear hpa3 HPA2 hp hp0 hdeep hnot ht
          clear hk0
          gi_wp2_with (first
            | (gi_at_lookup
               refine wpListIn_lookup_own_ok_int _ rfl (.tmp 72) (.tmp 73) 52 rfl 9 3 .i64 strK Tryd.underlying52 Tryd.underlying3 (Tryd.zeroValue3 _) w2.heap.size k Dm rfl HOW7.out _ kl rfl hkey ?_
               intro cc hat hwc
               clear hat hwc)
            | (gi_at_mapUpdate
               refine wpListIn_mapUpdate_own _ rfl (.tmp 103) (.tmp 104) (.tmp 105) 52 rfl 9 3 strK Tryd.underlying52 (plainElem Tryd.prog 3) w2.heap.size k Dm rfl HOW7.out (by unfold maxLen; omega) _ (.int .i64 (k : Int)) kl rfl rfl hkey (.lit (.int .i64 (k : Int))) [] (by exact plainElem_int Tryd.underlying3 (WalkArith.wf_i64 (by omega))) ?_
               intro w8 ho8 hg8
               have hb8 : Below w2.heap.size w2 w8 := HB7.out.grown hg8 HB7.out.size (fun g e => by injection e with e; omega)
               have hx8 : RowAt w8 (w2.heap.size + 1) 52 [.map (some w2.heap.size)] := by exact (HBX.out.keep (HBR.out.block _ HBX.out.lt)).keep (hg8.block _ (by have := HBX.out.lt; have := HBR.out.size; omega) (by intro e; injection e with e; omega))
               have hs8 : Seen w8 w2.heap.size (k + 1) (dat L) := by exact seen_put HIM.out HS1.out HS2.out (by rw [← HSS.out]; exact hkey) (fun j hj e => HAP.out j hj e.symm) ho8
               have ho98 := own_keep (w' := w8) HO9.out fun g hg _ => by exact hg8.block g ((HO9.out.lt g hg).2) (by intro e; injection e with e; have := (HO9.out.lt g hg).1; have := HBR6.out.size; omega)
               have HB8 := Lib.hid hb8
               have HX8 := Lib.hid hx8
               have HS8 := Lib.hid hs8
               have HO98 := Lib.hid ho98
               have hw8 := hb8.size
               have hx81 := (HCL.out k hkL w8 HB8.out).1
               rw [HPP.out] at hx81
               clear hb8 hx8 hs8 ho98 ho8 hg8)
            | (refine ⟨trivial, ?_⟩
               gi_at_call 18
               refine (callsIn_wide.2 (HDA2.out w8 HB8.out)).mono ?_
               rintro e w10 ⟨rfl, hb10⟩
               have HB10 := Lib.hid (HB8.out.trans (hb10.mono HB8.out.size))
               have HBR10 := Lib.hid hb10
               have hx10 := (HCL.out k hkL w10 HB10.out).1
               rw [HPP.out] at hx10
               clear hb10 HDA2)
            | (refine ⟨trivial, ?_⟩
               gi_at_call 16
               refine (callsIn_wide.2 (HPA3.out w10 HB10.out)).mono ?_
               rintro e w11 ⟨rfl, hb11⟩
               have HB11 := Lib.hid (HB10.out.trans (hb11.mono HB10.out.size))
               have HBR11 := Lib.hid (below_next HBR10.out hb11)
               have hx11 := (HCL.out k hkL w11 HB11.out).2
               clear hb11 HPA3)
            | (refine ⟨trivial, ?_⟩
               gi_at_call 20
               refine (callsIn_wide.2 (HKI.out w6 HB6.out)).mono ?_
               rintro e w7 ⟨A9, c9, rfl, ho9, hb7⟩
               have HB7 := Lib.hid (HB6.out.trans (hb7.mono HB6.out.size))
               have HBR := Lib.hid (below_next HBR6.out hb7)
               have HO9 := Lib.hid ho9
               have hb67 := hb7.size
               have HOW7 := Lib.hid (show w7.ownsMap Tryd.prog 9 (plainElem Tryd.prog 3) w2.heap.size k Dm from by
                 obtain ⟨es, clock, hb, F, hs, hD⟩ := HOW.out
                 exact ⟨es, clock, (HBR.out.block _ hmb).trans hb, F, hs, hD⟩)
               have hbx7 := (HBX.out.keep (HBR.out.block _ HBX.out.lt)).cell (k := 0) (by simp)
               simp only [List.getElem?_cons_zero] at hbx7
               clear hb7 ho9 HKI)
            | (refine ⟨trivial, ?_⟩
               gi_at_call 22
               refine (callsIn_wide.2 (HEN.out w5 HB5.out)).mono ?_
               rintro e w6 ⟨rfl, hb6⟩
               have HB6 := Lib.hid (HB5.out.trans (hb6.mono HB5.out.size))
               have HBR6 := Lib.hid (below_next HBR5.out hb6)
               clear hb6 HEN)
            | (refine ⟨trivial, ?_⟩
               gi_at_call 18
               refine (callsIn_wide.2 (HDE2.out w4 HB4.out)).mono ?_
               rintro e w5 ⟨rfl, hb5⟩
               have HB5 := Lib.hid (HB4.out.trans (hb5.mono HB4.out.size))
               have HBR5 := Lib.hid (below_next HBR4.out hb5)
               clear hb5 HDE2)
            | (refine ⟨trivial, ?_⟩
               gi_at_call 9
               refine (callsIn_wide.2 (HF.out w3 HB3.out)).mono ?_
               rintro e w4 ⟨rfl, hb4⟩
               have HB4 := Lib.hid (HB3.out.trans (hb4.mono HB3.out.size))
               have HBR4 := Lib.hid (below_next HBR3.out hb4)
               clear hb4 HF)
            | (refine ⟨trivial, ?_⟩
               gi_at_call 16
               refine (callsIn_wide.2 (HP.out wr HB.out)).mono ?_
               rintro e w3 ⟨rfl, hb3⟩
               have HB3 := Lib.hid (HB.out.trans (hb3.mono HB.out.size))
               have HBR3 := Lib.hid hb3
               clear hb3 HP))

          try simp only [show decide (0 < k) = true from by first | (rw [decide_eq_true_iff]; omega) | (rw [decide_eq_false_iff_not]; omega)]
          gi_loopw [22, 23] (fun zv jv wx => ∃ (j z : Nat), j ≤ (kidsN (dat L) k).length ∧ jv = .int .i64 j ∧ zv = .int .i64 z ∧ Chain (dat L) k z ((kidsN (dat L) k).drop j) (endN (dat L) k) ∧ Below w8.heap.size w8 wx) (fun _ jv _ => (kidsN (dat L) k).length - (intOf jv).toNat)
          case atStart => exact ⟨0, k + 1, by omega, rfl, by first | rfl | go_num, HCH.out, HBR11.out⟩
          case round =>
            obtain ⟨j, z, hj, rfl, rfl, hch, hb9⟩ := hrel
            have HC9 := Lib.hid hch
            have HB9 := Lib.hid hb9
            have hb29 : Below w2.heap.size w2 wr := HB8.out.trans (hb9.mono hw8)
            have HB29 := Lib.hid hb29
            by_cases hjq : j < (kidsN (dat L) k).length
            · have hji : (j : Int) < ((kidsN (dat L) k).length : Int) := by omega
              have hdr : (kidsN (dat L) k).drop j = (kidsN (dat L) k)[j] :: (kidsN (dat L) k).drop (j + 1) := List.drop_eq_getElem_cons hjq
              rw [hdr] at hch
              obtain ⟨hz1, hz2, hz3, hz4⟩ : z < (dat L).length ∧ parAt (dat L) z = (k : Int) ∧ Chain (dat L) k (endN (dat L) z) ((kidsN (dat L) k).drop (j + 1)) (endN (dat L) k) ∧ (kidsN (dat L) k)[j] = z := by
                generalize (kidsN (dat L) k)[j] = y at hch
                cases hch with
                | cons a b c => exact ⟨a, b, c, rfl⟩
              have hzm : z < m := by rw [HLn.out, ← dat_len]; exact hz1
              have hzi : (z : Int) < (m : Int) := by omega
              have hzge : ¬ (m : Int) ≤ (z : Int) := by omega
              obtain ⟨g9, eA9, _, hg9⟩ := own_head HO98.out (by omega)
              have hc9 := HO98.out.cells (g := g9) (by rw [eA9]; rfl) j (.int .i64 z) (by unfold natsV; rw [List.getElem?_map, List.getElem?_eq_getElem hjq, hz4]; rfl)
              rw [addr_add, Nat.zero_add] at hc9
              have y9 := (hb9.cell (p := ⟨g9, j, none⟩) hg9).trans hc9
              have hx := (HCL.out z (by rw [← HLn.out]; exact hzm) wr hb29).1
              rw [hz2] at hx
              have hcall := HEA.out z hzm wr hb29
              have HCALL := Lib.hid hcall
              have HZ3 := Lib.hid hz3
              have ezz : ((z : Int) != (z : Int)) = false := bne_self_eq_false _
              subst eA9
              clear hch hb9 hb29 hdr hz1 hz2 hz3 hz4 hc9 hcall
              gi_wp2_with (refine ⟨trivial, ?_⟩
                           gi_at_call 22
                           refine (callsIn_wide.2 HCALL.out).mono ?_
                           rintro e w10 ⟨rfl, hb10⟩
                           have hx10 := (hb10.cell (p := ⟨b, off + z * 3, none⟩) (World.block_lt_of_cell? _ _ hx)).trans hx
                           have y10 := (hb10.cell (p := ⟨g9, j, none⟩) (World.block_lt_of_cell? _ _ y9)).trans y9
                           have HB10 := Lib.hid (below_next HB9.out hb10)
                           clear hb10)
              go_roundw
              case rel => exact ⟨j + 1, endN (dat L) z, by omega, by go_num, rfl, HZ3.out, HB10.out⟩
              case measure => simp [intOf]; omega
            · have hjq2 : j = (kidsN (dat L) k).length := by omega
              have hze : z = endN (dat L) k := by
                rw [hjq2, List.drop_length] at hch
                cases hch
                rfl
              have hji : ¬ (j : Int) < ((kidsN (dat L) k).length : Int) := by omega
              have ezz : ((z : Int) != ((endN (dat L) k : Nat) : Int)) = false := by rw [hze]; exact bne_self_eq_false _
              have hsn : Seen wr w2.heap.size (k + 1) (dat L) := HS8.out.block (HB9.out.block _ HS8.out.lt)
              have hbx := HX8.out.keep (HB9.out.block _ HX8.out.lt)
              have HSN9 := Lib.hid hsn
              have HBX9 := Lib.hid hbx
              clear hch hb9 hb29 hze hsn hbx
              gi_wp2
              go_roundw
              case rel => exact ⟨k + 1, by omega, by go_num, HBX9.out, HSN9.out, HB29.out⟩
              case measure => simp [intOf]; omega

    · obtain rfl : k = m := by omega
      have hwk := walk_any A' c' k L HT.out.len HT.out.sized wr w2.heap.size HB.out.size (HT.out.nodes.below HB.out)
      have hwl : walkL (dat L) = pathsK (dat L) k := by
        unfold walkL
        rw [if_pos (by rw [HT.out.ok]), dat_len, ← HT.out.len]
      rw [hwl] at hwk
      have HWK2 := Lib.hid hwk
      clear hwk hwl
      gi_wp2_with (refine ⟨trivial, ?_⟩
                   gi_at_call 28
                   refine (callsIn_wide.2 HWK2.out).mono ?_
                   rintro e w3 ⟨A6, m6, c6, rfl, hp6, hb6⟩
                   have HP6 := Lib.hid hp6
                   have HB6 := Lib.hid hb6
                   have hw3 := hb6.size
                   clear hp6 hb6)
      have hk60 : k ≤ 60 := HT.out.few
      have hk63 : (k : Int) ≤ 60 := by omega
      obtain ⟨ps, hps⟩ : ∃ ps, ps = pathsK (dat L) k := ⟨_, rfl⟩
      have hpl : ps.length = k := by rw [hps, pathsK_len]
      have hpj : ∀ j, j < k → ps[j]?.getD ByteArray.empty = pathB (dat L) j := fun j hj => by
        rw [hps, List.getElem?_eq_getElem (by rw [pathsK_len]; exact hj)]
        simp [pathsK]
      have hpz : ∀ j, (ps[j]?.getD ByteArray.empty).size ≤ 2000 := fun j => by
        rcases Nat.lt_or_ge j k with h | h
        · rw [hpj j h]
          have := (is_tree HT.out.ok).size j (by rw [dat_len, ← HT.out.len]; exact h)
          omega
        · rw [List.getElem?_eq_none (by rw [hpl]; exact h)]
          decide
      have hp6 := HP6.out
      rw [← hps] at hp6
      have hba : Below w3.heap.size w3 (w3.alloc (.cells #[.int .i64 0] 3)) := (Below.refl _ w3).alloc (Nat.le_refl _) _
      have hpl6 : ∀ g, (Value.slice A6 m6 c6).ownBlock = some g → g < w3.heap.size := fun g hg => (hp6.row.lt g hg).2
      have hbl6 : wr.heap.size < w3.heap.size := hp6.box.lt
      have hpV : PathsAt (w3.alloc (.cells #[.int .i64 0] 3)) wr.heap.size (wr.heap.size + 1) A6 m6 c6 ps := ⟨hp6.len, hp6.box.keep (hba.block _ hbl6), hp6.row.alloc _⟩
      have hfence : Fence.wide.fn 62 := trivial
      have hszV : w3.heap.size ≤ (w3.alloc (.cells #[.int .i64 0] 3)).heap.size := by simp
      have hst := closN_stops Fence.wide (20 - 1) hfence rfl (by omega) wr.heap.size (wr.heap.size + 1) w3.heap.size A6 m6 c6 ps (by rw [hpl]; omega) (w3.alloc (.cells #[.int .i64 0] 3)) hszV hpV hpl6 hbl6
      have hrV : RowAt (w3.alloc (.cells #[.int .i64 0] 3)) w3.heap.size 3 [.int .i64 (([] : List Nat).length : Nat)] := ⟨_, heap_alloc_new _ _, rfl⟩
      have hbx3 := HBX.out.keep (HB6.out.block _ HBX.out.lt)
      have hsn3 := HSN.out.block (HB6.out.block _ HSN.out.lt)
      have hr2 := HR1.out.keep (HB2.out.block _ HR1.out.lt)
      have hrr := hr2.keep (HB.out.block _ hr2.lt)
      have hr03 := hrr.keep (HB6.out.block _ hrr.lt)
      have hbw3 : Below w.heap.size w w3 := HBW.out.trans (HB6.out.mono HBW.out.size)
      have hlt3 : w.heap.size < w3.heap.size := hr03.lt
      have HST := Lib.hid hst
      have HRV := Lib.hid hrV
      have HBA := Lib.hid hba
      have HBX3 := Lib.hid hbx3
      have HSN3 := Lib.hid hsn3
      have HR03 := Lib.hid hr03
      have HBW3 := Lib.hid hbw3
      have HPL := Lib.hid hpl
      have HPJ := Lib.hid hpj
      have HPZ := Lib.hid hpz
      clear hps hp6 hpl6 hbl6 hpV hst hrV hba hbx3 hsn3 hr2 hrr hr03 hbw3 hpl hpj hpz hk hkm HP6 HB6 HWK2 HBX HSN HB HBW HB2 HR1
      refine wpIn_rangeFunc_ownF rfl (by omega) (gf := 62) (lb := #[.pointer (some ⟨wr.heap.size, 0, none⟩)]) rfl hfence (enters_of Tryd.func62 (by kernel_rfl) rfl) HST.out belowK_t (belowK_b hszV) (Below.refl _ _) (fun _ => rfl)
        (fun pre W => RowAt W w3.heap.size 3 [.int .i64 (pre.length : Nat)] ∧ Below w3.heap.size w3 W)
        (fun c pre W => c = .ret ∧ ∀ j, j ≤ ps.length → ¬ pre = upto (fun j => j) j)
        (OwnFrom.and (row_own _ _ _ (fun pre : List Nat => [.int .i64 (pre.length : Nat)])) (ownFrom_below (Nat.le_refl _) hszV))
        (fun _ _ _ _ _ hs _ _ => hs)
        ⟨HRV.out, HBA.out⟩
        (fun x => { tmps := (((Value.slice A n cap) :: (undef) :: (Value.pointer (some { block := w.heap.size, off := 0 })) :: (Value.slice A' k c') :: (Value.pointer (some { block := w2.heap.size + 1, off := 0 })) :: (Value.int IntKind.i64 (k : Int)) :: (u6) :: (u7) :: (u8) :: (u9) :: (u10) :: (u11) :: (u12) :: (u13) :: (u14) :: (u15) :: (u16) :: (u17) :: (u18) :: (u19) :: (u20) :: (u21) :: (u22) :: (u23) :: (u24) :: (u25) :: (Value.func (Fn.func 62) #[] #[Value.pointer (some { block := wr.heap.size, off := 0 })]) :: (Value.pointer (some { block := w3.heap.size, off := 0 })) :: (Value.string (ps[x]?.getD ByteArray.empty)) :: (Value.int IntKind.i64 (x : Int)) :: (Value.bool true) :: (Value.bool false) :: (Value.slice A n cap) :: (Value.slice A' k c') :: (Value.map (some w2.heap.size)) :: (Value.int IntKind.i64 (k : Int)) :: (Value.slice A' k c') :: (Value.int IntKind.i64 (k : Int)) :: (Value.bool false) :: (u39) :: (u40) :: (u41) :: (u42) :: (u43) :: (u44) :: (u45) :: (u46) :: (u47) :: (u48) :: (u49) :: (u50) :: (u51) :: (u52) :: (u53) :: (u54) :: (u55) :: (u56) :: (u57) :: (u58) :: (u59) :: (u60) :: (u61) :: (u62) :: (u63) :: (u64) :: (u65) :: (u66) :: (u67) :: (u68) :: (u69) :: (u70) :: (u71) :: (u72) :: (u73) :: (u74) :: (u75) :: (u76) :: (u77) :: (u78) :: (u79) :: (u80) :: (u81) :: (u82) :: (u83) :: (u84) :: (u85) :: (u86) :: (u87) :: (u88) :: (u89) :: (u90) :: (u91) :: (u92) :: (u93) :: (u94) :: (u95) :: (u96) :: (u97) :: (u98) :: (u99) :: (u100) :: (u101) :: (u102) :: (u103) :: (u104) :: (u105) :: (u106) :: (u107) :: (u108) :: (u109) :: (u110) :: (u111) :: (u112) :: (u113) :: (u114) :: (u115) :: (u116) :: (u117) :: (u118) :: (u119) :: (u120) :: (u121) :: (u122) :: (u123) :: (u124) :: (u125) :: (u126) :: (u127) :: (u128) :: (u129) :: (u130) :: (u131) :: (u132) :: (u133) :: (u134) :: (u135) :: (u136) :: (u137) :: (u138) :: (u139) :: (u140) :: (u141) :: (u142) :: (u143) :: (u144) :: (u145) :: (u146) :: (u147) :: (u148) :: (u149) :: (u150) :: (u151) :: (u152) :: (u153) :: (u154) :: (u155) :: (u156) :: (u157) :: (u158) :: (u159) :: (u160) :: (u161) :: (u162) :: (u163) :: (u164) :: (u165) :: (u166) :: (u167) :: (u168) :: (u169) :: (u170) :: (u171) :: (u172) :: (u173) :: (u174) :: (u175) :: (u176) :: (u177) :: (u178) :: (u179) :: (u180) :: (u181) :: (u182) :: (u183) :: (u184) :: (u185) :: (u186) :: (u187) :: (u188) :: (u189) :: (u190) :: (u191) :: (u192) :: (u193) :: (u194) :: (u195) :: (u196) :: (u197) :: (u198) :: (u199) :: (u200) :: (u201) :: (u202) :: (u203) :: (u204) :: (u205) :: (u206) :: (u207) :: (u208) :: (u209) :: (u210) :: (u211) :: (u212) :: (u213) :: (u214) :: (u215) :: (Value.slice A' k c') :: (Value.func (Fn.func 62) #[] #[Value.pointer (some { block := wr.heap.size, off := 0 })]) :: (Value.func (Fn.func 62) #[] #[Value.pointer (some { block := wr.heap.size, off := 0 })]) :: (Value.bool false) :: (Value.func (Fn.func 62) #[] #[Value.pointer (some { block := wr.heap.size, off := 0 })]) :: (Value.string (ps[x]?.getD ByteArray.empty)) :: (Value.int IntKind.i64 (x : Int)) :: (undef) :: (undef) :: (undef) :: (undef) :: (undef) :: (undef) :: (undef) :: (undef) :: (undef) :: (undef) :: (undef) :: (undef) :: (undef) :: (undef) :: (undef) :: (undef) :: [] : List Value).toArray), defers := [] }) ?assign ?body ?done ?stop
      case assign =>
        intro l0 x W K hK
        gi_wp2
        simpa using hK
      case stop =>
        rintro D c pre W _ hpre ⟨_, hno⟩ _
        obtain ⟨j, hj, e⟩ := hpre
        exact (hno j hj e).elim
      case body =>
        rintro l0 pre x W ⟨hrow, hb3⟩ hlen
        rw [HPL.out] at hlen
        have y27 := hrow.cell (k := 0) (by simp)
        have f27 := hrow.frozen 0
        have hbx4 := HBX3.out.keep (hb3.block _ HBX3.out.lt)
        have y4 := hbx4.cell (k := 0) (by simp)
        have hr4 := HR03.out.keep (hb3.block _ HR03.out.lt)
        have y2 := hr4.cell (k := 0) (by simp)
        have f2 := hr4.frozen 0
        simp only [List.getElem?_cons_zero] at y27 y4 y2
        obtain ⟨Dm, hown, him, hs1, hs2⟩ := HSN3.out.block (hb3.block _ HSN3.out.lt)
        obtain ⟨q, hq⟩ : ∃ q, q = pre.length := ⟨_, rfl⟩
        rw [← hq] at y27 hlen
        have hq63 : (q : Int) ≤ 60 := by omega
        obtain ⟨s, hse⟩ : ∃ s, s = ps[x]?.getD ByteArray.empty := ⟨_, rfl⟩
        obtain ⟨kl, hkey⟩ := keyS s (by rw [hse]; have := HPZ.out x; unfold maxLen; omega)
        obtain ⟨c, _, hat, hwc⟩ := hown.lookup_int strK Tryd.underlying52 Tryd.underlying3 (Tryd.zeroValue3 _) hkey
        have HOWN := Lib.hid hown
        have HAT := Lib.hid hat
        have HROW := Lib.hid hrow
        have HB3 := Lib.hid hb3
        have HQ := Lib.hid hq
        have hwz : w3.heap.size ≤ W.heap.size := hb3.size
        try dsimp only
        rw [← hse]
        by_cases hx : x = q
        · obtain rfl : c = (q : Int) := by
            have h1 := hs1 q hlen kl (by rw [← HPJ.out q hlen, ← hx, ← hse]; exact hkey)
            rw [hat] at h1
            injection h1 with h1
            injection h1
          have eqq : ((q : Int) != (q : Int)) = false := bne_self_eq_false _
          subst hx
          clear hown hat hrow hb3 hq hs1 hs2 him hse hr4 hbx4
          gi_wp2_with (gi_at_lookup
                       refine wpListIn_lookup_own_int _ rfl (.tmp 223) (.tmp 224) 52 rfl 9 3 .i64 strK Tryd.underlying52 Tryd.underlying3 (Tryd.zeroValue3 _) w2.heap.size k Dm rfl HOWN.out _ kl rfl hkey ?_
                       intro cc hat2 hwc2
                       rw [HAT.out] at hat2
                       injection hat2 with hat2
                       injection hat2 with _ hat2
                       subst hat2
                       clear hwc2)
          have hrf := HROW.out.store 0 (.int .i64 ((x : Int) + 1))
          refine ⟨KeepsOthers.setCell _ _ _, (Below.refl _ W).setCell (p := ⟨w3.heap.size, 0, none⟩) (Nat.le_refl _) _, ?_, HB3.out.setCell (p := ⟨w3.heap.size, 0, none⟩) (Nat.le_refl _) _⟩
          have e3 : (((pre ++ [x]).length : Nat) : Int) = (x : Int) + 1 := by rw [List.length_append, List.length_singleton, HQ.out]; omega
          rw [e3]
          exact hrf
        · have hmis := mismN (N := ps.length) (pre := pre) (x := x) (by rw [← hq]; exact hx)
          have HMIS := Lib.hid hmis
          clear hown hrow hb3 hq hs1 hs2 him hse hr4 hbx4 hmis
          by_cases hcx : c = (x : Int)
          · have e1 : ((x : Int) != (x : Int)) = false := bne_self_eq_false _
            have e2 : ((x : Int) != (q : Int)) = true := by rw [bne_iff_ne]; omega
            subst hcx
            clear hx hat
            gi_wp2_with (gi_at_lookup
                         refine wpListIn_lookup_own_int _ rfl (.tmp 223) (.tmp 224) 52 rfl 9 3 .i64 strK Tryd.underlying52 Tryd.underlying3 (Tryd.zeroValue3 _) w2.heap.size k Dm rfl HOWN.out _ kl rfl hkey ?_
                         intro cc hat2 hwc2
                         rw [HAT.out] at hat2
                         injection hat2 with hat2
                         injection hat2 with _ hat2
                         subst hat2
                         clear hwc2)
            all_goals exact ⟨KeepsOthers.setCell _ _ _, rfl, HMIS.out⟩
          · have e1 : (c != (x : Int)) = true := by rw [bne_iff_ne]; exact hcx
            clear hx hcx hat
            gi_wp2_with (gi_at_lookup
                         refine wpListIn_lookup_own_int _ rfl (.tmp 223) (.tmp 224) 52 rfl 9 3 .i64 strK Tryd.underlying52 Tryd.underlying3 (Tryd.zeroValue3 _) w2.heap.size k Dm rfl HOWN.out _ kl rfl hkey ?_
                         intro cc hat2 hwc2
                         rw [HAT.out] at hat2
                         injection hat2 with hat2
                         injection hat2 with _ hat2
                         subst hat2
                         clear hwc2)
            all_goals exact ⟨KeepsOthers.setCell _ _ _, rfl, HMIS.out⟩
      case done =>
        rintro D xs W hD rfl ⟨hrow, hb3⟩ hK
        rw [upto_length, HPL.out] at hrow
        have y27 := hrow.cell (k := 0) (by simp)
        have hr4 := HR03.out.keep (hb3.block _ HR03.out.lt)
        have y2 := hr4.cell (k := 0) (by simp)
        have f2 := hr4.frozen 0
        simp only [List.getElem?_cons_zero] at y27 y2
        have eN : ((k : Int) == (k : Int)) = true := beq_self_eq_true _
        have hDne : w.heap.size ≠ D := by omega
        have HR4 := Lib.hid hr4
        have HB3 := Lib.hid hb3
        have HK := Lib.hid hK
        clear hrow hr4 hb3 hK
        gi_wp2
        have hrf := HR4.out.store 0 (.bool true)
        have hkD2 : (W.setCell ⟨w.heap.size, 0, none⟩ (.bool true)).heap[D]? = some (.deferred (some [])) := (Below.heap_setCell _ _ _ _ (fun e => hDne e.symm)).trans HK.out
        have hbf : Below w.heap.size w (W.setCell ⟨w.heap.size, 0, none⟩ (.bool true)) := (HBW3.out.trans (HB3.out.mono (by omega))).setCell (p := ⟨w.heap.size, 0, none⟩) (Nat.le_refl _) _
        refine leaves_marks [D] _ (List.nodup_cons.2 ⟨List.not_mem_nil, List.nodup_nil⟩) (fun x hx => by rw [List.mem_singleton.1 hx]; exact hkD2) ?_
        have hc5 : (shutAll (W.setCell ⟨w.heap.size, 0, none⟩ (.bool true)) [D]).cell? ⟨w.heap.size, 0, none⟩ = some (.bool true) := by
          rw [World.cell?_of_block (shut_other [D] _ (by rw [List.mem_singleton]; exact hDne)), hrf.cell (k := 0) (by simp)]
          rfl
        refine ⟨.bool true, ?_, rfl, shut_below [D] _ (fun x hx => by rw [List.mem_singleton.1 hx]; omega) hbf⟩
        simp [results, Tryd.f7, go_sem, hc5]
end Go.Proofs.YtmdnbajbfnhecaaDoor
