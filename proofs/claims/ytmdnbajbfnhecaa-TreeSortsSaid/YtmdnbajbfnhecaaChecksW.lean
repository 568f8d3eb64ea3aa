/- The walk of TreeChecks. -/
import Derived.Test.YtmdnbajbfnhecaaMut2
import Derived.Test.YtmdnbajbfnhecaaRTwin
import Derived.Test.YtmdnbajbfnhecaaPSame
import Derived.Test.YtmdnbajbfnhecaaPCheck
set_option linter.unusedVariables false
namespace Go.Proofs.Ytmdnbajbfnhecaa
open Go.RowKit
/-- Sizes, while the names of the props are being lengthened: all before place (k, j) are a byte longer. -/
def Lim (k j : Nat) (l : List Nm) : Prop := ∀ i (h : i < l.length), (Lit.int .i64 l[i].d.p).wf = true ∧ l[i].d.n.size ≤ 140737488351232 ∧ l[i].d.ps.length * 32 ≤ 140737488351232 ∧
  ∀ m (hm : m < l[i].d.ps.length), l[i].d.ps[m].v.size ≤ 140737488351232 ∧ (l[i].d.ps[m].n.size ≤ 140737488351232 ∨ ((i < k ∨ (i = k ∧ m < j)) ∧ l[i].d.ps[m].n.size ≤ 140737488351233))
theorem Lim.sized {k j : Nat} {l : List Nm} (h : Lim k j l) (hn : l.length * 48 ≤ 140737488355328) : Sized l := by
  refine ⟨hn, ?_, ?_, ?_⟩
  · intro x hx
    unfold dat at hx
    obtain ⟨y, hy, rfl⟩ := List.mem_map.1 hx
    obtain ⟨i, hi, rfl⟩ := List.mem_iff_getElem.1 hy
    obtain ⟨_, h1, _, h2⟩ := h i hi
    refine ⟨by omega, fun y hy => ?_⟩
    obtain ⟨m, hm, rfl⟩ := List.mem_iff_getElem.1 hy
    obtain ⟨h3, h4⟩ := h2 m hm
    exact ⟨by omega, by omega⟩
  · intro x hx
    obtain ⟨i, hi, rfl⟩ := List.mem_iff_getElem.1 hx
    have := (h i hi).2.2.1
    omega
  · intro x hx
    obtain ⟨i, hi, rfl⟩ := List.mem_iff_getElem.1 hx
    exact (h i hi).1
theorem Lim.mono {k j k' j' : Nat} {l : List Nm} (h : Lim k j l) (hm : ∀ i (hi : i < l.length) m, m < l[i].d.ps.length → (i < k ∨ (i = k ∧ m < j)) → (i < k' ∨ (i = k' ∧ m < j'))) : Lim k' j' l := fun i hi => by
  obtain ⟨h1, h2, h3, h4⟩ := h i hi
  refine ⟨h1, h2, h3, fun m hlt => ?_⟩
  obtain ⟨h5, h6⟩ := h4 m hlt
  exact ⟨h5, h6.imp id fun ⟨a, b⟩ => ⟨hm i hi m hlt a, b⟩⟩
theorem Lim.setP {k j : Nat} {l : List Nm} (h : Lim k j l) {i : Nat} (hi : i < l.length) {p : Int} (hp : (Lit.int .i64 p).wf = true) : Lim k j (l.set i (l[i].setP p)) := fun i' hi' => by
  have hi2 : i' < l.length := by simpa using hi'
  by_cases e : i = i'
  · subst e
    simp only [List.getElem_set_self]
    obtain ⟨h1, h2, h3, h4⟩ := h i hi
    exact ⟨hp, h2, h3, h4⟩
  · simp only [List.getElem_set_ne e]
    exact h i' hi2
theorem Lim.setN {k j : Nat} {l : List Nm} (h : Lim k j l) (hk : k < l.length) (hj : j < l[k].d.ps.length) {s : ByteArray} (hs : s.size ≤ l[k].d.ps[j].n.size + 1) : Lim k (j + 1) (l.set k (l[k].setN j ⟨s, l[k].d.ps[j].v⟩)) := fun i' hi' => by
  have hi2 : i' < l.length := by simpa using hi'
  by_cases e : k = i'
  · subst e
    simp only [List.getElem_set_self]
    obtain ⟨h1, h2, h3, h4⟩ := h k hk
    refine ⟨h1, h2, by simp [Nm.setN]; omega, fun m hm => ?_⟩
    have hm2 : m < l[k].d.ps.length := by simpa [Nm.setN] using hm
    by_cases em : j = m
    · subst em
      have e1 : ((l[k].setN j ⟨s, l[k].d.ps[j].v⟩).d.ps[j]'hm) = ⟨s, l[k].d.ps[j].v⟩ := by simp [Nm.setN]
      rw [e1]
      obtain ⟨h5, h6⟩ := h4 j hj
      refine ⟨h5, .inr ⟨by simp, ?_⟩⟩
      rcases h6 with h6 | ⟨h6, _⟩
      · show s.size ≤ _; omega
      · omega
    · have e1 : ((l[k].setN j ⟨s, l[k].d.ps[j].v⟩).d.ps[m]'hm) = l[k].d.ps[m] := by simp [Nm.setN, List.getElem_set_ne em]
      rw [e1]
      obtain ⟨h5, h6⟩ := h4 m hm2
      exact ⟨h5, h6.imp id fun ⟨a, b⟩ => ⟨by simp at a ⊢; omega, b⟩⟩
  · simp only [List.getElem_set_ne e]
    obtain ⟨h1, h2, h3, h4⟩ := h i' hi2
    refine ⟨h1, h2, h3, fun m hm => ?_⟩
    obtain ⟨h5, h6⟩ := h4 m hm
    exact ⟨h5, h6.imp id fun ⟨a, b⟩ => ⟨by omega, b⟩⟩
theorem Lim.dat {k j : Nat} {l l' : List Nm} (h : Lim k j l) (hd : dat l' = dat l) : Lim k j l' := fun i hi => by
  have hl : l'.length = l.length := by have := congrArg List.length hd; rwa [dat_len, dat_len] at this
  have hi2 : i < l.length := by omega
  have e : l'[i].d = l[i].d := by
    rw [← dat_get l' hi, ← dat_get l hi2]
    congr 1
  have h2 := h i hi2
  rw [← e] at h2
  exact h2
theorem sized_dat {l l' : List Nm} (h : Sized l) (hd : dat l' = dat l) : Sized l' := by
  have hl : l'.length = l.length := by have := congrArg List.length hd; rwa [dat_len, dat_len] at this
  have hm : ∀ x ∈ l', ∃ y ∈ l, x.d = y.d := fun x hx => by
    have : x.d ∈ dat l' := by unfold dat; exact List.mem_map_of_mem hx
    rw [hd] at this
    unfold dat at this
    obtain ⟨y, hy, e⟩ := List.mem_map.1 this
    exact ⟨y, hy, e.symm⟩
  refine ⟨by rw [hl]; exact h.n, by rw [hd]; exact h.small, fun x hx => ?_, fun x hx => ?_⟩
  · obtain ⟨y, hy, e⟩ := hm x hx
    rw [e]; exact h.props y hy
  · obtain ⟨y, hy, e⟩ := hm x hx
    rw [e]; exact h.wf y hy
set_option maxRecDepth 100000 in
set_option maxHeartbeats 8000000 in
theorem treeChecks_walk (A : Option Addr) (c n : Nat) (la : List Nm) (hn : n = la.length) (hl : n * 48 ≤ 140737488351232) (ha : Lim 0 0 la) (A' : Option Addr) (c' n' : Nat) (lb : List Nm) (hn' : n' = lb.length) (w : World) (hs : Nodes w w.heap.size A la) (hs' : Nodes w w.heap.size A' lb) :
    Calls Try.prog 3 #[.slice A n c, .slice A' n' c'] w fun e w' => e = .returned (.bool true) ∧ Below w.heap.size w w' := by
  have hz : Sized la := ha.sized (by omega)
  have htw : ∀ w1, Below w.heap.size w w1 → Calls Try.prog 6 #[.slice A n c] w1 fun e w' => ∃ A1 c1 l1, e = .returned (.slice A1 n c1) ∧ dat l1 = dat la ∧ OwnN w' w.heap.size A1 n c1 l1 ∧ Below w.heap.size w w' ∧ w1.heap.size ≤ w'.heap.size ∧ Below w1.heap.size w1 w' := fun w1 hb =>
    (rtwin_any A c n la hn hz w1 w.heap.size hb.size (hs.below hb)).mono fun e w' ⟨A1, c1, l1, h1, h2, h3, h4⟩ => ⟨A1, c1, l1, h1, h2, h3.base_ hb.size, hb.trans (h4.mono hb.size), h4.size, h4⟩
  have hrc : ∀ w1, Below w.heap.size w w1 → Calls Try.prog 8 #[.slice A n c] w1 fun e w' => e = .returned (.tuple #[.int .i64 (checkF (dat la)).1, .int .i64 (checkF (dat la)).2]) ∧ Below w1.heap.size w1 w' := fun w1 hb =>
    rcheck_any A c n la hn hz w1 w.heap.size hb.size (hs.below hb)
  have hpc : ∀ (A1 : Option Addr) (c1 : Nat) (l1 : List Nm) (w1 : World) (B1 : Nat), n = l1.length → Sized l1 → B1 ≤ w1.heap.size → Nodes w1 B1 A1 l1 → Calls Try.prog 7 #[.slice A1 n c1] w1 fun e w' => e = .returned (.tuple #[.int .i64 (checkF (dat l1)).1, .int .i64 (checkF (dat l1)).2]) ∧ Below w1.heap.size w1 w' := fun A1 c1 l1 w1 B1 h1 h2 h3 h4 =>
    pCheck_any A1 c1 n l1 h1 h2 w1 B1 h3 h4
  have hrs : ∀ (A1 : Option Addr) (c1 : Nat) (l1 : List Nm) (w1 : World), n = l1.length → dat l1 = dat la → Below w.heap.size w w1 → Nodes w1 w1.heap.size A1 l1 → Calls Try.prog 9 #[.slice A1 n c1, .slice A n c] w1 fun e w' => e = .returned (.bool true) ∧ Below w1.heap.size w1 w' := fun A1 c1 l1 w1 h1 h2 h3 h4 => by
    have := rsame_any A1 c1 n l1 h1 (sized_dat hz h2) A c n la hn w1 w1.heap.size (Nat.le_refl _) h4 ((hs.below h3).more h3.size)
    rw [h2, same_refl] at this
    exact this
  have hps : ∀ (A1 : Option Addr) (c1 : Nat) (l1 : List Nm) (w1 : World), n = l1.length → dat l1 = dat la → Below w.heap.size w w1 → Nodes w1 w1.heap.size A1 l1 → Calls Try.prog 10 #[.slice A1 n c1, .slice A' n' c'] w1 fun e w' => e = .returned (.bool (sameB (dat la) (dat lb))) ∧ Below w1.heap.size w1 w' := fun A1 c1 l1 w1 h1 h2 h3 h4 => by
    have := psame_any A1 c1 n l1 h1 (sized_dat hz h2) A' c' n' lb hn' w1 w1.heap.size (Nat.le_refl _) h4 ((hs'.below h3).more h3.size)
    rw [h2] at this
    exact this
  have hrs2 : ∀ w1, Below w.heap.size w w1 → Calls Try.prog 9 #[.slice A n c, .slice A' n' c'] w1 fun e w' => e = .returned (.bool (sameB (dat la) (dat lb))) ∧ Below w1.heap.size w1 w' := fun w1 h3 =>
    rsame_any A c n la hn hz A' c' n' lb hn' w1 w.heap.size h3.size (hs.below h3) (hs'.below h3)
  have hps2 : ∀ (A1 : Option Addr) (c1 : Nat) (l1 : List Nm) (A2 : Option Addr) (c2 : Nat) (l2 : List Nm) (w1 : World), n = l1.length → n = l2.length → dat l1 = dat la → dat l2 = dat la → Nodes w1 w1.heap.size A1 l1 → Nodes w1 w1.heap.size A2 l2 → Calls Try.prog 10 #[.slice A1 n c1, .slice A2 n c2] w1 fun e w' => e = .returned (.bool true) ∧ Below w1.heap.size w1 w' := fun A1 c1 l1 A2 c2 l2 w1 h1 h2 h3 h4 h5 h6 => by
    have := psame_any A1 c1 n l1 h1 (sized_dat hz h3) A2 c2 n l2 h2 w1 w1.heap.size (Nat.le_refl _) h5 h6
    rw [h3, h4, same_refl] at this
    exact this
  obtain ⟨R, hR⟩ : ∃ R, R = checkF (dat la) := ⟨_, rfl⟩
  obtain ⟨R1, R2⟩ := R
  rw [← hR] at hrc
  have hpc1 : ∀ (A1 : Option Addr) (c1 : Nat) (l1 : List Nm) (w1 : World), n = l1.length → dat l1 = dat la → Nodes w1 w1.heap.size A1 l1 → Calls Try.prog 7 #[.slice A1 n c1] w1 fun e w' => e = .returned (.tuple #[.int .i64 R1, .int .i64 R2]) ∧ Below w1.heap.size w1 w' := fun A1 c1 l1 w1 h1 h2 h3 => by
    have := hpc A1 c1 l1 w1 _ h1 (sized_dat hz h2) (Nat.le_refl _) h3
    rw [h2, ← hR] at this
    exact this
  obtain ⟨sb, hsb⟩ : ∃ sb, sb = sameB (dat la) (dat lb) := ⟨_, rfl⟩
  rw [← hsb] at hps hrs2
  have HTW := Lib.hid htw
  have HRC := Lib.hid hrc
  have HPC := Lib.hid hpc
  have HPC1 := Lib.hid hpc1
  have HRS := Lib.hid hrs
  have HPS := Lib.hid hps
  have HRS2 := Lib.hid hrs2
  have HPS2 := Lib.hid hps2
  have HA := Lib.hid ha
  have hnn : n ≤ 2932031007317 := by omega
  clear htw hrc hpc hpc1 hrs hps hrs2 hps2 ha hz hs hs' hsb hR hn hn' hl
  go_enter Try.func3, Try.ntmps3
  go_wp2_with (first
    | (go_at_call 10; refine (HPS2.out A1 c1 l1 A7 c7 l7 _ HO7.out.len HO27.out.len HD1.out HD7.out HO7.out.nodes HO27.out.nodes).mono ?_; rintro e w8 ⟨rfl, hb8⟩; have HB8 := Lib.hid (HB7.out.trans (hb8.mono HB7.out.size)); have HO8 := Lib.hid (HO7.out.below hb8); clear hb8)
    | (go_at_call 6; refine (HTW.out _ HB6.out).mono ?_; rintro e w7 ⟨A7, c7, l7, rfl, hd7, ho7, hb7, hle7, hbb7⟩; have HD7 := Lib.hid hd7; have HO27 := Lib.hid ho7; have HB7 := Lib.hid hb7; have HO7 := Lib.hid (HO6.out.below hbb7); clear hd7 ho7 hb7 hle7 hbb7)
    | (go_at_call 9; refine (HRS2.out _ HB5.out).mono ?_; rintro e w6 ⟨rfl, hb6⟩; have HB6 := Lib.hid (HB5.out.trans (hb6.mono HB5.out.size)); have HO6 := Lib.hid (HO5.out.below hb6); clear hb6)
    | (go_at_call 10; refine (HPS.out A1 c1 l1 _ HO4.out.len HD1.out HB4.out HO4.out.nodes).mono ?_; rintro e w5 ⟨rfl, hb5⟩; have HB5 := Lib.hid (HB4.out.trans (hb5.mono HB4.out.size)); have HO5 := Lib.hid (HO4.out.below hb5); clear hb5)
    | (go_at_call 9; refine (HRS.out A1 c1 l1 _ HO3.out.len HD1.out HB3.out HO3.out.nodes).mono ?_; rintro e w4 ⟨rfl, hb4⟩; have HB4 := Lib.hid (HB3.out.trans (hb4.mono HB3.out.size)); have HO4 := Lib.hid (HO3.out.below hb4); clear hb4)
    | (go_at_call 8; refine (HRC.out _ HB2.out).mono ?_; rintro e w3 ⟨rfl, hb3⟩; have HB3 := Lib.hid (HB2.out.trans (hb3.mono HB2.out.size)); have HO3 := Lib.hid (HO2.out.below hb3); clear hb3)
    | (go_at_call 7; refine (HPC1.out A1 c1 l1 _ HO1.out.len HD1.out HO1.out.nodes).mono ?_; rintro e w2 ⟨rfl, hb2⟩; have HB2 := Lib.hid (HB1.out.trans (hb2.mono HB1.out.size)); have HO2 := Lib.hid (HO1.out.below hb2); clear hb2)
    | (go_at_call 6; refine (HTW.out _ (Below.refl _ _)).mono ?_; rintro e w1 ⟨A1, c1, l1, rfl, hd1, ho1, hb1, _, _⟩; have HD1 := Lib.hid hd1; have HO1 := Lib.hid ho1; have HB1 := Lib.hid hb1; clear hd1 ho1 hb1))
  have hlim1 : Lim 0 0 l1 := HA.out.dat HD1.out
  have HLIM1 := Lib.hid hlim1
  clear hlim1 HTW HRC HPC1 HRS HPS HRS2 HPS2 HA
  go_loopw [10] (fun iv wr => ∃ (k : Nat) (l' : List Nm), k ≤ n ∧ iv = .int .i64 k ∧ OwnN wr w.heap.size A1 n c1 l' ∧ Lim k 0 l' ∧ Below w.heap.size w wr) (fun iv _ => n - (intOf iv).toNat)
  case atStart => exact ⟨0, l1, by omega, rfl, HO8.out, HLIM1.out, HB8.out⟩
  case round =>
    obtain ⟨k, l', hk, rfl, hown, hlim, hb⟩ := hrel
    have HO := Lib.hid hown
    have HLIM := Lib.hid hlim
    have HB := Lib.hid hb
    clear HO1 HO2 HO3 HO4 HO5 HO6 HO7 HO8 HO27 HB1 HB2 HB3 HB4 HB5 HB6 HB7 HB8 HD1 HD7 HLIM1 hlim hb
    by_cases hlt : k < n
    · have hkl : k < l'.length := by rw [← HO.out.len]; exact hlt
      have hki : (k : Int) < (n : Int) := by omega
      obtain ⟨g, rfl, hgb, hgl, x0, x0f, x2, hset⟩ := hown.at_ hkl
      have hlset := fun (p : Int) hp => HLIM.out.setP hkl (p := p) hp
      obtain ⟨P, hP⟩ : ∃ P, P = l'[k].d.p := ⟨_, rfl⟩
      rw [← hP] at x0
      have HSET := Lib.hid hset
      have HLSET := Lib.hid hlset
      clear hset hlset hP hown x2
      have hm0 := (HLIM.out k hkl).2.2.1
      obtain ⟨m, hm⟩ : ∃ m, m = l'[k].d.ps.length := ⟨_, rfl⟩
      rw [← hm] at hm0
      have HM := Lib.hid hm
      clear hm
      go_wp2_with fail
      have ho2 := HSET.out (wrap64 (P + (k : Int) % 2))
      have hl2 := HLSET.out (wrap64 (P + (k : Int) % 2)) (wrap64_wf _)
      have hk2 : ∃ h : k < (l'.set k (l'[k].setP (wrap64 (P + (k : Int) % 2)))).length, (l'.set k (l'[k].setP (wrap64 (P + (k : Int) % 2))))[k].d.ps.length = m := ⟨by simpa using hkl, by simp [Nm.setP, HM.out]⟩
      have hb2 : Below w.heap.size w (wr.setCell ⟨g, k * 3, none⟩ (.int .i64 (wrap64 (P + (k : Int) % 2)))) := HB.out.setCell hgb _
      generalize l'.set k (l'[k].setP (wrap64 (P + (k : Int) % 2))) = l2 at ho2 hl2 hk2
      have HO2 := Lib.hid ho2
      have HL2 := Lib.hid hl2
      have HK2 := Lib.hid hk2
      have HB2 := Lib.hid hb2
      clear ho2 hl2 hk2 hb2 HSET HLSET x0 x0f HLIM HB HO
      go_loopw [11] (fun jv wx => ∃ (j : Nat) (l3 : List Nm), j ≤ m ∧ jv = .int .i64 j ∧ (∃ h : k < l3.length, l3[k].d.ps.length = m) ∧ OwnN wx w.heap.size (some ⟨g, 0, none⟩) n c1 l3 ∧ Lim k j l3 ∧ Below w.heap.size w wx) (fun jv _ => m - (intOf jv).toNat)
      case atStart => exact ⟨0, l2, by omega, rfl, HK2.out, HO2.out, HL2.out, HB2.out⟩
      case round =>
        obtain ⟨j, l3, hj, rfl, ⟨hk3, hm3⟩, ho3, hl3, hb3⟩ := hrel
        clear HO2 HL2 HK2 HB2
        obtain ⟨g', hg', _, _, _, _, x2, _⟩ := ho3.at_ hk3
        injection hg' with hg'
        injection hg' with hg'
        subst hg'
        rw [hm3] at x2
        by_cases hjm : j < m
        · have hj3 : j < l3[k].d.ps.length := by omega
          have hjm2 : (j : Int) < (m : Int) := by omega
          obtain ⟨gp, hgp, hgpb, y0, y0f, hst⟩ := ho3.pr_ hk3 hj3
          have hls := fun (s : ByteArray) hs => hl3.setN hk3 hj3 (s := s) hs
          have htz := ((hl3 k hk3).2.2.2 j hj3).2
          have hkm : ∀ y, ∃ h : k < (l3.set k (l3[k].setN j y)).length, (l3.set k (l3[k].setN j y))[k].d.ps.length = m := fun y => ⟨by simpa using hk3, by simp [Nm.setN, hm3]⟩
          rw [hgp] at x2
          obtain ⟨t, ht⟩ : ∃ t, t = l3[k].d.ps[j].n := ⟨_, rfl⟩
          obtain ⟨cc, hcc⟩ : ∃ cc, cc = l3[k].c := ⟨_, rfl⟩
          rw [← ht] at y0 htz hls
          rw [← hcc] at x2
          have htz2 : t.size ≤ 140737488351233 := by omega
          have HST := Lib.hid hst
          have HLS := Lib.hid hls
          have HKM := Lib.hid hkm
          have HB3 := Lib.hid hb3
          clear hst hls hkm hb3 htz ht hcc hl3 ho3 hgp
          go_wp2_with fail
          go_region
          have ho5 : OwnN ((wr.setCell ⟨gp, j * 2, none⟩ (.string (t ++ ⟨#[98]⟩))).drew) w.heap.size (some ⟨g, 0, none⟩) n c1 (l3.set k (l3[k].setN j ⟨t ++ ⟨#[98]⟩, l3[k].d.ps[j].v⟩)) := (HST.out _).keep fun _ _ _ => rfl
          have hl5 := HLS.out (t ++ ⟨#[98]⟩) (by rw [ByteArray.size_append]; exact Nat.le_refl _)
          have hk5 := HKM.out ⟨t ++ ⟨#[98]⟩, l3[k].d.ps[j].v⟩
          have hb5 : Below w.heap.size w ((wr.setCell ⟨gp, j * 2, none⟩ (.string (t ++ ⟨#[98]⟩))).drew) := (HB3.out.setCell hgpb _).drew
          generalize l3.set k (l3[k].setN j ⟨t ++ ⟨#[98]⟩, l3[k].d.ps[j].v⟩) = l5 at ho5 hl5 hk5
          have HO5 := Lib.hid ho5
          have HL5 := Lib.hid hl5
          have HK5 := Lib.hid hk5
          have HB5 := Lib.hid hb5
          clear ho5 hl5 hk5 hb5 HST HLS HKM HB3
          go_wp2_with fail
          exact ⟨⟨j + 1, l5, by omega, by go_num, HK5.out, HO5.out, HL5.out, HB5.out⟩, by simp [intOf]; omega⟩
        · obtain rfl : j = m := by omega
          have hl4 : Lim (k + 1) 0 l3 := hl3.mono fun i hi mm hmm h => by omega
          have HL4 := Lib.hid hl4
          have HO4 := Lib.hid ho3
          have HB4 := Lib.hid hb3
          clear hl3 ho3 hb3 hl4
          go_wp2_with fail
          exact ⟨⟨k + 1, l3, by omega, by go_num, HO4.out, HL4.out, HB4.out⟩, by simp [intOf]; omega⟩
    · obtain rfl : k = n := by omega
      have hz' : Sized l' := HLIM.out.sized (by rw [← HO.out.len]; omega)
      have h7 := HPC.out A1 c1 l' wr _ HO.out.len hz' (Nat.le_refl _) HO.out.nodes
      have h6 : ∀ w1, Below wr.heap.size wr w1 → Calls Try.prog 6 #[.slice A1 k c1] w1 fun e w' => ∃ A9 c9 l9, e = .returned (.slice A9 k c9) ∧ dat l9 = dat l' ∧ OwnN w' wr.heap.size A9 k c9 l9 ∧ Below wr.heap.size wr w' := fun w1 hb =>
        (rtwin_any A1 c1 k l' HO.out.len hz' w1 wr.heap.size hb.size (HO.out.nodes.below hb)).mono fun e w' ⟨A9, c9, l9, h1, h2, h3, h4⟩ => ⟨A9, c9, l9, h1, h2, h3.base_ hb.size, hb.trans (h4.mono hb.size)⟩
      obtain ⟨R, hR⟩ : ∃ R, R = checkF (dat l') := ⟨_, rfl⟩
      obtain ⟨T1, T2⟩ := R
      rw [← hR] at h7
      have h8 : ∀ (A9 : Option Addr) (c9 : Nat) (l9 : List Nm) (w1 : World), dat l9 = dat l' → OwnN w1 wr.heap.size A9 k c9 l9 → Calls Try.prog 8 #[.slice A9 k c9] w1 fun e w' => e = .returned (.tuple #[.int .i64 T1, .int .i64 T2]) ∧ Below w1.heap.size w1 w' := fun A9 c9 l9 w1 hd ho => by
        have := rcheck_any A9 c9 k l9 ho.len (sized_dat hz' hd) w1 w1.heap.size (Nat.le_refl _) ho.nodes
        rw [hd, ← hR] at this
        exact this
      have H6 := Lib.hid h6
      have H7 := Lib.hid h7
      have H8 := Lib.hid h8
      clear h6 h7 h8 hR hz'
      go_wp2_with (first
        | (go_at_call 8; refine (H8.out A9 c9 l9 _ HD9.out HO9.out).mono ?_; rintro e w10 ⟨rfl, hb10⟩; have HB10 := Lib.hid (HB9.out.trans (hb10.mono HB9.out.size)); clear hb10)
        | (go_at_call 6; refine (H6.out _ HB8.out).mono ?_; rintro e w9 ⟨A9, c9, l9, rfl, hd9, ho9, hb9⟩; have HD9 := Lib.hid hd9; have HO9 := Lib.hid ho9; have HB9 := Lib.hid hb9; clear hd9 ho9 hb9)
        | (go_at_call 7; refine H7.out.mono ?_; rintro e w8 ⟨rfl, hb8⟩; have HB8 := Lib.hid hb8; clear hb8))
      go_ret
      exact ⟨by simp, HB.out.trans (HB10.out.mono HB.out.size)⟩
end Go.Proofs.Ytmdnbajbfnhecaa
