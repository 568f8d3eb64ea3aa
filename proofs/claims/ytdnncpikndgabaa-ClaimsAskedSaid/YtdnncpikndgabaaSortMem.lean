/- A row of the call's own, put in order by the library. -/
import Derived.Test.YtdnncpikndgabaaPush
import Derived.Shelf.SlSortCmp.WholeK
import Derived.Shelf.SlSortCmp.Whole1
set_option linter.unusedVariables false
namespace Go.Proofs.Ytdnncpikndgabaa
open Go.RowKit Go.Sort Go.Lib
theorem putRow_map {α : Type} [Inhabited α] (enc : α → Value) (w : World) (blk off : Nat) (d : Array α) : putRow enc w blk off d = putRow id w blk off (d.map enc) := by
  unfold putRow
  refine mapBlock_congr _ _ _ _ fun c _ _ _ => ?_
  unfold putCells
  apply Array.ext_getElem?
  intro k
  simp only [Array.getElem?_mapIdx, Array.size_map]
  cases c[k]? with
  | none => rfl
  | some y =>
    simp only [Option.map_some]
    split
    · rename_i hk
      rw [getElem!_pos d _ (by omega), getElem!_pos (d.map enc) _ (by simp; omega)]
      simp
    · rfl
theorem flatK_flat {α : Type} [Inhabited α] (enc : α → List Value) (k : Nat) (hk : ∀ x, (enc x).length = k) (d : Array α) : flatK enc k d = (d.toList.flatMap enc).toArray := by
  have hl := flat_length enc k hk d.toList
  refine ext_get! (by rw [size_flatK]; simp [hl]) fun t ht => ?_
  rw [size_flatK] at ht
  rw [get_flatK _ _ _ _ ht]
  have hk0 : 0 < k := by
    rcases Nat.eq_zero_or_pos k with h | h
    · subst h; simp at ht
    · exact h
  have h1 : t / k < d.toList.length := by
    rw [Array.length_toList]
    exact (Nat.div_lt_iff_lt_mul hk0).2 ht
  have h2 : t % k < k := Nat.mod_lt _ hk0
  have h3 := flat_get enc k hk d.toList (t / k) (t % k) h1 h2
  have h4 : t / k * k + t % k = t := by have := Nat.div_add_mod t k; rw [Nat.mul_comm] at this; omega
  rw [h4] at h3
  have h5 : t < (d.toList.flatMap enc).toArray.size := by simp only [List.size_toArray]; rw [hl, Array.length_toList]; exact ht
  rw [getElem!_pos d _ (by simpa using h1), getElem!_pos _ t h5, getElem!_pos _ (t % k) (by rw [hk]; exact h2)]
  simp only [List.getElem_toArray]
  have h6 : (d.toList.flatMap enc)[t]? = some ((d.toList.flatMap enc)[t]'(by simpa using h5)) := List.getElem?_eq_getElem _
  rw [h6] at h3
  rw [List.getElem?_eq_getElem (by rw [hk]; exact h2)] at h3
  injection h3 with h3
  rw [h3]
  simp
theorem own_holds {w : World} {base : Nat} {e : TypeId} {size n g c : Nat} {xs : List Value} (h : w.ownsRow base e size (.slice (some ⟨g, 0, none⟩) n c) n xs) : Holds id w g 0 xs.toArray := by
  intro j hj
  have hj' : j < xs.length := by simpa using hj
  rcases h.2 with ⟨h0, _⟩ | ⟨g', cap, cur, hv, _, hb, _, _, _, ht⟩
  · cases h0
  injection hv with hv
  injection hv with hv
  injection hv with hv
  subst hv
  refine ⟨?_, by simp [World.frozen?, hb]⟩
  have hc := h.cells (g := g) rfl j xs[j] (List.getElem?_eq_getElem hj')
  rw [addr_add] at hc
  rw [hc, getElem!_pos _ j hj]
  simp
/-- Behind the library's sort: the same row with other things in it; nothing else of what lay. -/
theorem own_put {w : World} {base : Nat} {e : TypeId} {size n g c : Nat} {xs ys : List Value} (h : w.ownsRow base e size (.slice (some ⟨g, 0, none⟩) n c) n xs) (hl : ys.length = xs.length) (m : Nat) (os : Array Obj) :
    (grow (putRow id (Sort.ahead w m) g 0 ys.toArray) os).ownsRow base e size (.slice (some ⟨g, 0, none⟩) n c) n ys ∧ Frame (fun k => k = g) w (grow (putRow id (Sort.ahead w m) g 0 ys.toArray) os) := by
  have h0 := h.1
  rcases h.2 with ⟨hv, _⟩ | ⟨g', cap, cur, hv, hbase, hb, h1, h2, h3, ht⟩
  · cases hv
  injection hv with hv _ hc
  injection hv with hv
  injection hv with hv
  subst hv hc
  have hg : g < w.heap.size := lt_of_heap hb
  refine ⟨⟨by rw [hl]; exact h0, .inr ⟨g, c, putCells id 0 ys.toArray cur, rfl, hbase, ?_, h1, h2, by simp [putCells, h3], ?_⟩⟩, ?_⟩
  · rw [heap_grow_old _ _ (by simpa [putRow, mapBlock] using hg)]
    simp [putRow, mapBlock, Sort.ahead, Array.getElem?_modify, hb, onCells]
  · have hle : ys.length ≤ cur.size := by rw [hl, h0, h3]; exact Nat.mul_le_mul_right _ h1
    rw [← h0, ← hl]
    apply List.ext_getElem?
    intro j
    by_cases hj : j < ys.length
    · rw [List.getElem?_take_of_lt hj, Array.getElem?_toList]
      simp [putCells, hj, show j < cur.size by omega]
    · rw [List.getElem?_take_eq_none (by omega), List.getElem?_eq_none (by omega)]
  · refine ⟨rfl, rfl, rfl, by simp [putRow, mapBlock, Sort.ahead], fun k hk hne => ?_⟩
    rw [heap_grow_old _ _ (by simpa [putRow, mapBlock] using hk)]
    have : g ≠ k := fun e => hne e.symm
    simp [putRow, mapBlock, Sort.ahead, Array.getElem?_modify, this]
theorem extract_all {α : Type} (d : Array α) : (d.extract 0 d.size).toList = d.toList := by simp
theorem permIn_all {α : Type} [Inhabited α] {d d' : Array α} (h : PermIn 0 d.size d d') : d'.toList.Perm d.toList := by
  obtain ⟨h1, _, h3⟩ := h
  have h4 : (d'.extract 0 d.size).toList = d'.toList := by rw [← h1]; exact extract_all d'
  rw [h4, extract_all] at h3
  exact h3
end Go.Proofs.Ytdnncpikndgabaa
