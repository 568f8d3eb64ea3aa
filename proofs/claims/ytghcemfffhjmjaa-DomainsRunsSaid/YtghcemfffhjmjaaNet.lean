/- A net as it lies in memory. -/
import Derived.Test.YtghcemfffhjmjaaClos
set_option linter.unusedVariables false
namespace Go.Proofs.Ytghcemfffhjmjaa
open Go.RowKit
/-- A row of domains whose memory lies behind block lo. -/
structure Far (lo : Nat) (a : Option Addr) (l : List Dmm) : Prop where
  row : l ≠ [] → ∀ b off, a = some ⟨b, off, none⟩ → lo < b
  under : ∀ x ∈ l, x.d.u ≠ [] → ∀ b off, x.A = some ⟨b, off, none⟩ → lo < b
theorem cells_ne {l : List Dmm} (h : dmCells l ≠ []) : l ≠ [] := by rintro rfl; exact h rfl
theorem nats_ne {l : List Nat} (h : nats l ≠ []) : l ≠ [] := by rintro rfl; exact h rfl
/-- The domains stay while only blocks up to lo, and new ones, change. -/
theorem Doms.far {w w' : World} {B lo : Nat} {a : Option Addr} {l : List Dmm} (h : Doms w B a l) (hf : Far lo a l) (hk : ∀ k, lo < k → k < B → w'.heap[k]? = w.heap[k]?) : Doms w' B a l := by
  refine ⟨fun hx => ?_, fun x hx hy => ?_⟩
  · obtain ⟨b, off, e, hb, hc⟩ := h.seg hx
    exact ⟨b, off, e, hb, fun j u hu => (World.cell?_of_block (hk b (hf.row (cells_ne hx) b off e) hb)).trans (hc j u hu)⟩
  · obtain ⟨b, off, e, hb, hc⟩ := h.under x hx hy
    exact ⟨b, off, e, hb, fun j u hu => (World.cell?_of_block (hk b (hf.under x hx (nats_ne hy) b off e) hb)).trans (hc j u hu)⟩
/-- The net in block nb: its domains, what is wanted (block mb), how high all stand. -/
structure NetAt (w : World) (nb mb N n : Nat) (Ad : Option Addr) (cd : Nat) (l : List Dmm) (W : Int → Int → Nat) (f : Nat → Nat) : Prop where
  box : RowAt w nb 62 (.slice Ad n cd :: .map (some mb) :: arr f)
  low : mb < nb
  len : n = l.length
  doms : Doms w w.heap.size Ad l
  far : Far nb Ad l
  wants : WantsAt w mb N n W
section
variable {w w' : World} {nb mb N n : Nat} {Ad : Option Addr} {cd : Nat} {l : List Dmm} {W : Int → Int → Nat} {f : Nat → Nat}
theorem NetAt.lt (h : NetAt w nb mb N n Ad cd l W f) : nb < w.heap.size := h.box.lt
theorem NetAt.c0 (h : NetAt w nb mb N n Ad cd l W f) : w.cell? ⟨nb, 0, none⟩ = some (.slice Ad n cd) := h.box.cell (by simp)
theorem NetAt.c1 (h : NetAt w nb mb N n Ad cd l W f) : w.cell? ⟨nb, 1, none⟩ = some (.map (some mb)) := h.box.cell (k := 1) (by simp)
theorem NetAt.lv (h : NetAt w nb mb N n Ad cd l W f) {d : Nat} (hd : d < 256) : w.cell? ⟨nb, 2 + d, none⟩ = some (.int .u8 (f d)) := by
  have := h.box.cell (k := 2 + d) (by simp [arr_len]; omega)
  rw [this, show 2 + d = d + 1 + 1 by omega]
  simpa using arr_get f hd
theorem NetAt.below (h : NetAt w nb mb N n Ad cd l W f) (hb : Below w.heap.size w w') : NetAt w' nb mb N n Ad cd l W f :=
  ⟨h.box.keep (hb.block _ h.lt), h.low, h.len, (h.doms.below hb).more hb.size, h.far, h.wants.block (hb.block _ (by have := h.low; have := h.lt; omega))⟩
end
end Go.Proofs.Ytghcemfffhjmjaa
