/- Lists: Build, first part. -/
import Derived.Test.YtiolpknfdabijaaProg
import Derived.Test.YtiolpknfdabijaaLib
import Derived.Test.YtiolpknfdabijaaPure
import Derived.Test.YtiolpknfdabijaaMask2
import Derived.Test.YtiolpknfdabijaaVec
import Derived.Test.YtiolpknfdabijaaVec2
import Derived.Test.YtiolpknfdabijaaLib2
import Derived.Test.YtiolpknfdabijaaClone
import Derived.Test.YtiolpknfdabijaaLists
import Derived.Test.YtiolpknfdabijaaLists3
set_option linter.unusedVariables false
set_option maxRecDepth 4000
set_option linter.unusedSimpArgs false
namespace Go.Proofs.Ytiolpknfdabijaa
open Go.RowKit


structure RetListsE (r : Lists × Int) (w0 w : World) (e : Ending) (w' : World) : Prop where mk ::
  (out : ∃ v, e = .returned (.tuple #[v, .int .i64 r.2]) ∧ OwnLists w.heap.size w0 w' v r.1 ∧ Ext w w')
theorem OwnVecs.set_ne {base : Nat} {w0 w : World} {v : Value} {l : List Vec} (h : OwnVecs base w0 w v l) {B t : Nat} {cs : Array Value} (k : Blk w B cs t) (ht : 46 ≠ t) (i : Nat) (u : Value) : OwnVecs base w0 (w.setCell ⟨B, i, none⟩ u) v l := by
  obtain ⟨vs, h1, h2⟩ := h.out
  exact ⟨vs, ownsRow_setCell_other h1 (own_ne h1 k ht) u, h2⟩
theorem OwnLists.set_ne {base : Nat} {w0 w : World} {v : Value} {l : Lists} (h : OwnLists base w0 w v l) {B : Nat} {cs : Array Value} (k : Blk w B cs 25) (i : Nat) (u : Value) : OwnLists base w0 (w.setCell ⟨B, i, none⟩ u) v l := by
  obtain ⟨cv, mv, h0, h1, h2⟩ := h.out
  exact ⟨cv, mv, h0, h1.set_ne k (by decide) i u, ownsRow_setCell_other h2 (own_ne h2 k (by decide)) u⟩
def zeros (n : Nat) : Array Value := madeCells (Value.agg #[.int .u64 0, .int .u64 0]).cells (n * 2)
theorem zeros_eq (n : Nat) : (zeros n).toList = maskFlat (List.replicate n 0) := by
  apply List.ext_getElem?
  intro j
  have hz : (zeros n).size = n * 2 := by simp [zeros, madeCells]
  have hl : (maskFlat (List.replicate n 0)).length = n * 2 := by rw [maskFlat_len, List.length_replicate]
  rcases Nat.lt_or_ge j (n * 2) with h | h
  · obtain ⟨k, i, hk, hi2, rfl⟩ : ∃ k i, k < n ∧ i < 2 ∧ j = k * 2 + i := ⟨j / 2, j % 2, by omega, by omega, by omega⟩
    have h1 := maskFlat_at (List.replicate n 0) k 0 (by simp [hk])
    have h2 : (maskFlat (List.replicate n 0))[k * 2 + i]? = ([Value.int .u64 (lo 0), .int .u64 (hi 0)] : List Value)[i]? := by
      rw [← h1, List.getElem?_take, if_pos hi2, List.getElem?_drop]
    rw [h2, lo_zero, hi_zero, Array.getElem?_toList]
    have : (zeros n)[k * 2 + i]? = some (.int .u64 0) := by
      rw [Array.getElem?_eq_getElem (by omega)]
      simp only [zeros, madeCells, Value.cells, Array.getElem_map, Array.getElem_range]
      have e : (k * 2 + i) % 2 = i := by omega
      match i, hi2, e with
      | 0, _, e => simp [Value.cells, e]
      | 1, _, e => simp [Value.cells, e]
    rw [this]
    match i, hi2 with
    | 0, _ => rfl
    | 1, _ => rfl
  · rw [List.getElem?_eq_none (by simp; omega), List.getElem?_eq_none (by omega)]

end Go.Proofs.Ytiolpknfdabijaa
