/- Arenas: the cells of a row, one by one. -/
import Derived.Test.YtiolpknfdabijaaProg
import Derived.Test.YtiolpknfdabijaaLib
import Derived.Test.YtiolpknfdabijaaPure
import Derived.Test.YtiolpknfdabijaaVec
import Derived.Test.YtiolpknfdabijaaVec2
import Derived.Test.YtiolpknfdabijaaIter
import Derived.Test.YtiolpknfdabijaaVec3
import Derived.Test.YtiolpknfdabijaaArena
import Derived.Test.YtiolpknfdabijaaArena2
import Derived.Test.YtiolpknfdabijaaArena3
import Derived.Test.YtiolpknfdabijaaClone
import Derived.Test.YtiolpknfdabijaaLib2
set_option linter.unusedVariables false
set_option maxRecDepth 4000
set_option linter.unusedSimpArgs false
namespace Go.Proofs.Ytiolpknfdabijaa
open Go.RowKit


theorem flat_len (f : Nat → List Value) (sz : Nat) (hf : ∀ k, (f k).length = sz) : ∀ n, ((List.range n).flatMap f).length = n * sz
  | 0 => by simp
  | n + 1 => by
    rw [List.range_succ, List.flatMap_append, List.length_append, flat_len f sz hf n]
    simp [hf, Nat.succ_mul]
theorem flat_at (f : Nat → List Value) (sz : Nat) (hf : ∀ k, (f k).length = sz) : ∀ n k i, k < n → i < sz → ((List.range n).flatMap f)[k * sz + i]? = (f k)[i]?
  | 0, k, i, h, _ => by omega
  | n + 1, k, i, h, hi => by
    rw [List.range_succ, List.flatMap_append]
    have hl := flat_len f sz hf n
    rcases Nat.lt_or_ge k n with hk | hk
    · have : k * sz + i < n * sz := by
        have := Nat.mul_le_mul_right sz (show k + 1 ≤ n by omega)
        rw [Nat.succ_mul] at this; omega
      rw [List.getElem?_append_left (by omega)]
      exact flat_at f sz hf n k i hk hi
    · obtain rfl : k = n := by omega
      rw [List.getElem?_append_right (by omega), hl]
      simp
def rowOfCell (c : Cell) (s : Value) : List Value := [.bool c.used, .int .u64 c.id, .int .u64 c.ver.b, .int .u64 c.ver.e, s]
def rowsOf (a : Arena) (ss : List Value) : List Value := (List.range a.length).flatMap fun k => rowOfCell (a.getD k cellNone) (ss.getD k undef)
theorem rowsOf_len (a : Arena) (ss : List Value) : (rowsOf a ss).length = a.length * 5 := flat_len _ 5 (fun _ => rfl) _
theorem rowsOf_at (a : Arena) (ss : List Value) (k i : Nat) (hk : k < a.length) (hi : i < 5) : (rowsOf a ss)[k * 5 + i]? = (rowOfCell (a.getD k cellNone) (ss.getD k undef))[i]? := flat_at _ 5 (fun _ => rfl) _ k i hk hi
theorem rowsOf_cells {w : World} {b off : Nat} {a : Arena} {ss : List Value} (h : URow w (some ⟨b, off, none⟩) a ss) : ∀ j u, (rowsOf a ss)[j]? = some u → w.cell? ⟨b, off + j, none⟩ = some u := fun j u hj => by
  have hl := rowsOf_len a ss
  have hj' : j < a.length * 5 := by
    rcases Nat.lt_or_ge j (a.length * 5) with h | h
    · exact h
    · rw [List.getElem?_eq_none (by omega)] at hj; cases hj
  obtain ⟨k, i, hk, hi, rfl⟩ : ∃ k i, k < a.length ∧ i < 5 ∧ j = k * 5 + i := ⟨j / 5, j % 5, by omega, by omega, by omega⟩
  rw [rowsOf_at a ss k i hk hi] at hj
  obtain ⟨b', off', e, _, c0, c1, c2, c3, c4⟩ := h k hk
  simp only [Option.some.injEq, Addr.mk.injEq, and_true] at e
  obtain ⟨rfl, rfl⟩ := e
  have e : (⟨b, off + (k * 5 + i), none⟩ : Addr) = ⟨b, off + k * 5 + i, none⟩ := by rw [Nat.add_assoc]
  rw [e]
  match i, hi, hj with
  | 0, _, hj => simp [rowOfCell] at hj; rw [← hj]; exact c0
  | 1, _, hj => simp [rowOfCell] at hj; rw [← hj]; exact c1
  | 2, _, hj => simp [rowOfCell] at hj; rw [← hj]; exact c2
  | 3, _, hj => simp [rowOfCell] at hj; rw [← hj]; exact c3
  | 4, _, hj => simp [rowOfCell] at hj; rw [← hj]; exact c4
theorem rowsOf_one {w : World} {ad : Option Addr} {a : Arena} {ss : List Value} (h : URow w ad a ss) : ∀ u ∈ rowsOf a ss, u.oneCell' = true := fun u hu => by
  unfold rowsOf at hu
  obtain ⟨k, hk, hu⟩ := List.mem_flatMap.1 hu
  have hk : k < a.length := by simpa using hk
  obtain ⟨_, _, _, hs, _⟩ := h k hk
  obtain ⟨a3, c3, e3, _⟩ := hs.form
  rw [e3] at hu
  simp [rowOfCell] at hu
  rcases hu with rfl | rfl | rfl | rfl | rfl <;> rfl

end Go.Proofs.Ytiolpknfdabijaa
