/- Arenas: a copy. -/
import Derived.Test.YtiolpknfdabijaaProg
import Derived.Test.YtiolpknfdabijaaLib
import Derived.Test.YtiolpknfdabijaaPure
import Derived.Test.YtiolpknfdabijaaVec
import Derived.Test.YtiolpknfdabijaaVec2
import Derived.Test.YtiolpknfdabijaaIter
import Derived.Test.YtiolpknfdabijaaVec3
import Derived.Test.YtiolpknfdabijaaArena
import Derived.Test.YtiolpknfdabijaaArena2
import Derived.Test.YtiolpknfdabijaaArena3
import Derived.Test.YtiolpknfdabijaaClone
import Derived.Test.YtiolpknfdabijaaArena6
import Derived.Test.YtiolpknfdabijaaLib2
set_option linter.unusedVariables false
set_option maxRecDepth 4000
set_option linter.unusedSimpArgs false
namespace Go.Proofs.Ytiolpknfdabijaa
open Go.RowKit


/-- An arena's row of the call's own: its block holds the cells, and room. -/
structure OwnRow (w : World) (n₀ g n cap : Nat) (xs : List Value) (cur : Array Value) : Prop where
  blk : Blk w g cur 50
  base : n₀ ≤ g
  len : n ≤ cap
  max : cap ≤ maxLen
  size : cur.size = cap * 5
  row : cur.toList.take (n * 5) = xs
set_option maxHeartbeats 1000000 in
theorem copied_any (a : Arena) (ss : List Value) (b off c : Nat) (w : World) (hU : URow w (some ⟨b, off, none⟩) a ss) (hn : a.length = 96) :
    Calls Try.prog 70 #[.agg #[.slice (some ⟨b, off, none⟩) a.length c]] w fun e w' => ∃ g cap cur, e = .returned (.agg #[.slice (some ⟨g, 0, none⟩) a.length cap]) ∧ OwnRow w' w.heap.size g a.length cap (rowsOf a ss) cur ∧ Ext w w' := by
  have hU2 := hU.ext (((Ext.refl w).alloc (.cells #[.slice (some ⟨b, off, none⟩) a.length c] 39)).alloc (.cells #[.slice none 0 0] 39))
  have H := clone_cell b off a.length c (rowsOf a ss) _ (rowsOf_len a ss) (rowsOf_cells hU2) (rowsOf_one hU2) (by omega)
  have hB := ((Ext.refl w).alloc (.cells #[.slice (some ⟨b, off, none⟩) a.length c] 39)).alloc (.cells #[.slice none 0 0] 39)
  clear hU hU2
  generalize rowsOf a ss = xs at *
  generalize a.length = n at *
  have hpos : 0 < n := by omega
  clear hn
  go_enter Try.func70, Try.ntmps70
  go_wp2_with (go_at_call 101; refine H.mono ?_; rintro e w' ⟨v', rfl, hown, hne, hx⟩; have kr := (Blk.new' (w := w.alloc (.cells #[.slice (some ⟨b, off, none⟩) n c] 39)) (b := w.heap.size + 1) (cs := #[.slice none 0 0]) (t := 39) (by simp)).ext hx; have cr := kr.cell; have fr := kr.frozen; obtain ⟨g, cap, rfl, _⟩ := own_form hown (by omega))
  have c2 := (kr.set_ 0 (.slice (some ⟨g, 0, none⟩) n cap)).cell
  obtain ⟨g', cap', cur, e1, hb, hh, h1, h2, h3, h4⟩ := hown.2.resolve_left (by simp)
  injection e1 with e1 _ e3
  injection e1 with e1
  injection e1 with e1 _ _
  subst e1 e3
  have hg : w.heap.size + 1 < g := by simp at hb; omega
  exact bodyPost_ret (v := .agg #[.slice (some ⟨g, 0, none⟩) n cap]) (by simp [results, Try.results70, go_sem, c2]) rfl ⟨g, cap, cur, rfl, ⟨(⟨hh⟩ : Blk w' g cur 50).far (by simp; omega) _, by omega, h1, h2, h3, h4⟩, (hB.trans hx).set (by simp) _⟩

end Go.Proofs.Ytiolpknfdabijaa
