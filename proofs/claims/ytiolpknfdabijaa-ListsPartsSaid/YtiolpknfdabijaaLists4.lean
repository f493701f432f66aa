/- Lists: put. -/
import Derived.Test.YtiolpknfdabijaaProg
import Derived.Test.YtiolpknfdabijaaLib
import Derived.Test.YtiolpknfdabijaaPure
import Derived.Test.YtiolpknfdabijaaMask2
import Derived.Test.YtiolpknfdabijaaVec
import Derived.Test.YtiolpknfdabijaaVec2
import Derived.Test.YtiolpknfdabijaaLib2
import Derived.Test.YtiolpknfdabijaaClone
import Derived.Test.YtiolpknfdabijaaLists
import Derived.Test.YtiolpknfdabijaaLists3
set_option linter.unusedVariables false
set_option maxRecDepth 4000
set_option linter.unusedSimpArgs false
namespace Go.Proofs.Ytiolpknfdabijaa
open Go.RowKit


def putF (place slot : Int) (i : Nat) (m : Mask) : Mask := if (i : Int) = place then mWith m slot else m
theorem lsPut_eq (l : Lists) (place slot : Int) : lsPut l place slot = ⟨l.cents, wMap (putF place slot) l.masks⟩ := rfl
set_option maxHeartbeats 1000000 in
theorem put1_any (place slot : Int) (i : Nat) (m : Mask) (Bp Bs : Nat) (w : World) (hp : w.cell? ⟨Bp, 0, none⟩ = some (.int .i64 place)) (hs : w.cell? ⟨Bs, 0, none⟩ = some (.int .i64 slot)) :
    Calls Try.prog 87 #[.int .i64 i, .agg #[.int .u64 (lo (m)), .int .u64 (hi (m))], .pointer (some ⟨Bp, 0, none⟩), .pointer (some ⟨Bs, 0, none⟩)] w fun e w' => e = .returned (.agg #[.int .u64 (lo (putF place slot i m)), .int .u64 (hi (putF place slot i m))]) ∧ Ext w w' := by
  have lp := World.block_lt_of_cell? w _ hp
  have ls := World.block_lt_of_cell? w _ hs
  dsimp only at lp ls
  have V : Hid (putF place slot i m = if (i : Int) = place then mWith m slot else m) := rfl
  have HW := fun W => With_any m slot W
  generalize putF place slot i m = r at *
  generalize mWith m slot = q at *
  generalize mWithE m slot = qe at *
  by_cases hi : (i : Int) = place
  · have d : ((i : Int) == place) = true := by simpa using hi
    have E : Hid (r = q) := by unfold Hid; rw [V.out, if_pos hi]
    clear V hi
    go_enter Try.func87, Try.ntmps87
    go_wp2_with (go_at_call 88; refine (HW _).mono ?_; rintro e W1 ⟨rfl, h1⟩; have ka := ((Blk.new' (w := w) (b := w.heap.size) (cs := #[.int .u64 (lo m), .int .u64 (hi m)]) (t := 31) rfl).alloc (.cells #[.int .u64 0, .int .u64 0] 31)).ext h1; have kr := (Blk.new' (w := w.alloc (.cells #[.int .u64 (lo m), .int .u64 (hi m)] 31)) (b := w.heap.size + 1) (cs := #[.int .u64 0, .int .u64 0]) (t := 31) (by simp)).ext h1; have ca := ka.cell; have fa := ka.frozen; have cr := kr.cell; have fr := kr.frozen; have lr := kr.lt)
    have kr2 := ((((kr.far (p := ⟨w.heap.size, 0, none⟩) (by simp) (.int .u64 (lo q))).far (p := ⟨w.heap.size, 1, none⟩) (by simp) (.int .u64 (hi q))).set_ 0 (.int .u64 (lo q))).set_ 1 (.int .u64 (hi q))).cell
    exact bodyPost_ret (v := .agg #[.int .u64 (lo (q)), .int .u64 (hi (q))]) (by simp [results, Try.results87, go_sem, kr2]) rfl ⟨by rw [E.out], (((((((Ext.refl w).alloc _).alloc _).trans h1).set (by simp) _).set (by simp) _).set (by simp) _).set (by simp) _⟩
  · have d : ((i : Int) == place) = false := by simpa using hi
    have E : Hid (r = m) := by unfold Hid; rw [V.out, if_neg hi]
    clear V hi HW
    go_enter Try.func87, Try.ntmps87
    go_wp2
    exact bodyPost_ret (v := .agg #[.int .u64 (lo (m)), .int .u64 (hi (m))]) (by simp [results, Try.results87, go_sem]) rfl ⟨by rw [E.out], ((Ext.refl w).alloc _).alloc _⟩
set_option maxHeartbeats 1000000 in
theorem lput_any (l : Lists) (place slot : Int) (cv mv : Value) (w0 w : World) (hc : VecsIn w0 w cv l.cents) (hx0 : Ext w0 w) (hm : kMask.Sl w mv l.masks) (hcn : l.cents.length ≤ 1000000) (hmn : l.masks.length ≤ 1000000) :
    Calls Try.prog 42 #[.agg #[cv, mv], .int .i64 place, .int .i64 slot] w (RetLists (lsPut l place slot) w0 w) := by
  rw [lsPut_eq]
  obtain ⟨cs, ms⟩ := l
  dsimp only at *
  have H : ∀ W, Ext w W → W.cell? ⟨w.heap.size + 1, 0, none⟩ = some (.int .i64 place) → W.cell? ⟨w.heap.size + 1 + 1, 0, none⟩ = some (.int .i64 slot) →
      Calls Try.prog 53 #[.agg #[cv, mv], .func (.func 87) #[] #[.pointer (some ⟨w.heap.size + 1, 0, none⟩), .pointer (some ⟨w.heap.size + 1 + 1, 0, none⟩)]] W (RetLists ⟨cs, wMap (putF place slot) ms⟩ w0 W) :=
    fun W hW h1 h2 => lwith_any 87 #[.pointer (some ⟨w.heap.size + 1, 0, none⟩), .pointer (some ⟨w.heap.size + 1 + 1, 0, none⟩)] (enters_of Try.func87 (by kernel_rfl) rfl) (putF place slot) ⟨cs, ms⟩ cv mv w0 W (hc.ext hW) (hx0.trans hW) (hm.ext hW) hcn hmn (fun W' i m hx _ => put1_any place slot i m _ _ W' (hx.cellS h1) (hx.cellS h2))
  obtain ⟨a1, c1, _, rfl, _⟩ := hc.out
  obtain ⟨a, c, rfl, _, _, _⟩ := hm.form
  clear hc hm
  go_enter Try.func42, Try.ntmps42
  go_wp2_with (go_at_call 53; refine (H _ ((((Ext.refl _).alloc _).alloc _).alloc _|>.alloc _) (((Blk.new' (w := w.alloc (.cells #[.slice a1 cs.length c1, .slice a ms.length c] 25)) (b := w.heap.size + 1) (cs := #[.int .i64 place]) (t := 3) (by simp)).alloc _ |>.alloc _).cell 0) (((Blk.new' (w := (w.alloc (.cells #[.slice a1 cs.length c1, .slice a ms.length c] 25)).alloc (.cells #[.int .i64 place] 3)) (b := w.heap.size + 1 + 1) (cs := #[.int .i64 slot]) (t := 3) (by simp)).alloc _).cell 0)).mono ?_; rintro e W1 ⟨v, rfl, q, h1⟩; obtain ⟨a3, c3, a4, c4, rfl⟩ := q.form; have kr := (Blk.new' (w := ((w.alloc (.cells #[.slice a1 cs.length c1, .slice a ms.length c] 25)).alloc (.cells #[.int .i64 place] 3)).alloc (.cells #[.int .i64 slot] 3)) (b := w.heap.size + 1 + 1 + 1) (cs := #[.slice none 0 0, .slice none 0 0]) (t := 25) (by simp)).ext h1; have cr := kr.cell; have fr := kr.frozen; have lr := kr.lt)
  have cr2 := ((kr.set_ 0 (.slice a3 cs.length c3)).set_ 1 (.slice a4 (wMap (putF place slot) ms).length c4)).cell
  exact bodyPost_ret (v := .agg #[.slice a3 cs.length c3, .slice a4 (wMap (putF place slot) ms).length c4]) (by simp [results, Try.results42, go_sem, cr2]) rfl ⟨_, rfl, ((q.set (by simp) _).set (by simp) _).mono (by simp; omega), (((((((Ext.refl w).alloc _).alloc _).alloc _).alloc _).trans h1).set (by simp; omega) _).set (by simp; omega) _⟩

end Go.Proofs.Ytiolpknfdabijaa
