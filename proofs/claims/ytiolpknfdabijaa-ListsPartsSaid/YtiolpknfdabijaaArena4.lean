/- Arenas: how many places are free. -/
import Derived.Test.YtiolpknfdabijaaProg
import Derived.Test.YtiolpknfdabijaaLib
import Derived.Test.YtiolpknfdabijaaPure
import Derived.Test.YtiolpknfdabijaaPop
import Derived.Test.YtiolpknfdabijaaMask
import Derived.Test.YtiolpknfdabijaaMask2
import Derived.Test.YtiolpknfdabijaaVec
import Derived.Test.YtiolpknfdabijaaVec2
import Derived.Test.YtiolpknfdabijaaIter
import Derived.Test.YtiolpknfdabijaaVec3
import Derived.Test.YtiolpknfdabijaaArena
import Derived.Test.YtiolpknfdabijaaArena2
import Derived.Test.YtiolpknfdabijaaArena3
import Derived.Test.YtiolpknfdabijaaLib2
set_option linter.unusedVariables false
set_option maxRecDepth 4000
set_option linter.unusedSimpArgs false
namespace Go.Proofs.Ytiolpknfdabijaa
open Go.RowKit

attribute [local go_sem] Oper.semAt_some

theorem ext_grown {w w' : World} (h : Ext w w') : w.grownBy w' none := ⟨h.os, h.tape, h.output, h.size, fun i hi _ => h.block i hi⟩
theorem used_stops (n : Nat) (hn : 1 ≤ n) (B n₀ : Nat) (a : Arena) (ss : List Value) (ad : Option Addr) (c : Nat) (w0 w : World) (hs : w0.heap.size = n₀) (hE : Ext w0 w) (hU : URow w0 ad a ss) (hl : a.length ≤ 140737488351232) (hb : Blk w B #[.slice ad a.length c] 39) :
    SeqStopsK Fence.wide n Try.prog 89 #[.pointer (some ⟨B, 0, none⟩)] uEnc (Below n₀) (fun zs => zs = uItems a ss a.length) (fun pre => pre <+: uItems a ss a.length) (uItems a ss a.length).length w :=
  fun l J Jx W hW hA _ hY h0 => used1_in n hn l B n₀ a ss ad c J Jx W (fun s A A' h e => hA s A A' none h (ext_grown e) (by simp)) hY ⟨w0, hs, hE.trans hW, hU⟩ hl (hb.ext hW) h0
def arFree (a : Arena) : Int := if arOk a then 96 - ((List.range a.length).countP fun i => (a.getD i cellNone).used) else 0
theorem uItems_len (a : Arena) (ss : List Value) (k : Nat) : (uItems a ss k).length = (List.range k).countP fun i => (a.getD i cellNone).used := by
  unfold uItems; rw [List.length_map, List.countP_eq_length_filter]
theorem arFree_cases (a : Arena) (ss : List Value) : (arErr a = 190 ∧ arFree a = 0) ∨ (arErr a = 0 ∧ a.length = 96 ∧ arFree a = 96 - ((uItems a ss a.length).length : Int)) := by
  unfold arErr arFree
  rw [uItems_len]
  cases h : arOk a with
  | false => simp
  | true =>
    have : a.length = 96 := by unfold arOk at h; simp at h; exact h.1
    simp [this]
set_option maxRecDepth 100000 in
set_option maxHeartbeats 2000000 in
theorem free_any (a : Arena) (v : Value) (w : World) (h : kCell.Sl w v a) : Calls Try.prog 15 #[.agg #[v]] w fun r w' => r = .returned (.int .i64 (arFree a)) ∧ Ext w w' := by
  have hh := h
  obtain ⟨ad, c, rfl, hc, hl, hr⟩ := h.form
  obtain ⟨ss, hU⟩ := URow.of hr
  have H := fun W (hx : Ext w W) => arCheck_any a _ W (hh.ext hx)
  clear h hh hr
  rcases arFree_cases a ss with ⟨e1, e2⟩ | ⟨e1, hn, e2⟩
  · rw [e1] at H
    have E : Hid _ := e2
    clear e1 e2 hU
    go_enter Try.func15, Try.ntmps15
    go_wp2_with (go_at_call 38; refine (H _ ((Ext.refl _).alloc _)).mono ?_; rintro y w' ⟨rfl, hx⟩; have cb := ((Blk.new' (w := w) (b := w.heap.size) (cs := #[.slice ad a.length c]) (t := 39) rfl).ext hx).cell)
    go_ret
    exact ⟨ret_int E.out.symm, ((Ext.refl _).alloc _).trans hx⟩
  · rw [e1] at H
    have E : Hid _ := e2
    have hlen : (uItems a ss a.length).length ≤ 96 := by
      rw [uItems_len, hn]
      exact Nat.le_trans List.countP_le_length (by simp)
    clear e1 e2 hn
    have fb : Fence.wide.fn 44 := trivial
    have fb2 : Fence.wide.fn 38 := trivial
    refine (callsIn_wide (n := 10)).1 ?_
    refine callsIn_of_wp_marks Try.func15 rfl trivial ?_ rfl
    simp only [Try.ntmps15, List.size_toArray, List.length_cons, List.length_nil, Nat.reduceAdd, Nat.reduceSub, Array.replicate_succ, Array.replicate_zero, List.push_toArray, List.append_toArray, List.nil_append, List.cons_append]
    gi_wp2_with (first | (gi_at_call 38; refine ((callsIn_wide (n := 9)).2 (H _ ((Ext.refl _).alloc _))).mono ?_; rintro y W1 ⟨rfl, hx⟩; have cb := ((Blk.new' (w := w) (b := w.heap.size) (cs := #[.slice ad a.length c]) (t := 39) rfl).ext hx).cell; have lb := ((Blk.new' (w := w) (b := w.heap.size) (cs := #[.slice ad a.length c]) (t := 39) rfl).ext hx).lt) | (gi_at_call 44; refine ((callsIn_wide (n := 9)).2 (used_fn _ _)).mono ?_; rintro e w' ⟨rfl, rfl⟩))
    refine namedIn fun W0 hW0 => ?_
    have kn : Blk W0 W1.heap.size #[.int .i64 (96 - (([] : List UItem).length : Int))] 3 := Blk.of_eq hW0 ((Blk.new' (by simp)).alloc _)
    have kb : Blk W0 (W1.heap.size + 1) #[.slice ad a.length c] 39 := Blk.of_eq hW0 (Blk.new' (by simp))
    have hB : Ext w W0 := Ext.of_eq hW0 (((((Ext.refl _).alloc _).trans hx).alloc _).alloc _)
    have hx1 := hx.le
    simp only [World.size_alloc] at hx1
    clear hW0 cb H hx
    refine wpIn_rangeFunc_ownG rfl (by omega) (gf := 89) (lb := #[.pointer (some ⟨W1.heap.size + 1, 0, none⟩)]) rfl trivial (enters_of Try.func89 (by kernel_rfl) rfl)
      (used_stops 9 (by omega) (W1.heap.size + 1) w.heap.size a ss ad c w W0 rfl hB hU hl kb) belowK_t (belowK_b hB.le) (Below.refl _ _) (fun _ => rfl)
      (fun pre W => Blk W W1.heap.size #[.int .i64 (96 - (pre.length : Int))] 3 ∧ Ext w W)
      (fun _ _ _ => False)
      (fun s A B row hs hg hr => ⟨hs.1.grown hg hr kn.lt, hs.2.grown hg hr hB.le⟩) (fun _ _ _ _ _ hs _ _ => hs) ⟨kn, hB⟩
      (fun x => { tmps := #[.agg #[.slice ad a.length c], .pointer (some ⟨w.heap.size, 0, none⟩), .int .i64 0, .pointer (some ⟨W1.heap.size, 0, none⟩), .agg #[.slice ad a.length c], .int .i64 0, .bool false, .agg #[.slice ad a.length c], .func (.func 89) #[] #[.pointer (some ⟨W1.heap.size + 1, 0, none⟩)], .int .i64 x.1, .agg #[.bool x.2.1.used, .int .u64 x.2.1.id, .int .u64 x.2.1.ver.b, .int .u64 x.2.1.ver.e, x.2.2], undef, undef, undef], defers := [] }) ?assign ?body ?done ?stop
    case assign =>
      intro l x W K hK
      unfold uEnc
      gi_wp2
      simpa using hK
    case body =>
      rintro l pre ⟨x, y⟩ W ⟨kb, hE⟩ hlt
      have cb := kb.cell; have fb := kb.frozen
      have hp : pre.length ≤ 95 := by omega
      dsimp only
      gi_wp2
      exact ⟨keepsFrom_set kn.lt, Below.setCell (Below.refl _ _) (by simp; omega) _, by rw [List.length_append]; have := kb.set_ 0 (.int .i64 (96 - (pre.length : Int) - 1)); simpa [Int.sub_sub] using this, hE.set (by simp; omega) _⟩
    case done =>
      rintro D zs W hD rfl ⟨kb, hE⟩ hK
      have cb := kb.cell
      gi_wp2
      refine ⟨by simp, .inl ⟨_, _, rfl, run_takeDeferred hK, ?_⟩⟩
      refine ⟨_, results_tmp rfl _ _ _, ?_, Below.trans hE (belowK_b (w := w) (Nat.le_refl _) W D _ _ (Nat.le_trans hB.le hD) hK rfl rfl)⟩
      have E2 := ret_int (k := .i64) E.out.symm
      simpa using E2
    case stop =>
      rintro D c' pre W _ _ h _
      exact h.elim

end Go.Proofs.Ytiolpknfdabijaa
