/- Lists: Where. -/
import Derived.Test.YtiolpknfdabijaaProg
import Derived.Test.YtiolpknfdabijaaLib
import Derived.Test.YtiolpknfdabijaaPure
import Derived.Test.YtiolpknfdabijaaPop
import Derived.Test.YtiolpknfdabijaaMask
import Derived.Test.YtiolpknfdabijaaMask2
import Derived.Test.YtiolpknfdabijaaVec
import Derived.Test.YtiolpknfdabijaaVec2
import Derived.Test.YtiolpknfdabijaaIter
import Derived.Test.YtiolpknfdabijaaVec3
import Derived.Test.YtiolpknfdabijaaLib2
import Derived.Test.YtiolpknfdabijaaLists
import Derived.Test.YtiolpknfdabijaaLists2
import Derived.Test.YtiolpknfdabijaaLists7
set_option linter.unusedVariables false
set_option maxRecDepth 4000
set_option linter.unusedSimpArgs false
namespace Go.Proofs.Ytiolpknfdabijaa
open Go.RowKit

attribute [local go_sem] Oper.semAt_some

theorem having_stops (n : Nat) (hn : 1 ≤ n) (B1 B2 n₀ : Nat) (ms : List Mask) (slot : Int) (cv mv : Value) (w0 w : World) (hs : w0.heap.size = n₀) (hE : Ext w0 w) (hm : kMask.Sl w0 mv ms) (hb1 : Blk w B1 #[cv, mv] 25) (hb2 : Blk w B2 #[.int .i64 slot] 3) :
    SeqStopsK Fence.wide n Try.prog 90 #[.pointer (some ⟨B1, 0, none⟩), .pointer (some ⟨B2, 0, none⟩)] (fun x : Int => #[Value.int .i64 x]) (KpB n₀ [B2]) (fun zs => zs = hItems ms slot ms.length) (fun pre => pre <+: hItems ms slot ms.length) (hItems ms slot ms.length).length w :=
  fun l J Jx W hW hA _ hY h0 => having1_in n hn l B1 B2 n₀ ms slot cv mv J Jx W hY (fun s A A' h e => hA s A A' none h (ext_grown' e) (by simp)) ⟨w0, hs, hE.trans hW, hm⟩ (hb1.ext hW) (hb2.ext hW) h0
set_option maxRecDepth 100000 in
set_option maxHeartbeats 2000000 in
theorem where_any (l : Lists) (slot : Int) (cv mv : Value) (w : World) (hc : kVec.Sl w cv l.cents) (hm : kMask.Sl w mv l.masks) :
    Calls Try.prog 16 #[.agg #[cv, mv], .int .i64 slot] w fun e w' => e = .returned (.tuple #[.int .i64 (lsWhereN l slot), .bool (lsWhereB l slot)]) ∧ Ext w w' := by
  have HK := fun W (hx : Ext w W) => lcheck_any l cv mv W (hc.ext hx) (hm.ext hx)
  have hm0 := hm
  obtain ⟨a1, c1, rfl, _, _, _⟩ := hc.form
  obtain ⟨a, c, rfl, _, _, _⟩ := hm.form
  have kl0 := ((Blk.new' (w := w) (b := w.heap.size) (cs := #[.slice a1 l.cents.length c1, .slice a l.masks.length c]) (t := 25) rfl).alloc (.cells #[.int .i64 0] 3)).alloc (.cells #[.bool false] 4)
  have kn0 := (Blk.new' (w := w.alloc (.cells #[.slice a1 l.cents.length c1, .slice a l.masks.length c] 25)) (b := w.heap.size + 1) (cs := #[.int .i64 0]) (t := 3) (by simp)).alloc (.cells #[.bool false] 4)
  have kb0 := Blk.new' (w := (w.alloc (.cells #[.slice a1 l.cents.length c1, .slice a l.masks.length c] 25)).alloc (.cells #[.int .i64 0] 3)) (b := w.heap.size + 1 + 1) (cs := #[.bool false]) (t := 4) (by simp)
  clear hc hm
  cases h0 : lsOk l with
  | false =>
    have E : Hid (lsWhereB l slot = false ∧ lsWhereN l slot = 0) := by unfold Hid lsWhereB lsWhereN lsWhere; rw [h0]; exact ⟨rfl, rfl⟩
    have e0 : lsErr l = 230 := by unfold lsErr; rw [h0]; rfl
    rw [e0] at HK
    clear h0 e0 hm0
    generalize l.cents.length = n1 at *
    generalize l.masks.length = n2 at *
    go_enter Try.func16, Try.ntmps16
    go_wp2_with (go_at_call 34; refine (HK _ ((((Ext.refl _).alloc _).alloc _).alloc _)).mono ?_; rintro y W1 ⟨rfl, hx⟩; have kn := kn0.ext hx; have kb := kb0.ext hx; have cn := kn.cell; have fn := kn.frozen; have cb := kb.cell; have fb := kb.frozen)
    have cn2 := ((kn.set_ 0 (.int .i64 0)).far (p := ⟨w.heap.size + 1 + 1, 0, none⟩) (by simp) (.bool false)).cell
    have cb2 := ((kb.far (p := ⟨w.heap.size + 1, 0, none⟩) (by simp) (.int .i64 0)).set_ 0 (.bool false)).cell
    exact bodyPost_ret (v := .tuple #[.int .i64 0, .bool false]) (by simp [results, Try.results16, go_sem, cn2, cb2]) rfl ⟨by rw [E.out.1, E.out.2], ((((((Ext.refl w).alloc _).alloc _).alloc _).trans hx).set (by simp) _).set (by simp; omega) _⟩
  | true =>
    have e0 : lsErr l = 0 := by unfold lsErr; rw [h0]; rfl
    rw [e0] at HK
    have EC : Hid _ := where_cases (slot := slot) h0
    clear h0 e0
    have fb1 : Fence.wide.fn 45 := trivial
    have fb2 : Fence.wide.fn 34 := trivial
    generalize hn2 : l.cents.length = n1 at *
    clear hn2
    refine (callsIn_wide (n := 10)).1 ?_
    refine callsIn_of_wp_marks Try.func16 rfl trivial ?_ rfl
    simp only [Try.ntmps16, List.size_toArray, List.length_cons, List.length_nil, Nat.reduceAdd, Nat.reduceSub, Array.replicate_succ, Array.replicate_zero, List.push_toArray, List.append_toArray, List.nil_append, List.cons_append]
    gi_wp2_with (first | (gi_at_call 34; refine ((callsIn_wide (n := 9)).2 (HK _ ((((Ext.refl _).alloc _).alloc _).alloc _))).mono ?_; rintro y W1 ⟨rfl, hx⟩; have kl := kl0.ext hx; have kn := kn0.ext hx; have kb := kb0.ext hx; have cl := kl.cell; have ll := kl.lt) | (gi_at_call 45; refine ((callsIn_wide (n := 9)).2 (having_fn _ _ _ ⟨_, _, _, _, _, _, rfl⟩)).mono ?_; rintro e w' ⟨rfl, rfl⟩))
    refine namedIn fun W2 hW2 => ?_
    have hx1 := hx.le
    simp only [World.size_alloc] at hx1
    have k1 : Blk W2 W1.heap.size #[.slice a1 n1 c1, .slice a l.masks.length c] 25 := Blk.of_eq hW2 ((Blk.new' rfl).alloc _)
    have k2 : Blk W2 (W1.heap.size + 1) #[.int .i64 slot] 3 := Blk.of_eq hW2 (Blk.new' (by simp))
    replace kn : Blk W2 (w.heap.size + 1) #[.int .i64 0] 3 := Blk.of_eq hW2 ((kn.alloc _).alloc _)
    replace kb : Blk W2 (w.heap.size + 1 + 1) #[.bool false] 4 := Blk.of_eq hW2 ((kb.alloc _).alloc _)
    have hB : Ext w W2 := Ext.of_eq hW2 (((((((Ext.refl _).alloc _).alloc _).alloc _).trans hx).alloc _).alloc _)
    clear hW2 hx kl kl0 kn0 kb0 cl ll HK
    have hst := having_stops 9 (by omega) W1.heap.size (W1.heap.size + 1) w.heap.size l.masks slot _ _ w W2 rfl hB hm0 k1 k2
    obtain ⟨E0, E1⟩ := EC.out
    have E0 : Hid _ := E0
    have E1 : Hid _ := E1
    clear EC
    generalize hItems l.masks slot l.masks.length = items at *
    refine wpIn_rangeFunc_ownG rfl (by omega) (gf := 90) (lb := #[.pointer (some ⟨W1.heap.size, 0, none⟩), .pointer (some ⟨W1.heap.size + 1, 0, none⟩)]) rfl trivial (enters_of Try.func90 (by kernel_rfl) rfl)
      hst KpB.t (KpB.b hB.le (by have := k2.lt; simp; omega)) (Below.refl _ _) (fun _ => rfl)
      (fun pre W => pre = [] ∧ Blk W (w.heap.size + 1) #[.int .i64 0] 3 ∧ Blk W (w.heap.size + 1 + 1) #[.bool false] 4 ∧ Ext w W)
      (fun c pre W => c = .ret ∧ ∃ x : Int, pre = [x] ∧ Blk W (w.heap.size + 1) #[.int .i64 x] 3 ∧ Blk W (w.heap.size + 1 + 1) #[.bool true] 4 ∧ Ext w W)
      (fun s A B row hs hg hr => ⟨hs.1, hs.2.1.grown hg hr (by have := kb.lt; omega), hs.2.2.1.grown hg hr kb.lt, hs.2.2.2.grown hg hr hB.le⟩)
      (fun c s A B row hs hg hr => by
        obtain ⟨hc, x, h0, h1, h2, h3⟩ := hs
        exact ⟨hc, x, h0, h1.grown hg hr (by have := kb.lt; omega), h2.grown hg hr kb.lt, h3.grown hg hr hB.le⟩)
      ⟨rfl, kn, kb, hB⟩
      (fun x => { tmps := #[.agg #[.slice a1 n1 c1, .slice a l.masks.length c], .int .i64 slot, .pointer (some ⟨w.heap.size, 0, none⟩), undef, .pointer (some ⟨w.heap.size + 1, 0, none⟩), .pointer (some ⟨w.heap.size + 1 + 1, 0, none⟩), .int .i64 x, .agg #[.slice a1 n1 c1, .slice a l.masks.length c], .int .i64 0, .bool false, .agg #[.slice a1 n1 c1, .slice a l.masks.length c], .int .i64 slot, .func (.func 90) #[] #[.pointer (some ⟨W1.heap.size, 0, none⟩), .pointer (some ⟨W1.heap.size + 1, 0, none⟩)], .int .i64 x, undef], defers := [] }) ?assign ?body ?done ?stop
    case assign =>
      intro l x W K hK
      gi_wp2
      exact hK
    case body =>
      rintro l pre x W ⟨rfl, b1, b2, hE⟩ _
      have c1 := b1.cell; have f1 := b1.frozen
      have c2 := b2.cell; have f2 := b2.frozen
      gi_wp2
      exact ⟨keepsFrom_trans (keepsFrom_set (by have := kb.lt; simp; omega)) (keepsFrom_set kb.lt), rfl, x, rfl, (b1.set_ 0 _).far (by simp) _, (b2.far (by simp) _).set_ 0 _, (hE.set (by simp) _).set (by simp; omega) _⟩
    case done =>
      rintro D zs W hD rfl ⟨hz, b1, b2, hE⟩ hK
      have c1 := b1.cell; have f1 := b1.frozen
      have c2 := b2.cell; have f2 := b2.frozen
      have EE : Hid _ := E0.out hz
      clear E0 E1 hst
      gi_wp2
      go_wp2
      have q1 := (b1.set_ 0 (.int .i64 0)).far (p := ⟨w.heap.size + 1 + 1, 0, none⟩) (by simp) (.bool false)
      have q2 := (b2.far (p := ⟨w.heap.size + 1, 0, none⟩) (by simp) (.int .i64 0)).set_ 0 (.bool false)
      have hK' := (keepsFrom_trans (n := W2.heap.size) (keepsFrom_set (W := W) (p := ⟨w.heap.size + 1, 0, none⟩) (u := .int .i64 0) (by have := kb.lt; simp; omega)) (keepsFrom_set (p := ⟨w.heap.size + 1 + 1, 0, none⟩) (u := .bool false) kb.lt)).same D _ hD hK rfl
      have r1 := (q1.putObj' (D := D) (.deferred none) (by have := kb.lt; omega)).cell
      have r2 := (q2.putObj' (D := D) (.deferred none) (by have := kb.lt; omega)).cell
      refine ⟨by simp, .inl ⟨_, _, rfl, run_takeDeferred hK', ?_⟩⟩
      refine ⟨.tuple #[.int .i64 0, .bool false], by simp [results, Try.results16, go_sem, r1, r2], by rw [EE.out.1, EE.out.2], ?_⟩
      exact Below.trans ((hE.set (by simp) _).set (by simp; omega) _) (belowK_b (w := w) (Nat.le_refl _) _ D _ _ (Nat.le_trans hB.le hD) hK' rfl rfl)
    case stop =>
      rintro D c pre W hD hp ⟨rfl, x, rfl, b1, b2, hE⟩ hK
      have c1 := b1.cell
      have c2 := b2.cell
      have EE : Hid _ := E1.out _ hp
      clear E0 E1 hst
      gi_wp2
      have r1 := (b1.putObj' (D := D) (.deferred none) (by have := kb.lt; omega)).cell
      have r2 := (b2.putObj' (D := D) (.deferred none) (by have := kb.lt; omega)).cell
      refine ⟨by simp, .inl ⟨_, _, rfl, run_takeDeferred hK, ?_⟩⟩
      refine ⟨.tuple #[.int .i64 x, .bool true], by simp [results, Try.results16, go_sem, r1, r2], by rw [EE.out.1, EE.out.2], ?_⟩
      exact Below.trans hE (belowK_b (w := w) (Nat.le_refl _) W D _ _ (Nat.le_trans hB.le hD) hK rfl rfl)

end Go.Proofs.Ytiolpknfdabijaa
