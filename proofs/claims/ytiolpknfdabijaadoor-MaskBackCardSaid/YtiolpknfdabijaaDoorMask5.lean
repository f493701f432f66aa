/- Slots and Next: loops over an iterator. -/
import Derived.Test.YtiolpknfdabijaaDoorProg
import Derived.Test.YtiolpknfdabijaaDoorLib
import Derived.Test.YtiolpknfdabijaaDoorPure
import Derived.Test.YtiolpknfdabijaaDoorPop
import Derived.Test.YtiolpknfdabijaaDoorMask
import Derived.Test.YtiolpknfdabijaaDoorMask2
import Derived.Test.YtiolpknfdabijaaDoorIter
import Derived.Test.YtiolpknfdabijaaDoorSlots
import Derived.Test.YtiolpknfdabijaaDoorMask3
import Derived.Test.YtiolpknfdabijaaDoorMask4
set_option linter.unusedVariables false
set_option linter.unusedSimpArgs false
namespace Go.Proofs.YtiolpknfdabijaaDoor
open Go.RowKit

attribute [local go_sem] Oper.semAt_some

theorem ext_grown {w w' : World} (h : Ext w w') : w.grownBy w' none := ⟨h.os, h.tape, h.output, h.size, fun i hi _ => h.block i hi⟩
theorem slots_stops (n : Nat) (hn : 1 ≤ n) (B n₀ : Nat) (m : Mask) (w0 w : World) (hs : w0.heap.size = n₀) (hE : Ext w0 w) (hT : Tab w0) (hb : Blk w B #[.int .u64 (lo m), .int .u64 (hi m)] 25) :
    SeqStopsK Fence.wide n Tryd.prog 40 #[.pointer (some ⟨B, 0, none⟩)] (fun x : Int => #[Value.int .i64 x]) (Below n₀) (fun zs => zs = mSlots m) (fun pre => pre <+: mSlots m) (mSlots m).length w :=
  fun l J Jx W hW hA _ hY h0 => slots1_in n hn l B n₀ m J Jx W (fun s A A' h e => hA s A A' none h (ext_grown e) (by simp)) hY ⟨w0, hs, hE.trans hW, hT⟩ (hb.ext hW) h0
theorem int_info : (Tryd.prog.info? 3).map (fun i => (i.zero, i.size, i.bytes)) = some (some (.int .i64 0), 1, 8) := by kernel_rfl
set_option maxRecDepth 100000 in
set_option maxHeartbeats 2000000 in
theorem Slots_any (m : Mask) (w : World) (hT : Tab w) : Calls Tryd.prog 8 #[.agg #[.int .u64 (lo (m)), .int .u64 (hi (m))]] w fun e w' => ∃ v, e = .returned v ∧ w'.ownsRow w.heap.size 3 1 v (mSlots m).length ((mSlots m).map (Value.int .i64)) ∧ (v = .slice none 0 0 ↔ mSlots m = []) ∧ Ext w w' := by
  obtain ⟨i0, hinf, hz0, hz1, hz2⟩ := info_parts int_info
  have hlen := slots_len m
  have hmax : 1000 ≤ maxLen := by decide
  have fb : Fence.wide.fn 21 := trivial
  refine (callsIn_wide (n := 10)).1 ?_
  refine callsIn_of_wp_marks Tryd.func8 rfl trivial ?_ rfl
  simp only [Tryd.ntmps8, List.size_toArray, List.length_cons, List.length_nil, Nat.reduceAdd, Nat.reduceSub, Array.replicate_succ, Array.replicate_zero, List.push_toArray, List.append_toArray, List.nil_append, List.cons_append]
  gi_wp2_with (gi_at_call 21; refine ((callsIn_wide (n := 9)).2 (slots_fn _ _)).mono ?_; rintro e w' ⟨rfl, rfl⟩)
  refine namedIn fun W0 hW0 => ?_
  have bO : Boxed W0 (w.heap.size + 1) 22 (.slice none 0 0) := by
    have h : W0 = _ := hW0
    rw [h]
    have := (Boxed.new (w.alloc (.cells #[.int .u64 (lo m), .int .u64 (hi m)] 25)) 22 (.slice none 0 0)).alloc (.cells #[.int .u64 (lo m), .int .u64 (hi m)] 25)
    rw [World.size_alloc] at this
    exact this
  have kb : Blk W0 (w.heap.size + 1 + 1) #[.int .u64 (lo m), .int .u64 (hi m)] 25 := Blk.of_eq hW0 (Blk.new' (by simp))
  have hB : Ext w W0 := Ext.of_eq hW0 ((((Ext.refl _).alloc _).alloc _).alloc _)
  have hs0 : w.heap.size + 1 + 1 < W0.heap.size := kb.lt
  clear hW0
  refine wpIn_rangeFunc_ownG rfl (by omega) (gf := 40) (lb := #[.pointer (some ⟨w.heap.size + 1 + 1, 0, none⟩)]) rfl trivial (enters_of Tryd.func40 (by kernel_rfl) rfl)
    (slots_stops 9 (by omega) (w.heap.size + 1 + 1) w.heap.size m w W0 rfl hB hT kb) belowK_t (belowK_b (by omega)) (Below.refl _ _) (fun _ => rfl)
    (fun pre W => (∃ v, Boxed W (w.heap.size + 1) 22 v ∧ W.ownsRow w.heap.size 3 1 v pre.length (pre.map (Value.int .i64)) ∧ (v = .slice none 0 0 ↔ pre = [])) ∧ Below w.heap.size w W)
    (fun _ _ _ => False)
    (OwnFrom.and (Own.from (holdsRow_own w.heap.size (w.heap.size + 1) 22 3 1 (fun pre : List Int => pre.length) (fun pre => pre.map (Value.int .i64)) (fun pre v => v = .slice none 0 0 ↔ pre = [])) _) (ownFrom_below (Nat.le_refl _) (by omega)))
    (fun _ _ _ _ _ hs _ _ => hs)
    ⟨⟨_, bO, World.ownsRow_nil _ _ _ _, by simp⟩, hB⟩
    (fun x => { tmps := #[.agg #[.int .u64 (lo (m)), .int .u64 (hi (m))], .pointer (some ⟨w.heap.size, 0, none⟩), .slice none 0 0, .pointer (some ⟨w.heap.size + 1, 0, none⟩), .int .i64 x, .agg #[.int .u64 (lo (m)), .int .u64 (hi (m))], .func (.func 40) #[] #[.pointer (some ⟨w.heap.size + 1 + 1, 0, none⟩)], .int .i64 x, undef, undef, undef, undef, undef], defers := [] }) ?assign ?body ?done ?stop
  case assign =>
    intro l x W K hK
    gi_wp2
    exact hK
  case body =>
    rintro l pre x W ⟨⟨v, hv, hrow, hnil⟩, hB⟩ hlt
    have hc := hv.cell
    gi_wp2_with (gi_at_builtin; refine wpListIn_append_own _ rfl _ _ 22 rfl w.heap.size 3 i0 (.int .i64 0) 1 8 Tryd.underlying22 hinf hz0 hz1 hz2 rfl (by decide) _ _ _ rfl (hrow.alloc _) ⟨W.heap.size, 0, none⟩ 1 1 [.int .i64 x] rfl rfl (cell_one_new _ _ _) (by simp [Value.oneCell']) (by omega) (by omega) (by have := hB.size; simp; omega) ?_; intro v' w1 hown' hgrow _; obtain ⟨g', cap', rfl⟩ := ownsRow_succ hown'; obtain ⟨hv1, hv2, hr2, hk2, hb2⟩ := hv.appended (by decide) hrow hB.size (by omega) hown' hgrow; have hc1 := hv1.cell; have hf1 := hv1.frozen)
    exact ⟨hk2.from _, hb2, ⟨_, hv2, by simpa using hr2, by simp⟩, hB.trans hb2⟩
  case done =>
    rintro D ys W hD rfl ⟨⟨v, hv, hrow, hnil⟩, hB⟩ hK
    have hc := hv.cell
    gi_wp2
    refine ⟨by simp, .inl ⟨_, _, rfl, run_takeDeferred hK, ?_⟩⟩
    exact ⟨_, results_tmp rfl _ _ _, v, rfl, ownsRow_putObj hrow _ hK rfl, hnil, hB.trans (belowK_b (w := w) (Nat.le_refl _) W D _ _ (by omega) hK rfl rfl)⟩
  case stop =>
    rintro D c pre W _ _ h _
    exact h.elim
theorem Blk.putObj {W : World} {b D : Nat} {cs : Array Value} {t : TypeId} (h : Blk W b cs t) (o : Obj) (hne : b ≠ D) : Blk (W.putObj D o) b cs t := ⟨(World.putObj_heap_other hne).trans h.out⟩
def mRest (m : Mask) (n : Int) : Mask := m &&& ~~~mBelow n.toNat
def mNextB (m : Mask) (n : Int) : Bool := !(mSlots (mRest m n)).isEmpty
def mNextN (m : Mask) (n : Int) : Int := (mSlots (mRest m n)).headD 0
theorem next_none {m : Mask} {n : Int} (h : mSlots (mRest m n) = []) : mNextB m n = false ∧ mNextN m n = 0 := by unfold mNextB mNextN; rw [h]; exact ⟨rfl, rfl⟩
theorem next_some {m : Mask} {n x : Int} (h : [x] <+: mSlots (mRest m n)) : mNextB m n = true ∧ mNextN m n = x := by
  obtain ⟨t, ht⟩ := h
  unfold mNextB mNextN; rw [← ht]; exact ⟨rfl, rfl⟩
theorem ret_next {a c : Int} {b d : Bool} (h : a = c) (h' : b = d) : Ending.returned (.tuple #[.int .i64 a, .bool b]) = .returned (.tuple #[.int .i64 c, .bool d]) := by rw [h, h']
set_option maxRecDepth 100000 in
set_option maxHeartbeats 2000000 in
theorem Next_any (m : Mask) (n : Int) (hn0 : 0 ≤ n) (hn1 : n ≤ 96) (w : World) (hT : Tab w) : Calls Tryd.prog 11 #[.agg #[.int .u64 (lo (m)), .int .u64 (hi (m))], .int .i64 n] w fun e w' => e = .returned (.tuple #[.int .i64 (mNextN m n), .bool (mNextB m n)]) ∧ Ext w w' := by
  have hb : ∀ w, Calls Tryd.prog 25 #[.int .i64 (if n < 0 then 0 else n)] w fun e w' => e = .returned (.agg #[.int .u64 (lo (mBelow n.toNat)), .int .u64 (hi (mBelow n.toNat))]) ∧ Ext w w' := by rw [if_neg (by omega)]; exact fun w => below_any n hn0 hn1 w
  refine (callsIn_wide (n := 10)).1 ?_
  refine callsIn_of_wp_marks Tryd.func11 rfl trivial ?_ rfl
  simp only [Tryd.ntmps11, List.size_toArray, List.length_cons, List.length_nil, Nat.reduceAdd, Nat.reduceSub, Array.replicate_succ, Array.replicate_zero, List.push_toArray, List.append_toArray, List.nil_append, List.cons_append]
  refine wpIn_wide.2 ?_
  go_wp2
  refine named fun W0 hW0 => ?_
  have ka : Blk W0 w.heap.size #[.int .u64 (lo m), .int .u64 (hi m)] 25 := Blk.of_eq hW0 (((Blk.new' (by simp)).alloc _).alloc _)
  have k1 : Blk W0 (w.heap.size + 1) #[.int .i64 0] 3 := Blk.of_eq hW0 ((Blk.new' (by simp)).alloc _)
  have k2 : Blk W0 (w.heap.size + 1 + 1) #[.bool false] 4 := Blk.of_eq hW0 (Blk.new' (by simp))
  have hB : Ext w W0 := Ext.of_eq hW0 ((((Ext.refl _).alloc _).alloc _).alloc _)
  have ca := ka.cell
  clear hW0
  go_wp2
  refine region_tail (Ext _) 5 (by kernel_rfl) (by kernel_rfl) (Ext.drew' (Below.refl _ _)) ?_
  simp only [List.take_succ_cons, List.take_zero, List.drop_succ_cons, List.drop_zero]
  repeat (first | (refine quiet_op ?_ ?_; (focus (go_simp; done)); apply Exists.intro; refine ⟨fun W hW => ?_, ?_⟩; (focus (have hc := hW.cellR; go_simp; first | exact rfl | (go_at_call 25; refine (hb _).mono ?_; rintro e w' ⟨rfl, hx⟩; exact ⟨rfl, hW.trans hx⟩) | (go_at_call 24; refine (minus_any _ _ _).mono ?_; rintro e w' ⟨rfl, hx⟩; exact ⟨rfl, hW.trans hx⟩))); simp only [Act.put, List.setIfInBounds_toArray, List.set_cons_succ, List.set_cons_zero]) | (refine quiet_skip ?_ ?_; (focus (go_simp; done)); simp only [Act.put, List.setIfInBounds_toArray, List.set_cons_succ, List.set_cons_zero]))
  refine wpQuiet_nil ?_
  intro W1 hW1
  replace k1 := k1.ext hW1
  replace k2 := k2.ext hW1
  replace hB := hB.trans hW1
  clear ca ka hb hW1
  simp only [if_neg (show ¬ n < 0 by omega)]
  go_wp2_with (go_at_call 21; refine (slots_fn _ _).mono ?_; rintro e w' ⟨rfl, rfl⟩)
  refine wpIn_wide.1 (?_ : Code.wpIn Fence.wide 10 _ _ _ _ _)
  refine namedIn fun W2 hW2 => ?_
  have kb : Blk W2 W1.heap.size #[.int .u64 (lo (mRest m n)), .int .u64 (hi (mRest m n))] 25 := Blk.of_eq hW2 (Blk.new' (by simp))
  replace k1 : Blk W2 (w.heap.size + 1) #[.int .i64 0] 3 := Blk.of_eq hW2 (k1.alloc _)
  replace k2 : Blk W2 (w.heap.size + 1 + 1) #[.bool false] 4 := Blk.of_eq hW2 (k2.alloc _)
  replace hB : Ext w W2 := Ext.of_eq hW2 (hB.alloc _)
  clear hW2
  change Code.wpIn _ 10 _ _ _ { tmps := #[.agg #[.int .u64 (lo (m)), .int .u64 (hi (m))], .int .i64 n, .pointer (some ⟨w.heap.size, 0, none⟩), undef, .pointer (some ⟨w.heap.size + 1, 0, none⟩), .pointer (some ⟨w.heap.size + 1 + 1, 0, none⟩), undef, .agg #[.int .u64 (lo (m)), .int .u64 (hi (m))], .int .i64 n, .int .i64 n, .agg #[.int .u64 (lo (mBelow n.toNat)), .int .u64 (hi (mBelow n.toNat))], .agg #[.int .u64 (lo (mRest m n)), .int .u64 (hi (mRest m n))], .func (.func 40) #[] #[.pointer (some ⟨W1.heap.size, 0, none⟩)], undef, undef], defers := [] } W2
  have hst := slots_stops 9 (by omega) W1.heap.size w.heap.size (mRest m n) w W2 rfl hB hT kb
  have E0 : Hid _ := @next_none m n
  have E1 : Hid _ := @next_some m n
  generalize mRest m n = mr at *
  refine wpIn_rangeFunc_ownG rfl (by omega) (gf := 40) (lb := #[.pointer (some ⟨W1.heap.size, 0, none⟩)]) rfl trivial (enters_of Tryd.func40 (by kernel_rfl) rfl)
    hst belowK_t (belowK_b hB.le) (Below.refl _ _) (fun _ => rfl)
    (fun pre W => pre = [] ∧ Blk W (w.heap.size + 1) #[.int .i64 0] 3 ∧ Blk W (w.heap.size + 1 + 1) #[.bool false] 4 ∧ Ext w W)
    (fun c pre W => c = .ret ∧ ∃ x : Int, pre = [x] ∧ Blk W (w.heap.size + 1) #[.int .i64 x] 3 ∧ Blk W (w.heap.size + 1 + 1) #[.bool true] 4 ∧ Ext w W)
    (fun s A B row hs hg hr => ⟨hs.1, hs.2.1.grown hg hr (by have := k2.lt; omega), hs.2.2.1.grown hg hr k2.lt, hs.2.2.2.grown hg hr hB.le⟩)
    (fun c s A B row hs hg hr => by
      obtain ⟨hc, x, h0, h1, h2, h3⟩ := hs
      exact ⟨hc, x, h0, h1.grown hg hr (by have := k2.lt; omega), h2.grown hg hr k2.lt, h3.grown hg hr hB.le⟩)
    ⟨rfl, k1, k2, hB⟩
    (fun x => { tmps := #[.agg #[.int .u64 (lo (m)), .int .u64 (hi (m))], .int .i64 n, .pointer (some ⟨w.heap.size, 0, none⟩), undef, .pointer (some ⟨w.heap.size + 1, 0, none⟩), .pointer (some ⟨w.heap.size + 1 + 1, 0, none⟩), .int .i64 x, .agg #[.int .u64 (lo (m)), .int .u64 (hi (m))], .int .i64 n, .int .i64 n, .agg #[.int .u64 (lo (mBelow n.toNat)), .int .u64 (hi (mBelow n.toNat))], .agg #[.int .u64 (lo (mr)), .int .u64 (hi (mr))], .func (.func 40) #[] #[.pointer (some ⟨W1.heap.size, 0, none⟩)], .int .i64 x, undef], defers := [] }) ?assign ?body ?done ?stop
  case assign =>
    intro l x W K hK
    gi_wp2
    exact hK
  case body =>
    rintro l pre x W ⟨rfl, b1, b2, hE⟩ _
    have c1 := b1.cell; have f1 := b1.frozen
    have c2 := b2.cell; have f2 := b2.frozen
    gi_wp2
    exact ⟨keepsFrom_trans (keepsFrom_set (by have := k2.lt; simp; omega)) (keepsFrom_set k2.lt), rfl, x, rfl, (b1.set_ 0 _).far (by simp) _, (b2.far (by simp) _).set_ 0 _, (hE.set (by simp) _).set (by simp; omega) _⟩
  case done =>
    rintro D zs W hD rfl ⟨hz, b1, b2, hE⟩ hK
    have c1 := b1.cell; have f1 := b1.frozen
    have c2 := b2.cell; have f2 := b2.frozen
    have EE : Hid _ := E0.out hz
    clear E0 E1 hst
    gi_wp2
    go_wp2
    have q1 := (b1.set_ 0 (.int .i64 0)).far (p := ⟨w.heap.size + 1 + 1, 0, none⟩) (by simp) (.bool false)
    have q2 := (b2.far (p := ⟨w.heap.size + 1, 0, none⟩) (by simp) (.int .i64 0)).set_ 0 (.bool false)
    have hK' := (keepsFrom_trans (n := W2.heap.size) (keepsFrom_set (W := W) (p := ⟨w.heap.size + 1, 0, none⟩) (u := .int .i64 0) (by have := k2.lt; simp; omega)) (keepsFrom_set (p := ⟨w.heap.size + 1 + 1, 0, none⟩) (u := .bool false) k2.lt)).same D _ hD hK rfl
    have r1 := (q1.putObj (D := D) (.deferred none) (by have := k2.lt; omega)).cell
    have r2 := (q2.putObj (D := D) (.deferred none) (by have := k2.lt; omega)).cell
    refine ⟨by simp, .inl ⟨_, _, rfl, run_takeDeferred hK', ?_⟩⟩
    refine ⟨.tuple #[.int .i64 0, .bool false], by simp [results, Tryd.results11, go_sem, r1, r2], by rw [EE.out.1, EE.out.2], ?_⟩
    exact Below.trans ((hE.set (by simp) _).set (by simp; omega) _) (belowK_b (w := w) (Nat.le_refl _) _ D _ _ (Nat.le_trans hB.le hD) hK' rfl rfl)
  case stop =>
    rintro D c pre W hD hp ⟨rfl, x, rfl, b1, b2, hE⟩ hK
    have c1 := b1.cell
    have c2 := b2.cell
    have EE : Hid _ := E1.out hp
    clear E0 E1 hst
    gi_wp2
    have r1 := (b1.putObj (D := D) (.deferred none) (by have := k2.lt; omega)).cell
    have r2 := (b2.putObj (D := D) (.deferred none) (by have := k2.lt; omega)).cell
    refine ⟨by simp, .inl ⟨_, _, rfl, run_takeDeferred hK, ?_⟩⟩
    refine ⟨.tuple #[.int .i64 x, .bool true], by simp [results, Tryd.results11, go_sem, r1, r2], by rw [EE.out.1, EE.out.2], ?_⟩
    exact Below.trans hE (belowK_b (w := w) (Nat.le_refl _) W D _ _ (Nat.le_trans hB.le hD) hK rfl rfl)

end Go.Proofs.YtiolpknfdabijaaDoor
