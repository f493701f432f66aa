/- Does the layer of lists do anything? -/
import Derived.Test.YtiolpknfdabijaaProg
import Derived.Test.YtiolpknfdabijaaLib
import Derived.Test.YtiolpknfdabijaaPure
import Derived.Test.YtiolpknfdabijaaMask
import Derived.Test.YtiolpknfdabijaaMask2
import Derived.Test.YtiolpknfdabijaaVec
import Derived.Test.YtiolpknfdabijaaVec2
import Derived.Test.YtiolpknfdabijaaVec3
import Derived.Test.YtiolpknfdabijaaIter
import Derived.Test.YtiolpknfdabijaaArena
import Derived.Test.YtiolpknfdabijaaArena2
import Derived.Test.YtiolpknfdabijaaArena3
import Derived.Test.YtiolpknfdabijaaArena6
import Derived.Test.YtiolpknfdabijaaClone
import Derived.Test.YtiolpknfdabijaaLib2
import Derived.Test.YtiolpknfdabijaaLists
import Derived.Test.YtiolpknfdabijaaLists2
import Derived.Test.YtiolpknfdabijaaLists3
import Derived.Test.YtiolpknfdabijaaLists5
import Derived.Test.YtiolpknfdabijaaLists6
import Derived.Test.YtiolpknfdabijaaLists7
import Derived.Test.YtiolpknfdabijaaLists8
import Derived.Test.YtiolpknfdabijaaLists10
import Derived.Test.YtiolpknfdabijaaLists13
import Derived.Test.YtiolpknfdabijaaLists14
import Derived.Test.YtiolpknfdabijaaReg
set_option linter.unusedVariables false
set_option maxRecDepth 4000
set_option linter.unusedSimpArgs false
namespace Go.Proofs.Ytiolpknfdabijaa
open Go.RowKit


def wkL : Lists := ⟨[ [0], [10] ], [1, 2]⟩
theorem wk_build : lsBuild twoA [ [0], [10] ] = (wkL, 0) := by decide +kernel
theorem wk_where : lsWhereN wkL 1 = 1 ∧ lsWhereB wkL 1 = true := by decide +kernel
theorem wk_agrees : lsAgrees wkL twoA = true := by decide +kernel
theorem wk_words : lo (1 : Mask) = 1 ∧ hi (1 : Mask) = 0 ∧ lo (2 : Mask) = 2 ∧ hi (2 : Mask) = 0 := by decide +kernel
theorem vecs_lit {w : World} {b1 b2 b3 t1 t2 : Nat} {x y : Int} (h1 : Blk w b1 #[.int .i32 x] t1) (h2 : Blk w b2 #[.int .i32 y] t1) (h3 : Blk w b3 #[.slice (some ⟨b1, 0, none⟩) 1 1, .slice (some ⟨b2, 0, none⟩) 1 1] t2) : kVec.Sl w (.slice (some ⟨b3, 0, none⟩) 2 2) [ [x], [y] ] := by
  refine Kd.Sl.mk (Nat.le_refl _) (by simp) (Kd.Row.one rfl fun k v hk => ?_)
  match k, hk with
  | 0, hk =>
    simp at hk
    subst hk
    exact ⟨_, i32_one h1, by rw [h3.cell]; rfl⟩
  | 1, hk =>
    simp at hk
    subst hk
    exact ⟨_, i32_one h2, by rw [h3.cell]; rfl⟩
set_option maxRecDepth 100000 in
set_option maxHeartbeats 4000000 in
theorem wakes13_any (w : World) : Calls Try.prog 7 #[] w fun e w' => e = .returned (.bool true) ∧ Ext w w' := by
  have HT := two_any
  have HB := fun v cv W h1 h2 => lbuild_any twoA [ [0], [10] ] v cv W h1 h2
  rw [wk_build] at HB
  have HW := fun cv mv W h1 h2 => where_any wkL 1 cv mv W h1 h2
  rw [wk_where.1, wk_where.2] at HW
  have HA := fun cv mv av W h1 h2 h3 => lagrees_any wkL twoA cv mv av W h1 h2 h3
  rw [wk_agrees] at HA
  have HF : ∀ (base : Nat) (w0 W : World) (v : Value), OwnLists base w0 W v wkL → Ext w0 W → ∃ a c g c', v = .agg #[.slice a 2 c, .slice (some ⟨g, 0, none⟩) 2 c'] ∧ kVec.Sl W (.slice a 2 c) wkL.cents ∧ kMask.Sl W (.slice (some ⟨g, 0, none⟩) 2 c') wkL.masks ∧
      W.cell? ⟨g, 0, none⟩ = some (.int .u64 1) ∧ W.cell? ⟨g, 1, none⟩ = some (.int .u64 0) ∧ W.cell? ⟨g, 2, none⟩ = some (.int .u64 2) ∧ W.cell? ⟨g, 3, none⟩ = some (.int .u64 0) := by
    intro base w0 W v h hx
    obtain ⟨cv, mv, rfl, h1, h2⟩ := h.out
    have s := OwnLists.sl (base := base) (w0 := w0) (l := wkL) ⟨cv, mv, rfl, h1, h2⟩ hx (by decide) (by decide)
    obtain ⟨a, c, rfl⟩ := h1.form
    obtain ⟨g, c', rfl, _⟩ := own_form h2 (by decide)
    refine ⟨a, c, g, c', rfl, s.1, s.2, ?_⟩
    have hm : maskFlat wkL.masks = [.int .u64 1, .int .u64 0, .int .u64 2, .int .u64 0] := by
      show [Value.int .u64 (lo 1), .int .u64 (hi 1), .int .u64 (lo 2), .int .u64 (hi 2)] = _
      rw [wk_words.1, wk_words.2.1, wk_words.2.2.1, wk_words.2.2.2]
    rw [hm] at h2
    have hw : wkL.masks.length = 2 := rfl
    rw [hw] at h2
    exact ⟨by rw [h2.cellAt _ (by omega)]; rfl, by rw [h2.cellAt _ (by omega)]; rfl, by rw [h2.cellAt _ (by omega)]; rfl, by rw [h2.cellAt _ (by omega)]; rfl⟩
  have q1 : ∀ w, (binOp .eql 31 (.agg #[.int .u64 1, .int .u64 0]) (.agg #[.int .u64 1, .int .u64 0])).run Try.prog w = .ok (.bool true) w := fun w => by
    have := mask_eql 1 1 w
    rw [wk_words.1, wk_words.2.1] at this
    simpa using this
  have q2 : ∀ w, (binOp .eql 31 (.agg #[.int .u64 2, .int .u64 0]) (.agg #[.int .u64 2, .int .u64 0])).run Try.prog w = .ok (.bool true) w := fun w => by
    have := mask_eql 2 2 w
    rw [wk_words.2.2.1, wk_words.2.2.2] at this
    simpa using this
  have hmg := mask_guard
  generalize wkL = L at *
  generalize twoA = A at *
  go_enter Try.func7, Try.ntmps7
  go_wp2_with (first
    | (go_at_call 33; (with_reducible refine Calls.mono (HT _) ?_); rintro e W1 ⟨v, rfl, hv, h1⟩; have b1 := ((Blk.new' (w := W1) (b := W1.heap.size) (cs := #[.int .i32 0]) (t := 21) rfl).alloc (.cells #[.int .i32 10] 21)).alloc (.cells #[.slice (some ⟨W1.heap.size, 0, none⟩) 1 1, .slice (some ⟨W1.heap.size + 1, 0, none⟩) 1 1] 46); have b2 := (Blk.new' (w := W1.alloc (.cells #[.int .i32 0] 21)) (b := W1.heap.size + 1) (cs := #[.int .i32 10]) (t := 21) (by simp)).alloc (.cells #[.slice (some ⟨W1.heap.size, 0, none⟩) 1 1, .slice (some ⟨W1.heap.size + 1, 0, none⟩) 1 1] 46); have b3 := Blk.new' (w := (W1.alloc (.cells #[.int .i32 0] 21)).alloc (.cells #[.int .i32 10] 21)) (b := W1.heap.size + 1 + 1) (cs := #[.slice (some ⟨W1.heap.size, 0, none⟩) 1 1, .slice (some ⟨W1.heap.size + 1, 0, none⟩) 1 1]) (t := 46) (by simp))
    | (go_at_call 13; (with_reducible refine Calls.mono (HB _ _ _ (hv.ext ((((Ext.refl _).alloc _).alloc _).alloc _)) (vecs_lit b1 b2 b3)) ?_); rintro e W2 ⟨v2, rfl, hq, h2⟩; obtain ⟨a, c, g, c', rfl, s1, s2, m0, m1, m2, m3⟩ := HF _ _ _ _ hq h2)
    | (go_at_call 16; (with_reducible refine Calls.mono (HW _ _ _ (s1.ext ((Ext.refl _).alloc _)) (s2.ext ((Ext.refl _).alloc _))) ?_); rintro e W3 ⟨rfl, h3⟩))
  have hB : Ext w W3 := (((((h1.trans ((((Ext.refl _).alloc _).alloc _).alloc _)).trans h2).alloc _)).trans h3)
  have kL := (Blk.new' (w := W2) (b := W2.heap.size) (cs := #[.slice a 2 c, .slice (some ⟨g, 0, none⟩) 2 c']) (t := 25) rfl).ext h3
  have e3 : Ext W2 W3 := ((Ext.refl _).alloc _).trans h3
  replace m0 := e3.cellS m0
  replace m1 := e3.cellS m1
  replace m2 := e3.cellS m2
  replace m3 := e3.cellS m3
  replace s1 := s1.ext e3
  replace s2 := s2.ext e3
  clear e3 h1 h2 h3 hq hv b1 b2 b3 HB HW HF
  refine cut_reg (fun a' a'' w' => Ext W3 w' ∧ a''.tmps.getD 0 undef = .bool true ∧ a''.defers = []) ?_ ?_
  · refine region_reg (L0 := #[true, true, true, true, true, true, true, true, true, true, true, true, true, true, true, true, true, true, true, true, true, true, true, true, true, true, true, true, true, true, true, true, true, true, true, true, true]) (by kernel_rfl) (fun WB hWB => ?_)
    replace m0 := hWB.cellS m0
    replace m1 := hWB.cellS m1
    replace m2 := hWB.cellS m2
    replace m3 := hWB.cellS m3
    have cL := (kL.ext hWB).cell
    have lL := (kL.ext hWB).lt
    refine regE_op 0 rfl (by kernel_rfl) ?_ ?_
    focus (go_simp; done)
    apply Exists.intro
    refine ⟨fun W hW => ?_, ?_⟩
    focus (have hc := hW.cellR; go_simp; first | exact rfl)
    simp only [Act.put, List.setIfInBounds_toArray, List.set_cons_succ, List.set_cons_zero]
    refine regE_op 1 rfl (by kernel_rfl) ?_ ?_
    focus (go_simp; done)
    apply Exists.intro
    refine ⟨fun W hW => ?_, ?_⟩
    focus (have hc := hW.cellR; go_simp; first | exact rfl)
    simp only [Act.put, List.setIfInBounds_toArray, List.set_cons_succ, List.set_cons_zero]
    refine regE_op 2 rfl (by kernel_rfl) ?_ ?_
    focus (go_simp; done)
    apply Exists.intro
    refine ⟨fun W hW => ?_, ?_⟩
    focus (have hc := hW.cellR; go_simp; first | exact rfl)
    simp only [Act.put, List.setIfInBounds_toArray, List.set_cons_succ, List.set_cons_zero]
    refine regE_op 3 rfl (by kernel_rfl) ?_ ?_
    focus (go_simp; done)
    apply Exists.intro
    refine ⟨fun W hW => ?_, ?_⟩
    focus (have hc := hW.cellR; go_simp; first | exact rfl)
    simp only [Act.put, List.setIfInBounds_toArray, List.set_cons_succ, List.set_cons_zero]
    refine regE_op 4 rfl (by kernel_rfl) ?_ ?_
    focus (go_simp; done)
    apply Exists.intro
    refine ⟨fun W hW => ?_, ?_⟩
    focus (have hc := hW.cellR; go_simp; first | exact rfl)
    simp only [Act.put, List.setIfInBounds_toArray, List.set_cons_succ, List.set_cons_zero]
    refine regE_op 5 rfl (by kernel_rfl) ?_ ?_
    focus (go_simp; done)
    apply Exists.intro
    refine ⟨fun W hW => ?_, ?_⟩
    focus (have hc := hW.cellR; go_simp; first | exact rfl)
    simp only [Act.put, List.setIfInBounds_toArray, List.set_cons_succ, List.set_cons_zero]
    refine regE_op 6 rfl (by kernel_rfl) ?_ ?_
    focus (go_simp; done)
    apply Exists.intro
    refine ⟨fun W hW => ?_, ?_⟩
    focus (have hc := hW.cellR; go_simp; first | exact rfl)
    simp only [Act.put, List.setIfInBounds_toArray, List.set_cons_succ, List.set_cons_zero]
    refine regE_op 7 rfl (by kernel_rfl) ?_ ?_
    focus (go_simp; done)
    apply Exists.intro
    refine ⟨fun W hW => ?_, ?_⟩
    focus (have hc := hW.cellR; go_simp; first | exact rfl)
    simp only [Act.put, List.setIfInBounds_toArray, List.set_cons_succ, List.set_cons_zero]
    refine regE_op 8 rfl (by kernel_rfl) ?_ ?_
    focus (go_simp; done)
    apply Exists.intro
    refine ⟨fun W hW => ?_, ?_⟩
    focus (have hc := hW.cellR; go_simp; first | exact rfl)
    simp only [Act.put, List.setIfInBounds_toArray, List.set_cons_succ, List.set_cons_zero]
    refine regE_op 9 rfl (by kernel_rfl) ?_ ?_
    focus (go_simp; done)
    apply Exists.intro
    refine ⟨fun W hW => ?_, ?_⟩
    focus (have hc := hW.cellR; go_simp; first | exact rfl)
    simp only [Act.put, List.setIfInBounds_toArray, List.set_cons_succ, List.set_cons_zero]
    refine regE_op 10 rfl (by kernel_rfl) ?_ ?_
    focus (go_simp; done)
    apply Exists.intro
    refine ⟨fun W hW => ?_, ?_⟩
    focus (have hc := hW.cellR; go_simp; first | exact rfl)
    simp only [Act.put, List.setIfInBounds_toArray, List.set_cons_succ, List.set_cons_zero]
    refine regE_op 11 rfl (by kernel_rfl) ?_ ?_
    focus (go_simp; done)
    apply Exists.intro
    refine ⟨fun W hW => ?_, ?_⟩
    focus (have hc := hW.cellR; go_simp; first | exact rfl)
    simp only [Act.put, List.setIfInBounds_toArray, List.set_cons_succ, List.set_cons_zero]
    refine regE_op 12 rfl (by kernel_rfl) ?_ ?_
    focus (go_simp; done)
    apply Exists.intro
    refine ⟨fun W hW => ?_, ?_⟩
    focus (have hc := hW.cellR; go_simp; first | exact rfl)
    simp only [Act.put, List.setIfInBounds_toArray, List.set_cons_succ, List.set_cons_zero]
    refine regE_op 13 rfl (by kernel_rfl) ?_ ?_
    focus (go_simp; done)
    apply Exists.intro
    refine ⟨fun W hW => ?_, ?_⟩
    focus (have hc := hW.cellR; go_simp; first | exact rfl)
    simp only [Act.put, List.setIfInBounds_toArray, List.set_cons_succ, List.set_cons_zero]
    refine regE_op 14 rfl (by kernel_rfl) ?_ ?_
    focus (go_simp; done)
    apply Exists.intro
    refine ⟨fun W hW => ?_, ?_⟩
    focus (have hc := hW.cellR; go_simp; first | exact rfl)
    simp only [Act.put, List.setIfInBounds_toArray, List.set_cons_succ, List.set_cons_zero]
    refine regE_op 15 rfl (by kernel_rfl) ?_ ?_
    focus (go_simp; done)
    apply Exists.intro
    refine ⟨fun W hW => ?_, ?_⟩
    focus (have hc := hW.cellR; go_simp; first | exact rfl)
    simp only [Act.put, List.setIfInBounds_toArray, List.set_cons_succ, List.set_cons_zero]
    refine regE_op 16 rfl (by kernel_rfl) ?_ ?_
    focus (go_simp; done)
    apply Exists.intro
    refine ⟨fun W hW => ?_, ?_⟩
    focus (have hc := hW.cellR; go_simp; first | exact rfl)
    simp only [Act.put, List.setIfInBounds_toArray, List.set_cons_succ, List.set_cons_zero]
    refine regE_op 17 rfl (by kernel_rfl) ?_ ?_
    focus (go_simp; done)
    apply Exists.intro
    refine ⟨fun W hW => ?_, ?_⟩
    focus (have hc := hW.cellR; go_simp; first | exact rfl)
    simp only [Act.put, List.setIfInBounds_toArray, List.set_cons_succ, List.set_cons_zero]
    refine regE_op 18 rfl (by kernel_rfl) ?_ ?_
    focus (go_simp; done)
    apply Exists.intro
    refine ⟨fun W hW => ?_, ?_⟩
    focus (have hc := hW.cellR; go_simp; first | exact rfl)
    simp only [Act.put, List.setIfInBounds_toArray, List.set_cons_succ, List.set_cons_zero]
    refine regE_op 19 rfl (by kernel_rfl) ?_ ?_
    focus (go_simp; done)
    apply Exists.intro
    refine ⟨fun W hW => ?_, ?_⟩
    focus (have hc := hW.cellR; go_simp; first | exact rfl)
    simp only [Act.put, List.setIfInBounds_toArray, List.set_cons_succ, List.set_cons_zero]
    refine regE_op 20 rfl (by kernel_rfl) ?_ ?_
    focus (go_simp; done)
    apply Exists.intro
    refine ⟨fun W hW => ?_, ?_⟩
    focus (have hc := hW.cellR; go_simp; first | exact rfl)
    simp only [Act.put, List.setIfInBounds_toArray, List.set_cons_succ, List.set_cons_zero]
    refine regE_op 21 rfl (by kernel_rfl) ?_ ?_
    focus (go_simp; done)
    apply Exists.intro
    refine ⟨fun W hW => ?_, ?_⟩
    focus (have hc := hW.cellR; go_simp; first | exact rfl)
    simp only [Act.put, List.setIfInBounds_toArray, List.set_cons_succ, List.set_cons_zero]
    refine regE_op 22 rfl (by kernel_rfl) ?_ ?_
    focus (go_simp; done)
    apply Exists.intro
    refine ⟨fun W hW => ?_, ?_⟩
    focus (have hc := hW.cellR; go_simp; first | exact rfl)
    simp only [Act.put, List.setIfInBounds_toArray, List.set_cons_succ, List.set_cons_zero]
    refine regE_op 23 rfl (by kernel_rfl) ?_ ?_
    focus (go_simp; done)
    apply Exists.intro
    refine ⟨fun W hW => ?_, ?_⟩
    focus (have hc := hW.cellR; go_simp; first | exact rfl)
    simp only [Act.put, List.setIfInBounds_toArray, List.set_cons_succ, List.set_cons_zero]
    refine regE_op 24 rfl (by kernel_rfl) ?_ ?_
    focus (go_simp; done)
    apply Exists.intro
    refine ⟨fun W hW => ?_, ?_⟩
    focus (have hc := hW.cellR; go_simp; first | exact rfl)
    simp only [Act.put, List.setIfInBounds_toArray, List.set_cons_succ, List.set_cons_zero]
    refine regE_op 25 rfl (by kernel_rfl) ?_ ?_
    focus (go_simp; done)
    apply Exists.intro
    refine ⟨fun W hW => ?_, ?_⟩
    focus (have hc := hW.cellR; go_simp; first | exact rfl)
    simp only [Act.put, List.setIfInBounds_toArray, List.set_cons_succ, List.set_cons_zero]
    refine regE_op 26 rfl (by kernel_rfl) ?_ ?_
    focus (go_simp; done)
    apply Exists.intro
    refine ⟨fun W hW => ?_, ?_⟩
    focus (have hc := hW.cellR; go_simp; first | exact rfl)
    simp only [Act.put, List.setIfInBounds_toArray, List.set_cons_succ, List.set_cons_zero]
    refine regE_op 27 rfl (by kernel_rfl) ?_ ?_
    focus (go_simp; done)
    apply Exists.intro
    refine ⟨fun W hW => ?_, ?_⟩
    focus (have hc := hW.cellR; go_simp; first | exact rfl)
    simp only [Act.put, List.setIfInBounds_toArray, List.set_cons_succ, List.set_cons_zero]
    refine regE_op 28 rfl (by kernel_rfl) ?_ ?_
    focus (go_simp; done)
    apply Exists.intro
    refine ⟨fun W hW => ?_, ?_⟩
    focus (have hc := hW.cellR; go_simp; first | exact rfl)
    simp only [Act.put, List.setIfInBounds_toArray, List.set_cons_succ, List.set_cons_zero]
    refine regE_op 29 rfl (by kernel_rfl) ?_ ?_
    focus (go_simp; done)
    apply Exists.intro
    refine ⟨fun W hW => ?_, ?_⟩
    focus (have hc := hW.cellR; go_simp; first | exact rfl)
    simp only [Act.put, List.setIfInBounds_toArray, List.set_cons_succ, List.set_cons_zero]
    refine regE_op 30 rfl (by kernel_rfl) ?_ ?_
    focus (go_simp; done)
    apply Exists.intro
    refine ⟨fun W hW => ?_, ?_⟩
    focus (have hc := hW.cellR; go_simp; first | exact rfl)
    simp only [Act.put, List.setIfInBounds_toArray, List.set_cons_succ, List.set_cons_zero]
    refine regE_op 31 rfl (by kernel_rfl) ?_ ?_
    focus (go_simp; done)
    apply Exists.intro
    refine ⟨fun W hW => ?_, ?_⟩
    focus (have hc := hW.cellR; go_simp; first | exact rfl)
    simp only [Act.put, List.setIfInBounds_toArray, List.set_cons_succ, List.set_cons_zero]
    refine regE_op 32 rfl (by kernel_rfl) ?_ ?_
    focus (go_simp; done)
    apply Exists.intro
    refine ⟨fun W hW => ?_, ?_⟩
    focus (have hc := hW.cellR; go_simp; first | exact rfl)
    simp only [Act.put, List.setIfInBounds_toArray, List.set_cons_succ, List.set_cons_zero]
    refine regE_all1 33 (by kernel_rfl) rfl (fun W4 hW4 => ?_)
    go_wp2_with (go_at_call 33; (with_reducible refine Calls.mono (HT _) ?_); rintro e W5 ⟨v5, rfl, hv5, h5⟩)
    refine ⟨rfl, h5, ?_⟩
    have hE : Ext W3 W5 := (hWB.trans hW4).trans h5
    refine regE_op 34 rfl (by kernel_rfl) ?_ ?_
    focus (go_simp; done)
    apply Exists.intro
    refine ⟨fun W hW => ?_, ?_⟩
    focus (have hc := hW.cellR; go_simp; first | exact rfl | (go_at_call 30; refine (HA _ _ _ _ (s1.ext (hE.trans hW)) (s2.ext (hE.trans hW)) (hv5.ext hW)).mono ?_; rintro e w1 ⟨rfl, hx⟩; exact ⟨rfl, hx⟩))
    simp only [Act.put, List.setIfInBounds_toArray, List.set_cons_succ, List.set_cons_zero]
    refine regE_op 35 rfl (by kernel_rfl) ?_ ?_
    focus (go_simp; done)
    apply Exists.intro
    refine ⟨fun W hW => ?_, ?_⟩
    focus (have hc := hW.cellR; go_simp; first | exact rfl | (go_at_call 30; refine (HA _ _ _ _ (s1.ext (hE.trans hW)) (s2.ext (hE.trans hW)) (hv5.ext hW)).mono ?_; rintro e w1 ⟨rfl, hx⟩; exact ⟨rfl, hx⟩))
    simp only [Act.put, List.setIfInBounds_toArray, List.set_cons_succ, List.set_cons_zero]
    refine regE_op 36 rfl (by kernel_rfl) ?_ ?_
    focus (go_simp; done)
    apply Exists.intro
    refine ⟨fun W hW => ?_, ?_⟩
    focus (have hc := hW.cellR; go_simp; first | exact rfl | (go_at_call 30; refine (HA _ _ _ _ (s1.ext (hE.trans hW)) (s2.ext (hE.trans hW)) (hv5.ext hW)).mono ?_; rintro e w1 ⟨rfl, hx⟩; exact ⟨rfl, hx⟩))
    simp only [Act.put, List.setIfInBounds_toArray, List.set_cons_succ, List.set_cons_zero]
    exact regE_done (by kernel_rfl) fun W hW => ⟨hE.trans hW, rfl, rfl⟩
  · rintro ⟨tmps, defers⟩ W6 ⟨hx, h0, rfl⟩
    dsimp only at h0
    go_wp2
    go_ret
    rw [h0]
    exact ⟨rfl, hB.trans hx⟩

end Go.Proofs.Ytiolpknfdabijaa
