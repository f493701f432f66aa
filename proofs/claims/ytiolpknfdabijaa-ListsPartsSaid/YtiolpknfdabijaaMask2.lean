/- The functions of layer 10 that go over rows of masks and numbers. -/
import Derived.Test.YtiolpknfdabijaaProg
import Derived.Test.YtiolpknfdabijaaLib
import Derived.Test.YtiolpknfdabijaaPure
import Derived.Test.YtiolpknfdabijaaPop
import Derived.Test.YtiolpknfdabijaaMask
set_option linter.unusedVariables false
set_option maxRecDepth 4000
set_option linter.unusedSimpArgs false
namespace Go.Proofs.Ytiolpknfdabijaa
open Go.RowKit


/-- The kind of a mask. -/
def kMask : Kd Mask := Kd.plain 2 (fun m => [.int .u64 (lo m), .int .u64 (hi m)]) (fun _ => rfl)
theorem mOrs_snoc (l : List Mask) (m : Mask) : mOrs (l ++ [m]) = mOrs l ||| m := by simp [mOrs]
theorem take_snoc {α : Type} (l : List α) (k : Nat) (h : k < l.length) : l.take (k + 1) = l.take k ++ [l[k]] := by rw [List.take_succ_eq_append_getElem h]
set_option maxHeartbeats 1000000 in
theorem ors_any (ms : List Mask) (v : Value) (w : World) (h : kMask.Sl w v ms) : Calls Try.prog 10 #[v] w fun e w' => e = .returned (.agg #[.int .u64 (lo (mOr ms)), .int .u64 (hi (mOr ms))]) ∧ Ext w w' := by
  obtain ⟨a, c, rfl, hc, hl, hr⟩ := h.form
  go_enter Try.func10, Try.ntmps10
  go_wp2
  refine named fun W0 hW0 => ?_
  have kr : Blk W0 w.heap.size #[.int .u64 0, .int .u64 0] 31 := Blk.of_eq hW0 ((Blk.new' (by simp)).alloc _)
  have ko : Blk W0 (w.heap.size + 1) #[.int .u64 (lo (mOrs [])), .int .u64 (hi (mOrs []))] 31 := Blk.of_eq hW0 (Blk.new' (by simp))
  have hB : Ext w W0 := Ext.of_eq hW0 (((Ext.refl _).alloc _).alloc _)
  clear hW0
  go_loopg [8] ms.length (fun gg s8 wr => ∃ k : Nat, k ≤ ms.length ∧ ms.length - k ≤ gg ∧ s8 = .int .i64 k ∧ Blk wr w.heap.size #[.int .u64 0, .int .u64 0] 31 ∧
    Blk wr (w.heap.size + 1) #[.int .u64 (lo (mOrs (ms.take k))), .int .u64 (hi (mOrs (ms.take k)))] 31 ∧ Ext w wr)
  case atStart => exact ⟨0, Nat.zero_le _, by omega, rfl, kr, ko, hB⟩
  case round =>
    clear kr ko hB
    obtain ⟨k, hk, hg, rfl, kr, ko, hB⟩ := hrel
    by_cases hlt : k < ms.length
    · obtain ⟨b, off, cs, ha, rfl, hcell⟩ := (hr.ext hB).at_ hlt
      have hx := run_at (P := Try.prog) 23 31 2 Try.underlying23 Try.sizeOf31 (c := c) ha hlt
      have c0 : wr.cell? ⟨b, off + k * 2, none⟩ = _ := hcell 0 _ rfl
      have c1 : wr.cell? ⟨b, off + k * 2 + 1, none⟩ = _ := hcell 1 _ rfl
      have co := ko.cell
      have hlm : w.heap.size + 1 < wr.heap.size := ko.lt
      have hgrow : mOrs (ms.take (k + 1)) = mOrs (ms.take k) ||| ms[k] := by rw [take_snoc _ _ hlt, mOrs_snoc]
      have hgr : Hid _ := hgrow
      clear hcell ha hgrow
      go_wp2_with (go_at_call 35; refine (or_any _ _ _).mono ?_; rintro e W1 ⟨rfl, h1⟩; have k2 := (ko.alloc _).ext h1; have cr := k2.cell; have fr := k2.frozen)
      go_roundg (ms.length - (k + 1))
      case measure => omega
      case rel => exact ⟨k + 1, by omega, by omega, by go_num, (((kr.alloc _).ext h1).far (by simp) _).far (by simp) _, by rw [hgr.out]; exact (k2.set_ 0 _).set_ 1 _, ((hB.trans ((Ext.refl _).alloc _)).trans h1).set (by simp) _ |>.set (by simp) _⟩
    · obtain rfl : k = ms.length := by omega
      rw [List.take_length] at ko
      have co := ko.cell
      have kr2 := kr
      go_wp2
      refine region_tail (Ext _) 3 (by kernel_rfl) (by kernel_rfl) (Ext.drew' (Below.refl _ _)) ?_
      simp only [List.take_succ_cons, List.take_zero, List.drop_succ_cons, List.drop_zero]
      repeat (first | (refine quiet_op ?_ ?_; (focus (go_simp; done)); apply Exists.intro; refine ⟨fun W hW => ?_, ?_⟩; (focus (have hc := hW.cellR; go_simp; first | exact rfl | (go_at_call 37; refine (all_any _).mono ?_; rintro e w' ⟨rfl, hx⟩; exact ⟨rfl, hW.trans hx⟩) | (go_at_call 36; refine (and_any _ _ _).mono ?_; rintro e w' ⟨rfl, hx⟩; exact ⟨rfl, hW.trans hx⟩))); simp only [Act.put, List.setIfInBounds_toArray, List.set_cons_succ, List.set_cons_zero]) | (refine quiet_skip ?_ ?_; (focus (go_simp; done)); simp only [Act.put, List.setIfInBounds_toArray, List.set_cons_succ, List.set_cons_zero]))
      refine wpQuiet_nil ?_
      intro W1 hW1
      replace kr := kr.ext hW1
      have cr := kr.cell; have fr := kr.frozen
      go_wp2
      have c2 := ((kr.set_ 0 (.int .u64 (lo (mOrs ms &&& mAll)))).set_ 1 (.int .u64 (hi (mOrs ms &&& mAll)))).cell
      exact bodyPost_ret (v := .agg #[.int .u64 (lo (mOrs ms &&& mAll)), .int .u64 (hi (mOrs ms &&& mAll))]) (by simp [results, Try.results10, go_sem, c2]) rfl ⟨rfl, ((hB.trans hW1).set (by simp) _).set (by simp) _⟩

theorem mAnds_snoc (l : List Mask) (m : Mask) : mAnds (l ++ [m]) = mAnds l &&& m := by simp [mAnds]
set_option maxHeartbeats 1000000 in
theorem ands_any (ms : List Mask) (v : Value) (w : World) (h : kMask.Sl w v ms) : Calls Try.prog 74 #[v] w fun e w' => e = .returned (.agg #[.int .u64 (lo (mAnds ms)), .int .u64 (hi (mAnds ms))]) ∧ Ext w w' := by
  obtain ⟨a, c, rfl, hc, hl, hr⟩ := h.form
  go_enter Try.func74, Try.ntmps74
  go_wp2_with (go_at_call 37; refine (all_any _).mono ?_; rintro e W0 ⟨rfl, h0⟩)
  have kr : Blk W0 w.heap.size #[.int .u64 0, .int .u64 0] 31 := (Blk.new' (by simp)).ext h0
  refine named fun W1 hW0 => ?_
  replace kr := Blk.of_eq hW0 (kr.alloc _)
  have ko : Blk W1 W0.heap.size #[.int .u64 (lo (mAnds [])), .int .u64 (hi (mAnds []))] 31 := Blk.of_eq hW0 (Blk.new' (by simp))
  have hB : Ext w W1 := Ext.of_eq hW0 ((((Ext.refl _).alloc _).trans h0).alloc _)
  have hne : w.heap.size < W0.heap.size := by have := h0.le; simp at this; omega
  clear hW0
  go_loopg [9] ms.length (fun gg s8 wr => ∃ k : Nat, k ≤ ms.length ∧ ms.length - k ≤ gg ∧ s8 = .int .i64 k ∧ Blk wr w.heap.size #[.int .u64 0, .int .u64 0] 31 ∧
    Blk wr W0.heap.size #[.int .u64 (lo (mAnds (ms.take k))), .int .u64 (hi (mAnds (ms.take k)))] 31 ∧ Ext w wr)
  case atStart => exact ⟨0, Nat.zero_le _, by omega, rfl, kr, ko, hB⟩
  case round =>
    clear kr ko hB
    obtain ⟨k, hk, hg, rfl, kr, ko, hB⟩ := hrel
    by_cases hlt : k < ms.length
    · obtain ⟨b, off, cs, ha, rfl, hcell⟩ := (hr.ext hB).at_ hlt
      have hx := run_at (P := Try.prog) 23 31 2 Try.underlying23 Try.sizeOf31 (c := c) ha hlt
      have c0 : wr.cell? ⟨b, off + k * 2, none⟩ = _ := hcell 0 _ rfl
      have c1 : wr.cell? ⟨b, off + k * 2 + 1, none⟩ = _ := hcell 1 _ rfl
      have co := ko.cell
      have hlm : W0.heap.size < wr.heap.size := ko.lt
      have hgrow : mAnds (ms.take (k + 1)) = mAnds (ms.take k) &&& ms[k] := by rw [take_snoc _ _ hlt, mAnds_snoc]
      have hgr : Hid _ := hgrow
      clear hcell ha hgrow
      go_wp2_with (go_at_call 36; refine (and_any _ _ _).mono ?_; rintro e W1 ⟨rfl, h1⟩; have k2 := (ko.alloc _).ext h1; have cr := k2.cell; have fr := k2.frozen)
      go_roundg (ms.length - (k + 1))
      case measure => omega
      case rel => exact ⟨k + 1, by omega, by omega, by go_num, (((kr.alloc _).ext h1).far (by simp; omega) _).far (by simp; omega) _, by rw [hgr.out]; exact (k2.set_ 0 _).set_ 1 _, ((hB.trans ((Ext.refl _).alloc _)).trans h1).set (by simp; omega) _ |>.set (by simp; omega) _⟩
    · obtain rfl : k = ms.length := by omega
      rw [List.take_length] at ko
      have co := ko.cell
      have cr := kr.cell; have fr := kr.frozen
      go_wp2
      have c2 := ((kr.set_ 0 (.int .u64 (lo (mAnds ms)))).set_ 1 (.int .u64 (hi (mAnds ms)))).cell
      exact bodyPost_ret (v := .agg #[.int .u64 (lo (mAnds ms)), .int .u64 (hi (mAnds ms))]) (by simp [results, Try.results74, go_sem, c2]) rfl ⟨rfl, (hB.set (by simp) _).set (by simp) _⟩

theorem Minus_any (a b : Mask) (w : World) : Calls Try.prog 55 #[.agg #[.int .u64 (lo (a)), .int .u64 (hi (a))], .agg #[.int .u64 (lo (b)), .int .u64 (hi (b))]] w fun e w' => e = .returned (.agg #[.int .u64 (lo (mMinus a b)), .int .u64 (hi (mMinus a b))]) ∧ Ext w w' := by
  unfold mMinus
  go_enter Try.func55, Try.ntmps55
  go_wp2_with (first | (go_at_call 95; refine (minus_any _ _ _).mono ?_; rintro e W1 ⟨rfl, h1⟩) | (go_at_call 37; refine (all_any _).mono ?_; rintro e W2 ⟨rfl, h2⟩) | (go_at_call 36; refine (and_any _ _ _).mono ?_; rintro e W3 ⟨rfl, h3⟩; have kr := (((Blk.new' (b := w.heap.size + 1 + 1) (by simp)).ext h1).ext h2).ext h3; have cr := kr.cell; have fr := kr.frozen))
  have c2 := ((kr.set_ 0 (.int .u64 (lo (a &&& ~~~b &&& mAll)))).set_ 1 (.int .u64 (hi (a &&& ~~~b &&& mAll)))).cell
  exact bodyPost_ret (v := .agg #[.int .u64 (lo (a &&& ~~~b &&& mAll)), .int .u64 (hi (a &&& ~~~b &&& mAll))]) (by simp [results, Try.results55, go_sem, c2]) rfl ⟨rfl, ((((((((Ext.refl _).alloc _).alloc _).alloc _).trans h1).trans h2).trans h3).set (by simp; omega) _).set (by simp; omega) _⟩

/-- The kind of a row of ints. -/
def kInt : Kd Int := Kd.plain 1 (fun n => [.int .i64 n]) (fun _ => rfl)
def mBits (l : List Int) : Mask := l.foldl (fun m n => m ||| mBit n.toNat) 0
theorem mBits_snoc (l : List Int) (n : Int) : mBits (l ++ [n]) = mBits l ||| mBit n.toNat := by simp [mBits]
theorem mOf_all {l : List Int} (h : l.all mSlot = true) : mOfM l = mBits l ∧ mOfE l = 0 := by unfold mOfM mOfE mOf mBits; rw [if_pos h]; exact ⟨rfl, rfl⟩
theorem mOf_not {l : List Int} {k : Nat} (hk : k < l.length) (h : mSlot l[k] = false) : mOfM l = 0 ∧ mOfE l = 2 := by
  have hn : ¬ l.all mSlot = true := fun e => by have := List.all_eq_true.1 e _ (List.getElem_mem hk); rw [h] at this; cases this
  unfold mOfM mOfE mOf; rw [if_neg hn]; exact ⟨rfl, rfl⟩
set_option maxHeartbeats 2000000 in
theorem of_any (l : List Int) (v : Value) (w : World) (h : kInt.Sl w v l) : Calls Try.prog 52 #[v] w fun e w' => e = .returned (.tuple #[.agg #[.int .u64 (lo (mOfM l)), .int .u64 (hi (mOfM l))], .int .i64 (mOfE l)]) ∧ Ext w w' := by
  obtain ⟨a, c, rfl, hc, hl, hr⟩ := h.form
  go_enter Try.func52, Try.ntmps52
  go_wp2
  refine named fun W0 hW0 => ?_
  have kr : Blk W0 w.heap.size #[.int .u64 0, .int .u64 0] 31 := Blk.of_eq hW0 ((Blk.new' (by simp)).alloc _)
  have ko : Blk W0 (w.heap.size + 1) #[.int .u64 (lo (mBits [])), .int .u64 (hi (mBits []))] 31 := Blk.of_eq hW0 (Blk.new' (by simp))
  have hB : Ext w W0 := Ext.of_eq hW0 (((Ext.refl _).alloc _).alloc _)
  clear hW0
  go_loopg [9] l.length (fun gg s8 wr => ∃ k : Nat, k ≤ l.length ∧ l.length - k ≤ gg ∧ s8 = .int .i64 k ∧ Hid ((l.take k).all mSlot = true) ∧ Blk wr w.heap.size #[.int .u64 0, .int .u64 0] 31 ∧
    Blk wr (w.heap.size + 1) #[.int .u64 (lo (mBits (l.take k))), .int .u64 (hi (mBits (l.take k)))] 31 ∧ Ext w wr)
  case atStart => exact ⟨0, Nat.zero_le _, by omega, rfl, by simp [Hid], kr, ko, hB⟩
  case round =>
    clear kr ko hB
    obtain ⟨k, hk, hg, rfl, hall, kr, ko, hB⟩ := hrel
    by_cases hlt : k < l.length
    · obtain ⟨b, off, cs, ha, rfl, hcell⟩ := (hr.ext hB).at_ hlt
      have hx := run_at (P := Try.prog) 26 3 1 Try.underlying26 Try.sizeOf3 (c := c) ha hlt
      have c0 : wr.cell? ⟨b, off + k * 1, none⟩ = _ := hcell 0 _ rfl
      rw [Nat.mul_one] at hx c0
      have co := ko.cell
      clear hcell ha
      have hs := slot_any l[k]
      cases hm : mSlot l[k] with
      | true =>
        rw [hm] at hs
        obtain ⟨h0, h1⟩ : 0 ≤ l[k] ∧ l[k] < 96 := by simpa [mSlot] using hm
        have hgr : Hid (mBits (l.take (k + 1)) = mBits (l.take k) ||| mBit (l[k]).toNat) := by unfold Hid; rw [take_snoc _ _ hlt, mBits_snoc]
        have hal : Hid ((l.take (k + 1)).all mSlot = true) := by unfold Hid; rw [take_snoc _ _ hlt, List.all_append, hall.out]; simp [hm]
        clear hm
        go_wp2_with (go_at_call 46; refine (hs _).mono ?_; rintro e W1 ⟨rfl, rfl⟩)
        refine region_tail (Ext _) 4 (by kernel_rfl) (by kernel_rfl) (Ext.drew' (Below.refl _ _)) ?_
        simp only [List.take_succ_cons, List.take_zero, List.drop_succ_cons, List.drop_zero]
        repeat (first | (refine quiet_op ?_ ?_; (focus (go_simp; done)); apply Exists.intro; refine ⟨fun W hW => ?_, ?_⟩; (focus (have hc := hW.cellR; go_simp; first | exact rfl | (go_at_call 47; refine (bit_any _ h0 h1 _).mono ?_; rintro e w' ⟨rfl, hx⟩; exact ⟨rfl, hW.trans hx⟩) | (go_at_call 35; refine (or_any _ _ _).mono ?_; rintro e w' ⟨rfl, hx⟩; exact ⟨rfl, hW.trans hx⟩))); simp only [Act.put, List.setIfInBounds_toArray, List.set_cons_succ, List.set_cons_zero]) | (refine quiet_skip ?_ ?_; (focus (go_simp; done)); simp only [Act.put, List.setIfInBounds_toArray, List.set_cons_succ, List.set_cons_zero]))
        refine wpQuiet_nil ?_
        intro W1 hW1
        replace kr := kr.ext hW1
        replace ko := ko.ext hW1
        replace hB := hB.trans hW1
        clear co c0
        have cr := ko.cell; have fr := ko.frozen
        go_wp2
        go_roundg (l.length - (k + 1))
        case measure => omega
        case rel => exact ⟨k + 1, by omega, by omega, by go_num, hal, (kr.far (by simp) _).far (by simp) _, by rw [hgr.out]; exact (ko.set_ 0 _).set_ 1 _, (hB.set (by simp) _).set (by simp) _⟩
      | false =>
        rw [hm] at hs
        have E : Hid _ := mOf_not hlt hm
        clear hm
        have cr := kr.cell; have fr := kr.frozen
        go_wp2_with (go_at_call 46; refine (hs _).mono ?_; rintro e W1 ⟨rfl, rfl⟩)
        have c2 := ((kr.set_ 0 (.int .u64 0)).set_ 1 (.int .u64 0)).cell
        exact bodyPost_ret (v := .tuple #[.agg #[.int .u64 0, .int .u64 0], .int .i64 2]) (by simp [results, Try.results52, go_sem, c2]) rfl ⟨by rw [E.out.1, E.out.2, lo_zero, hi_zero], (hB.set (by simp) _).set (by simp) _⟩
    · obtain rfl : k = l.length := by omega
      rw [List.take_length] at ko hall
      have E : Hid _ := mOf_all hall.out
      have co := ko.cell
      have cr := kr.cell; have fr := kr.frozen
      go_wp2
      have c2 := ((kr.set_ 0 (.int .u64 (lo (mBits l)))).set_ 1 (.int .u64 (hi (mBits l)))).cell
      exact bodyPost_ret (v := .tuple #[.agg #[.int .u64 (lo (mBits l)), .int .u64 (hi (mBits l))], .int .i64 0]) (by simp [results, Try.results52, go_sem, c2]) rfl ⟨by rw [E.out.1, E.out.2], (hB.set (by simp) _).set (by simp) _⟩

set_option maxHeartbeats 1000000 in
theorem with_any (k : Nat) (ek : ∀ args w, (callFunc k args).run Try.prog w = .ok (.enter k args) w) (f : Mask → Mask → Mask) (hf : ∀ a b w, Calls Try.prog k #[.agg #[.int .u64 (lo (a)), .int .u64 (hi (a))], .agg #[.int .u64 (lo (b)), .int .u64 (hi (b))]] w fun e w' => e = .returned (.agg #[.int .u64 (lo (f a b)), .int .u64 (hi (f a b))]) ∧ Ext w w') (m : Mask) (n : Int) (w : World) :
    Calls Try.prog 106 #[.agg #[.int .u64 (lo (m)), .int .u64 (hi (m))], .int .i64 n, .func (.func k) #[] #[]] w fun e w' => e = .returned (.tuple #[.agg #[.int .u64 (lo (mDo f m n)), .int .u64 (hi (mDo f m n))], .int .i64 (mWithE m n)]) ∧ Ext w w' := by
  unfold mDo mWithE
  have hs := slot_any n
  have hc := check_any m
  cases hm : mCheck m with
  | false =>
    rw [hm] at hc
    simp only [Bool.false_and, Bool.false_eq_true, if_false, lo_zero, hi_zero] at hc ⊢
    clear hm
    go_enter Try.func106, Try.ntmps106
    go_wp2_with (go_at_call 75; refine (hc _).mono ?_; rintro e W1 ⟨rfl, h1⟩; have kr := (Blk.new' (b := w.heap.size + 1) (by simp)).ext h1; have cr := kr.cell; have fr := kr.frozen)
    have c2 := ((kr.set_ 0 (.int .u64 0)).set_ 1 (.int .u64 0)).cell
    exact bodyPost_ret (v := .tuple #[.agg #[.int .u64 0, .int .u64 0], .int .i64 200]) (by simp [results, Try.results106, go_sem, c2]) rfl ⟨rfl, (((((Ext.refl _).alloc _).alloc _).trans h1).set (by simp) _).set (by simp) _⟩
  | true =>
    rw [hm] at hc
    simp only [if_true] at hc
    cases hn : mSlot n with
    | false =>
      rw [hn] at hs
      simp only [Bool.and_false, Bool.false_eq_true, if_false, if_true, lo_zero, hi_zero]
      clear hm hn
      go_enter Try.func106, Try.ntmps106
      go_wp2_with (first | (go_at_call 75; refine (hc _).mono ?_; rintro e W1 ⟨rfl, h1⟩; have kr := (Blk.new' (b := w.heap.size + 1) (by simp)).ext h1; have cr := kr.cell; have fr := kr.frozen) | (go_at_call 46; refine (hs _).mono ?_; rintro e W2 ⟨rfl, rfl⟩))
      have c2 := ((kr.set_ 0 (.int .u64 0)).set_ 1 (.int .u64 0)).cell
      exact bodyPost_ret (v := .tuple #[.agg #[.int .u64 0, .int .u64 0], .int .i64 2]) (by simp [results, Try.results106, go_sem, c2]) rfl ⟨rfl, (((((Ext.refl _).alloc _).alloc _).trans h1).set (by simp) _).set (by simp) _⟩
    | true =>
      rw [hn] at hs
      obtain ⟨p0, p1⟩ : 0 ≤ n ∧ n < 96 := by simpa [mSlot] using hn
      simp only [Bool.and_true, if_true]
      clear hm hn
      go_enter Try.func106, Try.ntmps106
      go_wp2_with (first | (go_at_call 75; refine (hc _).mono ?_; rintro e W1 ⟨rfl, h1⟩; have ka := ((Blk.new' (b := w.heap.size) (by simp)).alloc _).ext h1; have kr := (Blk.new' (b := w.heap.size + 1) (by simp)).ext h1; have hB := (((Ext.refl _).alloc _).alloc _).trans h1; have ca := ka.cell) | (go_at_call 46; refine (hs _).mono ?_; rintro e W2 ⟨rfl, rfl⟩))
      refine region_tail (Ext _) 5 (by kernel_rfl) (by kernel_rfl) (Ext.drew' (Below.refl _ _)) ?_
      simp only [List.take_succ_cons, List.take_zero, List.drop_succ_cons, List.drop_zero]
      repeat (first | (refine quiet_op ?_ ?_; (focus (go_simp; done)); apply Exists.intro; refine ⟨fun W hW => ?_, ?_⟩; (focus (have hc := hW.cellR; go_simp; first | exact rfl | (go_at_call 47; refine (bit_any _ p0 p1 _).mono ?_; rintro e w' ⟨rfl, hx⟩; exact ⟨rfl, hW.trans hx⟩) | (refine (hf _ _ _).mono ?_; rintro e w' ⟨rfl, hx⟩; exact ⟨rfl, hW.trans hx⟩))); simp only [Act.put, List.setIfInBounds_toArray, List.set_cons_succ, List.set_cons_zero]) | (refine quiet_skip ?_ ?_; (focus (go_simp; done)); simp only [Act.put, List.setIfInBounds_toArray, List.set_cons_succ, List.set_cons_zero]))
      refine wpQuiet_nil ?_
      intro W2 hW1
      replace kr := kr.ext hW1
      replace hB := hB.trans hW1
      have cr := kr.cell; have fr := kr.frozen
      go_wp2
      have c2 := ((kr.set_ 0 (.int .u64 (lo (f m (mBit n.toNat))))).set_ 1 (.int .u64 (hi (f m (mBit n.toNat))))).cell
      exact bodyPost_ret (v := .tuple #[.agg #[.int .u64 (lo (f m (mBit n.toNat))), .int .u64 (hi (f m (mBit n.toNat)))], .int .i64 0]) (by simp [results, Try.results106, go_sem, c2]) rfl ⟨rfl, (hB.set (by simp) _).set (by simp) _⟩

theorem With_any (m : Mask) (n : Int) (w : World) :
    Calls Try.prog 88 #[.agg #[.int .u64 (lo (m)), .int .u64 (hi (m))], .int .i64 n] w fun e w' => e = .returned (.tuple #[.agg #[.int .u64 (lo (mWith m n)), .int .u64 (hi (mWith m n))], .int .i64 (mWithE m n)]) ∧ Ext w w' := by
  have H := with_any 35 (enters_of Try.func35 (by kernel_rfl) rfl) _ or_any m n
  rw [show mDo (fun a b => a ||| b) m n = mWith m n from rfl] at H
  generalize mWithE m n = q at H ⊢
  generalize mWith m n = r at H ⊢
  go_enter Try.func88, Try.ntmps88
  go_wp2_with (go_at_call 106; refine (H _).mono ?_; rintro e W1 ⟨rfl, h1⟩; have kr := (Blk.new' (b := w.heap.size + 1) (by simp)).ext h1; have cr := kr.cell; have fr := kr.frozen)
  have c2 := ((kr.set_ 0 (.int .u64 (lo r))).set_ 1 (.int .u64 (hi r))).cell
  exact bodyPost_ret (v := .tuple #[.agg #[.int .u64 (lo (r)), .int .u64 (hi (r))], .int .i64 q]) (by simp [results, Try.results88, go_sem, c2]) rfl ⟨rfl, (((((Ext.refl _).alloc _).alloc _).trans h1).set (by simp) _).set (by simp) _⟩

theorem ones_any (x : Int) (h0 : 0 ≤ x) (h1 : x ≤ 18446744073709551615) (w : World) : Calls Try.prog 43 #[.int .u64 x] w fun e w' => e = .returned (.int .i64 (oc x)) ∧ w = w' := by
  go_enter Try.func43, Try.ntmps43
  go_wp2
  go_ret
  exact ⟨rfl, rfl⟩
theorem oc_lo (m : Mask) : oc (lo m) = (Pop.dsum 1 64 (m.extractLsb' 0 64).toNat : Nat) := by unfold lo; exact oc_nat _ (m.extractLsb' 0 64).isLt
theorem oc_hi (m : Mask) : oc (hi m) = (Pop.dsum 1 64 (m.extractLsb' 64 64).toNat : Nat) := by unfold hi; exact oc_nat _ (m.extractLsb' 64 64).isLt
theorem pop_words (m : Mask) : ((pop m : Nat) : Int) = oc (lo m) + oc (hi m) := by rw [oc_lo, oc_hi, pop_split]; omega
theorem countP_le_len {α : Type} (p : α → Bool) (l : List α) : l.countP p ≤ l.length := List.countP_le_length
theorem oc_le (x : Nat) (hx : x < 18446744073709551616) : 0 ≤ oc (x : Int) ∧ oc (x : Int) ≤ 64 := by
  rw [oc_nat x hx, dsum_bits]
  have := countP_le_len (fun i => x.testBit i) (List.range 64)
  rw [List.length_range] at this
  omega
set_option maxHeartbeats 1000000 in
theorem count_any (m : Mask) (w : World) : Calls Try.prog 14 #[.agg #[.int .u64 (lo (m)), .int .u64 (hi (m))]] w fun e w' => e = .returned (.int .i64 (mCount m)) ∧ Ext w w' := by
  have E : Hid (((mCount m : Nat) : Int) = oc (lo (m &&& mAll)) + oc (hi (m &&& mAll))) := pop_words (m &&& mAll)
  have b0 := oc_le ((m &&& mAll).extractLsb' 0 64).toNat ((m &&& mAll).extractLsb' 0 64).isLt
  have b1 := oc_le ((m &&& mAll).extractLsb' 64 64).toNat ((m &&& mAll).extractLsb' 64 64).isLt
  change 0 ≤ oc (lo (m &&& mAll)) ∧ oc (lo (m &&& mAll)) ≤ 64 at b0
  change 0 ≤ oc (hi (m &&& mAll)) ∧ oc (hi (m &&& mAll)) ≤ 64 at b1
  obtain ⟨b00, b01⟩ := b0
  obtain ⟨b10, b11⟩ := b1
  have i0 : ∀ w, (Instr.index 31 (.agg #[.int .u64 (lo (m &&& mAll)), .int .u64 (hi (m &&& mAll))]) (.int .i64 0)).run Try.prog w = .ok (.int .u64 (lo (m &&& mAll))) w := fun _ => by kernel_rfl
  have i1 : ∀ w, (Instr.index 31 (.agg #[.int .u64 (lo (m &&& mAll)), .int .u64 (hi (m &&& mAll))]) (.int .i64 1)).run Try.prog w = .ok (.int .u64 (hi (m &&& mAll))) w := fun _ => by kernel_rfl
  have o0 := fun w => ones_any (lo (m &&& mAll)) (lo_bd _).1 (lo_bd _).2 w
  have o1 := fun w => ones_any (hi (m &&& mAll)) (hi_bd _).1 (hi_bd _).2 w
  go_enter Try.func14, Try.ntmps14
  go_wp2
  refine named fun W0 hW0 => ?_
  have ka : Blk W0 w.heap.size _ _ := Blk.of_eq hW0 (Blk.new' (by simp))
  have hB : Ext w W0 := Ext.of_eq hW0 ((Ext.refl _).alloc _)
  have ca := ka.cell
  clear hW0
  go_wp2
  refine region_all (Ext _) (by kernel_rfl) (by kernel_rfl) (Ext.drew' (Below.refl _ _)) ?_
  repeat (first | (refine quiet_op ?_ ?_; (focus (go_simp; done)); apply Exists.intro; refine ⟨fun W hW => ?_, ?_⟩; (focus (have hc := hW.cellR; go_simp; first | exact rfl | (go_at_call 37; refine (all_any _).mono ?_; rintro e w' ⟨rfl, hx⟩; exact ⟨rfl, hW.trans hx⟩) | (go_at_call 36; refine (and_any _ _ _).mono ?_; rintro e w' ⟨rfl, hx⟩; exact ⟨rfl, hW.trans hx⟩))); simp only [Act.put, List.setIfInBounds_toArray, List.set_cons_succ, List.set_cons_zero]) | (refine quiet_skip ?_ ?_; (focus (go_simp; done)); simp only [Act.put, List.setIfInBounds_toArray, List.set_cons_succ, List.set_cons_zero]))
  refine wpQuiet_nil ?_
  intro W1 hW1
  go_wp2
  refine wp_loop_rounds 3 ?_
  rw [rounds_succ]
  go_wp2_with (go_at_call 43; refine (o0 _).mono ?_; rintro e w' ⟨rfl, rfl⟩)
  rw [rounds_succ]
  go_wp2_with (go_at_call 43; refine (o1 _).mono ?_; rintro e w' ⟨rfl, rfl⟩)
  rw [rounds_succ]
  go_wp2
  go_ret
  exact ⟨by rw [E.out]; simp, hB.trans hW1⟩

end Go.Proofs.Ytiolpknfdabijaa
