/- Further functions of layer 10: below, Not, Place. -/
import Derived.Test.YtiolpknfdabijaaDoorProg
import Derived.Test.YtiolpknfdabijaaDoorLib
import Derived.Test.YtiolpknfdabijaaDoorPure
import Derived.Test.YtiolpknfdabijaaDoorPop
import Derived.Test.YtiolpknfdabijaaDoorMask
import Derived.Test.YtiolpknfdabijaaDoorMask2
import Derived.Test.YtiolpknfdabijaaDoorIter
set_option linter.unusedVariables false
set_option linter.unusedSimpArgs false
namespace Go.Proofs.YtiolpknfdabijaaDoor
open Go.RowKit

attribute [local go_sem] Oper.semAt_some

theorem lo_below (k : Nat) (h : k ≤ 64) : lo (mBelow k) = (2 ^ k - 1 : Nat) ∧ hi (mBelow k) = 0 := by
  have hk : (2 : Nat) ^ k ≤ 2 ^ 64 := Nat.pow_le_pow_right (by omega) h
  have hp := Nat.two_pow_pos k
  have e : (mBelow k).toNat = 2 ^ k - 1 := by unfold mBelow; rw [BitVec.toNat_ofNat]; exact Nat.mod_eq_of_lt (by omega)
  unfold lo hi
  rw [BitVec.extractLsb'_toNat, BitVec.extractLsb'_toNat, e]
  constructor
  · rw [Nat.shiftRight_zero, Nat.mod_eq_of_lt (by omega)]
  · rw [Nat.shiftRight_eq_div_pow, Nat.div_eq_of_lt (by omega)]; rfl
theorem hi_below (k : Nat) (h0 : 64 ≤ k) (h : k ≤ 96) : lo (mBelow k) = 18446744073709551615 ∧ hi (mBelow k) = (2 ^ (k - 64) - 1 : Nat) := by
  have hk : (2 : Nat) ^ (k - 64) ≤ 2 ^ 32 := Nat.pow_le_pow_right (by omega) (by omega)
  have hp := Nat.two_pow_pos (k - 64)
  have hs : (2 : Nat) ^ k = 2 ^ (k - 64) * 18446744073709551616 := by rw [show (18446744073709551616 : Nat) = 2 ^ 64 from rfl, ← Nat.pow_add]; congr 1; omega
  have e : (mBelow k).toNat = 2 ^ (k - 64) * 18446744073709551616 - 1 := by unfold mBelow; rw [BitVec.toNat_ofNat, hs]; exact Nat.mod_eq_of_lt (by omega)
  unfold lo hi
  rw [BitVec.extractLsb'_toNat, BitVec.extractLsb'_toNat, e, Nat.shiftRight_zero, Nat.shiftRight_eq_div_pow]
  generalize 2 ^ (k - 64) = q at *
  omega
theorem wrap_pow (k : Nat) (h : k < 64) : IntKind.u64.wrap (IntKind.u64.wrap (2 ^ k) - 1) = ((2 ^ k - 1 : Nat) : Int) := by
  have hk : (2 : Nat) ^ k < 2 ^ 64 := Nat.pow_lt_pow_right (by omega) h
  have hp := Nat.two_pow_pos k
  have e : ((2 : Int) ^ k) = ((2 ^ k : Nat) : Int) := by simp
  rw [IntKind.wrap_u64, IntKind.wrap_u64, e]
  generalize 2 ^ k = q at *
  omega
theorem below_any (n : Int) (h0 : 0 ≤ n) (h1 : n ≤ 96) (w : World) : Calls Tryd.prog 25 #[.int .i64 n] w fun e w' => e = .returned (.agg #[.int .u64 (lo (mBelow n.toNat)), .int .u64 (hi (mBelow n.toNat))]) ∧ Ext w w' := by
  by_cases hn : n < 64
  · obtain ⟨e1, e2⟩ := lo_below n.toNat (by omega)
    rw [e1, e2]
    have E := wrap_pow n.toNat (by omega)
    generalize (2 ^ n.toNat - 1 : Nat) = r at *
    clear e1 e2
    by_cases hz : 0 < n
    · go_enter Tryd.func25, Tryd.ntmps25
      go_wp2
      refine wp_loop_rounds 3 ?_
      rw [rounds_succ]
      go_wp2
      rw [rounds_succ]
      go_wp2
      rw [rounds_succ]
      go_wp2
      exact bodyPost_ret (v := .agg #[.int .u64 (r : Int), .int .u64 0]) (by simp [results, Tryd.results25, go_sem]) rfl ⟨rfl, ((Ext.refl _).alloc _).alloc _⟩
    · obtain rfl : n = 0 := by omega
      have E2 : (r : Int) = 0 := by rw [← E]; rfl
      rw [E2]
      clear E E2
      go_enter Tryd.func25, Tryd.ntmps25
      go_wp2
      refine wp_loop_rounds 3 ?_
      rw [rounds_succ]
      go_wp2
      rw [rounds_succ]
      go_wp2
      rw [rounds_succ]
      go_wp2
      exact bodyPost_ret (v := .agg #[.int .u64 0, .int .u64 0]) (by simp [results, Tryd.results25, go_sem]) rfl ⟨rfl, ((Ext.refl _).alloc _).alloc _⟩
  · obtain ⟨e1, e2⟩ := hi_below n.toNat (by omega) (by omega)
    rw [e1, e2]
    have E := wrap_pow (n.toNat - 64) (by omega)
    generalize (2 ^ (n.toNat - 64) - 1 : Nat) = r at *
    clear e1 e2
    have ht : (n - 64).toNat = n.toNat - 64 := by omega
    rw [← ht] at E
    clear ht
    by_cases hz : 64 < n
    · go_enter Tryd.func25, Tryd.ntmps25
      go_wp2
      refine wp_loop_rounds 3 ?_
      rw [rounds_succ]
      go_wp2
      rw [rounds_succ]
      go_wp2
      rw [rounds_succ]
      go_wp2
      exact bodyPost_ret (v := .agg #[.int .u64 18446744073709551615, .int .u64 (r : Int)]) (by simp [results, Tryd.results25, go_sem]) rfl ⟨rfl, ((Ext.refl _).alloc _).alloc _⟩
    · obtain rfl : n = 64 := by omega
      have E2 : (r : Int) = 0 := by rw [← E]; rfl
      rw [E2]
      clear E E2
      go_enter Tryd.func25, Tryd.ntmps25
      go_wp2
      refine wp_loop_rounds 3 ?_
      rw [rounds_succ]
      go_wp2
      rw [rounds_succ]
      go_wp2
      rw [rounds_succ]
      go_wp2
      exact bodyPost_ret (v := .agg #[.int .u64 18446744073709551615, .int .u64 0]) (by simp [results, Tryd.results25, go_sem]) rfl ⟨rfl, ((Ext.refl _).alloc _).alloc _⟩

theorem Not_any (m : Mask) (w : World) : Calls Tryd.prog 15 #[.agg #[.int .u64 (lo (m)), .int .u64 (hi (m))]] w fun e w' => e = .returned (.agg #[.int .u64 (lo (mAll &&& ~~~m)), .int .u64 (hi (mAll &&& ~~~m))]) ∧ Ext w w' := by
  go_enter Tryd.func15, Tryd.ntmps15
  go_wp2
  refine named fun W0 hW0 => ?_
  have ka : Blk W0 w.heap.size _ _ := Blk.of_eq hW0 ((Blk.new' (by simp)).alloc _)
  have kr : Blk W0 (w.heap.size + 1) _ _ := Blk.of_eq hW0 (Blk.new' (by simp))
  have hB : Ext w W0 := Ext.of_eq hW0 (((Ext.refl _).alloc _).alloc _)
  have ca := ka.cell
  clear hW0
  go_wp2
  refine region_tail (Ext _) 3 (by kernel_rfl) (by kernel_rfl) (Ext.drew' (Below.refl _ _)) ?_
  simp only [List.take_succ_cons, List.take_zero, List.drop_succ_cons, List.drop_zero]
  repeat (first | (refine quiet_op ?_ ?_; (focus (go_simp; done)); apply Exists.intro; refine ⟨fun W hW => ?_, ?_⟩; (focus (have hc := hW.cellR; go_simp; first | exact rfl | (go_at_call 22; refine (all_any _).mono ?_; rintro e w' ⟨rfl, hx⟩; exact ⟨rfl, hW.trans hx⟩) | (go_at_call 24; refine (minus_any _ _ _).mono ?_; rintro e w' ⟨rfl, hx⟩; exact ⟨rfl, hW.trans hx⟩))); simp only [Act.put, List.setIfInBounds_toArray, List.set_cons_succ, List.set_cons_zero]) | (refine quiet_skip ?_ ?_; (focus (go_simp; done)); simp only [Act.put, List.setIfInBounds_toArray, List.set_cons_succ, List.set_cons_zero]))
  refine wpQuiet_nil ?_
  intro W1 hW1
  replace kr := kr.ext hW1
  replace hB := hB.trans hW1
  clear ca
  have cr := kr.cell; have fr := kr.frozen
  go_wp2
  have c2 := ((kr.set_ 0 (.int .u64 (lo (mAll &&& ~~~m)))).set_ 1 (.int .u64 (hi (mAll &&& ~~~m)))).cell
  exact bodyPost_ret (v := .agg #[.int .u64 (lo (mAll &&& ~~~m)), .int .u64 (hi (mAll &&& ~~~m))]) (by simp [results, Tryd.results15, go_sem, c2]) rfl ⟨rfl, (hB.set (by simp) _).set (by simp) _⟩

def mPlace (m : Mask) (n : Int) : Nat := mCount (m &&& mBelow n.toNat)
set_option maxHeartbeats 1000000 in
theorem place_any (m : Mask) (n : Int) (h0 : 0 ≤ n) (h1 : n ≤ 96) (w : World) : Calls Tryd.prog 12 #[.agg #[.int .u64 (lo (m)), .int .u64 (hi (m))], .int .i64 n] w fun e w' => e = .returned (.int .i64 (mPlace m n)) ∧ Ext w w' := by
  unfold mPlace
  have hcn := count_any (m &&& mBelow n.toNat)
  generalize mCount (m &&& mBelow n.toNat) = r at *
  have hb : ∀ w, Calls Tryd.prog 25 #[.int .i64 (if n < 0 then 0 else n)] w fun e w' => e = .returned (.agg #[.int .u64 (lo (mBelow n.toNat)), .int .u64 (hi (mBelow n.toNat))]) ∧ Ext w w' := by rw [if_neg (by omega)]; exact fun w => below_any n h0 h1 w
  go_enter Tryd.func12, Tryd.ntmps12
  go_wp2
  refine named fun W0 hW0 => ?_
  have ka : Blk W0 w.heap.size _ _ := Blk.of_eq hW0 (Blk.new' (by simp))
  have hB : Ext w W0 := Ext.of_eq hW0 ((Ext.refl _).alloc _)
  have ca := ka.cell
  clear hW0
  go_wp2
  refine region_all (Ext _) (by kernel_rfl) (by kernel_rfl) (Ext.drew' (Below.refl _ _)) ?_
  repeat (first | (refine quiet_op ?_ ?_; (focus (go_simp; done)); apply Exists.intro; refine ⟨fun W hW => ?_, ?_⟩; (focus (have hc := hW.cellR; go_simp; first | exact rfl | (go_at_call 25; refine (hb _).mono ?_; rintro e w' ⟨rfl, hx⟩; exact ⟨rfl, hW.trans hx⟩) | (go_at_call 23; refine (and_any _ _ _).mono ?_; rintro e w' ⟨rfl, hx⟩; exact ⟨rfl, hW.trans hx⟩) | (go_at_call 14; refine (hcn _).mono ?_; rintro e w' ⟨rfl, hx⟩; exact ⟨rfl, hW.trans hx⟩))); simp only [Act.put, List.setIfInBounds_toArray, List.set_cons_succ, List.set_cons_zero]) | (refine quiet_skip ?_ ?_; (focus (go_simp; done)); simp only [Act.put, List.setIfInBounds_toArray, List.set_cons_succ, List.set_cons_zero]))
  refine wpQuiet_nil ?_
  intro W1 hW1
  go_wp2
  go_ret
  exact ⟨rfl, hB.trans hW1⟩

end Go.Proofs.YtiolpknfdabijaaDoor
