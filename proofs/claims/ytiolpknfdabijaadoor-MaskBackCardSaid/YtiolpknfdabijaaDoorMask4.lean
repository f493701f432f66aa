/- The slots of a mask: the iterator. -/
import Derived.Test.YtiolpknfdabijaaDoorProg
import Derived.Test.YtiolpknfdabijaaDoorLib
import Derived.Test.YtiolpknfdabijaaDoorPure
import Derived.Test.YtiolpknfdabijaaDoorPop
import Derived.Test.YtiolpknfdabijaaDoorMask
import Derived.Test.YtiolpknfdabijaaDoorMask2
import Derived.Test.YtiolpknfdabijaaDoorIter
import Derived.Test.YtiolpknfdabijaaDoorSlots
import Derived.Test.YtiolpknfdabijaaDoorMask3
set_option linter.unusedVariables false
set_option linter.unusedSimpArgs false
namespace Go.Proofs.YtiolpknfdabijaaDoor
open Go.RowKit

attribute [local go_sem] Oper.semAt_some

theorem slots_fn (m : Mask) (w : World) : Calls Tryd.prog 21 #[.agg #[.int .u64 (lo (m)), .int .u64 (hi (m))]] w fun e w' => e = .returned (.func (.func 40) #[] #[.pointer (some ⟨w.heap.size, 0, none⟩)]) ∧ w.alloc (.cells #[.int .u64 (lo m), .int .u64 (hi m)] 25) = w' := by
  go_enter Tryd.func21, Tryd.ntmps21
  go_wp2
  go_ret
  exact ⟨rfl, rfl⟩
/-- The library's table in its variable. -/
structure Tab (w : World) : Prop where mk :: (out : ∀ j, j < 64 → w.cell? ⟨0, j, none⟩ = some (.int .u8 (Lib.deBruijn64tab.getD j 0 : Nat)))
theorem Tab.ext {w w' : World} (h : Tab w) (e : Ext w w') : Tab w' := ⟨fun j hj => e.cellS (h.out j hj)⟩
theorem tz_key (x a : Nat) (hx : x < 18446744073709551616) (hx0 : x ≠ 0) (hlow : x &&& (18446744073709551616 - x) = a) :
    IntKind.u64.wrap (bits BinOp.and IntKind.u64 (x : Int) (IntKind.u64.wrap (-(x : Int))) * 285870213051353865) / 288230376151711744 = ((a * 285870213051353865 % 18446744073709551616 / 288230376151711744 : Nat) : Int) := by
  have e1 : IntKind.u64.wrap (-(x : Int)) = ((18446744073709551616 - x : Nat) : Int) := by rw [IntKind.wrap_u64]; omega
  rw [e1, bits_and_u64_nat x _ hx (by omega), hlow, IntKind.wrap_u64]
  omega
theorem tz_core (x k idx : Nat) (w : World) (hx0 : ((x : Int) == 0) = false)
    (key : IntKind.u64.wrap (bits BinOp.and IntKind.u64 (x : Int) (IntKind.u64.wrap (-(x : Int))) * 285870213051353865) / 288230376151711744 = (idx : Int))
    (hi : idx < 64) (hk : k < 64) (hcell : w.cell? ⟨0, idx, none⟩ = some (.int .u8 k)) :
    Calls Tryd.prog 41 #[.int .u64 x] w fun e w' => e = .returned (.int .i64 k) ∧ w = w' := by
  go_enter Tryd.func41, Tryd.ntmps41
  go_wp2_with (simp only [key])
  go_ret
  exact ⟨rfl, rfl⟩
theorem tz_any (x : Nat) (hx : x < 18446744073709551616) (hx0 : x ≠ 0) (w : World) (hT : Tab w) :
    Calls Tryd.prog 41 #[.int .u64 x] w fun e w' => e = .returned (.int .i64 (Lib.ctz 64 x : Nat)) ∧ w = w' := by
  obtain ⟨hlow, hk⟩ := Lib.lowest_bit 64 x hx0 hx
  obtain ⟨hi, htab⟩ := Lib.deBruijn64_at _ hk
  have hcell := hT.out _ hi
  rw [htab] at hcell
  exact tz_core x _ _ w (by simp; omega) (tz_key x _ hx hx0 hlow) hi hk hcell
theorem low_step (x : Nat) (hx : x < 18446744073709551616) (h0 : x ≠ 0) : bits .and .u64 (x : Int) ((x : Int) - 1) = ((x &&& (x - 1) : Nat) : Int) := by
  rw [show (x : Int) - 1 = ((x - 1 : Nat) : Int) by omega]
  exact bits_and_nat x (x - 1) _ rfl hx (by omega)
theorem low_less (x : Nat) (h0 : x ≠ 0) : x &&& (x - 1) < x := by
  have : x &&& (x - 1) ≤ x - 1 := Nat.and_le_right
  omega
theorem rest_len (m : Mask) (pre : List Int) (i x : Nat) (hi : i < 2) (h0 : x ≠ 0) (hx : x < 18446744073709551616) (h : mSlots m = pre ++ restOf m i x) : pre.length < (mSlots m).length := by
  rw [h, rest_step m i x hi h0 hx]; simp
theorem lo_word (m : Mask) : lo (m &&& mAll) = (loN m : Nat) := rfl
theorem hi_word (m : Mask) : hi (m &&& mAll) = (hiN m : Nat) := rfl
theorem loN_lt (m : Mask) : loN m < 18446744073709551616 := ((m &&& mAll).extractLsb' 0 64).isLt
theorem hiN_lt (m : Mask) : hiN m < 18446744073709551616 := ((m &&& mAll).extractLsb' 64 64).isLt
def wordOf (m : Mask) (i : Nat) : Nat := if i = 0 then loN m else hiN m
theorem wordOf_lt (m : Mask) (i : Nat) : wordOf m i < 18446744073709551616 := by unfold wordOf; split; exact loN_lt m; exact hiN_lt m
theorem rest_start (m : Mask) (i : Nat) (hi : i < 2) (pre : List Int) (h : mSlots m = pre ++ (if i = 0 then mSlots m else restOf m 0 0)) : mSlots m = pre ++ restOf m i (wordOf m i) := by
  unfold wordOf
  rcases Nat.lt_or_ge 0 i with h1 | h1
  · obtain rfl : i = 1 := by omega
    rw [if_neg (by omega), rest_next] at h
    rw [if_neg (by omega)]; exact h
  · obtain rfl : i = 0 := by omega
    rw [if_pos rfl] at h
    rw [if_pos rfl, rest_first]; exact h
def ahead (m : Mask) (i : Nat) : List Int := if i = 0 then mSlots m else if i = 1 then restOf m 0 0 else []
theorem ahead_start (m : Mask) (i : Nat) (hi : i < 2) : ahead m i = restOf m i (wordOf m i) := by
  unfold ahead wordOf
  rcases Nat.lt_or_ge 0 i with h1 | h1
  · obtain rfl : i = 1 := by omega
    rw [if_neg (by omega), if_pos rfl, if_neg (by omega), rest_next]
  · obtain rfl : i = 0 := by omega
    rw [if_pos rfl, if_pos rfl, rest_first]
theorem ahead_next (m : Mask) (i : Nat) (hi : i < 2) : restOf m i 0 = ahead m (i + 1) := by
  unfold ahead
  rcases Nat.lt_or_ge 0 i with h1 | h1
  · obtain rfl : i = 1 := by omega
    rw [if_neg (by omega), if_neg (by omega), rest_last]
  · obtain rfl : i = 0 := by omega
    rw [if_neg (by omega), if_pos (by omega)]
theorem index_word (m : Mask) (i : Nat) (hlt : i < 2) (w : World) : (Instr.index 25 (.agg #[.int .u64 (lo (m &&& mAll)), .int .u64 (hi (m &&& mAll))]) (.int .i64 (i : Int))).run Tryd.prog w = .ok (.int .u64 (wordOf m i : Nat)) w := by
  unfold wordOf
  rcases Nat.lt_or_ge 0 i with h1 | h1
  · obtain rfl : i = 1 := by omega
    rw [if_neg (by omega), ← hi_word]
    kernel_rfl
  · obtain rfl : i = 0 := by omega
    rw [if_pos rfl, ← lo_word]
    kernel_rfl
set_option maxRecDepth 100000 in
set_option maxHeartbeats 2000000 in
theorem slots1_in (n : Nat) (hn : 1 ≤ n) (l B n₀ : Nat) (m : Mask) (J Jx : List Int → World → Prop) (W : World)
    (hJ : ∀ s A A', J s A → Ext A A' → J s A')
    (hY : ∀ pre x W1, J pre W1 → pre.length < (mSlots m).length → YieldAt Fence.wide (n - 1) Tryd.prog l #[.int .i64 x] W1 fun e W' =>
      (e = .returned (.bool true) ∧ J (pre ++ [x]) W' ∧ Below n₀ W1 W') ∨ (e = .returned (.bool false) ∧ Jx (pre ++ [x]) W'))
    (hn₀ : ∃ w0 : World, w0.heap.size = n₀ ∧ Ext w0 W ∧ Tab w0) (hb : Blk W B #[.int .u64 (lo m), .int .u64 (hi m)] 25) (h0 : J [] W) :
    CallsIn Fence.wide n Tryd.prog 40 #[.func (.yield l) #[] #[], .pointer (some ⟨B, 0, none⟩)] W fun e W' => (∃ v, e = .returned v) ∧
      ((∃ zs, zs = mSlots m ∧ J zs W') ∨ (∃ pre, pre <+: mSlots m ∧ Jx pre W')) := by
  obtain ⟨w0, rfl, hE, hT⟩ := hn₀
  have cb := hb.cell
  refine callsIn_of_wp Tryd.func40 rfl trivial ?_ rfl
  simp only [Tryd.ntmps40, List.size_toArray, List.length_cons, List.length_nil, Nat.reduceAdd, Nat.reduceSub, Array.replicate_succ, Array.replicate_zero, List.push_toArray, List.append_toArray, List.nil_append, List.cons_append]
  gi_wp2
  refine wpIn_wide.2 ?_
  refine region_all (Ext _) (by kernel_rfl) (by kernel_rfl) (Ext.drew' (Below.refl _ _)) ?_
  repeat (first | (refine quiet_op ?_ ?_; (focus (go_simp; done)); apply Exists.intro; refine ⟨fun W hW => ?_, ?_⟩; (focus (have hc := hW.cellR; go_simp; first | exact rfl | (go_at_call 22; refine (all_any _).mono ?_; rintro e w' ⟨rfl, hx⟩; exact ⟨rfl, hW.trans hx⟩) | (go_at_call 23; refine (and_any _ _ _).mono ?_; rintro e w' ⟨rfl, hx⟩; exact ⟨rfl, hW.trans hx⟩))); simp only [Act.put, List.setIfInBounds_toArray, List.set_cons_succ, List.set_cons_zero]) | (refine quiet_skip ?_ ?_; (focus (go_simp; done)); simp only [Act.put, List.setIfInBounds_toArray, List.set_cons_succ, List.set_cons_zero]))
  refine wpQuiet_nil ?_
  intro W1 hW1
  replace hE := hE.trans hW1
  replace h0 := hJ _ _ _ h0 hW1
  clear cb hb hW1
  gi_wp2
  gi_loopw [8] (fun i wr => ∃ (k : Nat) (pre : List Int), k ≤ 2 ∧ i = .int .i64 k ∧ Hid (mSlots m = pre ++ ahead m k) ∧ J pre wr ∧ Ext w0 wr)
    (fun i _ => 2 - (intOf i).toNat)
  case atStart => exact ⟨0, [], by omega, rfl, by unfold Hid ahead; rw [if_pos rfl]; rfl, h0, hE⟩
  case round =>
    clear h0 hE
    obtain ⟨k, pre, hk, rfl, hS, hJ0, hE⟩ := hrel
    by_cases hlt : k < 2
    · have hix := index_word m k hlt
      have hd : decide ((k : Int) < 2) = true := by simp; omega
      replace hS : Hid (mSlots m = pre ++ restOf m k (wordOf m k)) := by unfold Hid; rw [← ahead_start m k hlt]; exact hS.out
      have hwl := wordOf_lt m k
      generalize wordOf m k = x0 at *
      gi_wp2
      gi_loopw [4] (fun x wr => ∃ (y : Nat) (pre : List Int), x = .int .u64 y ∧ y < 18446744073709551616 ∧ Hid (mSlots m = pre ++ restOf m k y) ∧ J pre wr ∧ Ext w0 wr)
        (fun x _ => (intOf x).toNat)
      case atStart => exact ⟨x0, pre, rfl, hwl, hS, hJ0, hE⟩
      case round =>
        clear hJ0 hE hS hix
        obtain ⟨y, pre, rfl, hy, hS, hJ0, hE⟩ := hrel
        by_cases hz : y = 0
        · subst hz
          rw [ahead_next m k hlt] at hS
          gi_wp2
          go_roundw
          case rel => exact ⟨k + 1, pre, by omega, by go_num, hS, hJ0, hE⟩
          case measure => simp [intOf]; omega
        · have hb0 : ((y : Int) == 0) = false := by simp; omega
          have hR0 := hY pre (wrap64 (64 * (k : Int) + (Lib.ctz 64 y : Nat))) wr hJ0 (rest_len m pre k y hlt hz hy hS.out)
          have S : Hid (mSlots m = (pre ++ [wrap64 (64 * (k : Int) + (Lib.ctz 64 y : Nat))]) ++ restOf m k (y &&& (y - 1))) := by unfold Hid; rw [hS.out, rest_step m k y hlt hz hy]; simp
          have PF : Hid ((pre ++ [wrap64 (64 * (k : Int) + (Lib.ctz 64 y : Nat))]) <+: mSlots m) := by unfold Hid; rw [S.out]; exact List.prefix_append _ _
          have hlow := low_step y hy hz
          have hless := low_less y hz
          have htz := fun W h => tz_any y hy hz W (hT.ext h)
          generalize hq : wrap64 (64 * (k : Int) + (Lib.ctz 64 y : Nat)) = q at *
          obtain ⟨fn, tmps, assign, body, hy', hR⟩ := hR0
          clear hY hS
          have ft : Fence.wide.fn 41 := trivial
          gi_wp2_with (gi_at_call 41; refine ((callsIn_wide (n := n - 1)).2 (htz _ hE)).mono ?_; rintro e w' ⟨rfl, rfl⟩)
          refine hR.mono ?_
          rintro e W3 (⟨rfl, hJ3, hk3⟩ | ⟨rfl, hJx3⟩)
          · gi_wp2
            go_roundw
            case rel => exact ⟨y &&& (y - 1), pre ++ [q], by go_num, by omega, S, hJ3, Below.trans hE hk3⟩
            case measure => simp [intOf]; omega
          · gi_wp2
            refine bodyPost_ret (results_none rfl _ _ _) rfl ?_
            exact ⟨⟨_, rfl⟩, .inr ⟨_, PF.out, hJx3⟩⟩
    · obtain rfl : k = 2 := by omega
      have S : Hid (pre = mSlots m) := by unfold Hid; rw [hS.out]; unfold ahead; rw [if_neg (by omega), if_neg (by omega), List.append_nil]
      gi_wp2
      go_end0
      exact ⟨⟨_, rfl⟩, .inl ⟨_, rfl, by rw [← S.out]; exact hJ0⟩⟩

end Go.Proofs.YtiolpknfdabijaaDoor
