/- The places of the bits of a word and of a mask, in their order. Plain mathematics. -/
import Derived.Test.YtiolpknfdabijaaDoorPure
import Derived.Test.YtiolpknfdabijaaDoorPop
import Derived.Test.YtiolpknfdabijaaDoorMask
import Derived.Test.YtiolpknfdabijaaDoorMask2
import Derived.Lib.TrailingZeros
import Derived.Laws.Bits64b
set_option linter.unusedVariables false
set_option linter.unusedSimpArgs false
namespace Go.Proofs.YtiolpknfdabijaaDoor
open Go.RowKit

def bitsOf (x : Nat) : List Nat := (List.range 64).filter x.testBit
theorem bitsOf_zero : bitsOf 0 = [] := by simp [bitsOf]
theorem tb_split (k m i : Nat) : (2 ^ k * (2 * m + 1)).testBit i = (decide (k ≤ i) && (decide (i = k) || m.testBit (i - k - 1))) := by
  rw [Nat.mul_comm, Nat.testBit_mul_two_pow]
  by_cases h : k ≤ i
  · simp only [h, decide_true, Bool.true_and]
    obtain ⟨j, rfl⟩ : ∃ j, i = k + j := ⟨i - k, by omega⟩
    cases j with
    | zero => simp [Nat.testBit_zero]
    | succ j =>
      have e : k + (j + 1) - k = j + 1 := by omega
      have e2 : j + 1 - 1 = j := by omega
      rw [e, Nat.testBit_succ, show (2 * m + 1) / 2 = m by omega, e2]
      simp
  · simp [h]
theorem clear_low (k m : Nat) : (2 ^ k * (2 * m + 1)) &&& (2 ^ k * (2 * m + 1) - 1) = 2 ^ k * (2 * m) := by
  have e : 2 ^ k * (2 * m + 1) - 1 = 2 ^ k * (2 * m) + (2 ^ k - 1) := by
    have := Nat.two_pow_pos k
    rw [Nat.mul_add]; omega
  apply Nat.eq_of_testBit_eq
  intro i
  rw [Nat.testBit_and, e, Nat.testBit_two_pow_mul_add _ (by have := Nat.two_pow_pos k; omega), tb_split, Nat.mul_comm (2 ^ k), Nat.testBit_mul_two_pow]
  by_cases h : k ≤ i
  · obtain ⟨j, rfl⟩ : ∃ j, i = k + j := ⟨i - k, by omega⟩
    have h2 : ¬ k + j < k := by omega
    cases j with
    | zero => simp [Nat.testBit_zero]
    | succ j =>
      have e : k + (j + 1) - k = j + 1 := by omega
      have e2 : j + 1 - 1 = j := by omega
      simp only [h, h2, e, if_false, decide_true, Bool.true_and]
      rw [Nat.testBit_succ, show 2 * m / 2 = m by omega, e2]
      simp
  · simp [h]
theorem range_at (k : Nat) (h : k < 64) : List.range 64 = List.range k ++ k :: (List.range (63 - k)).map (k + 1 + ·) := by
  have e : 64 = k + (1 + (63 - k)) := by omega
  conv => lhs; rw [e]
  rw [List.range_add, List.range_add]
  simp [List.range_succ, Function.comp_def, Nat.add_assoc]
theorem bitsOf_step (x : Nat) (h0 : x ≠ 0) (hx : x < 18446744073709551616) : bitsOf x = Lib.ctz 64 x :: bitsOf (x &&& (x - 1)) ∧ Lib.ctz 64 x < 64 := by
  obtain ⟨m, hm, hk⟩ := Lib.ctzFrom_spec 64 x (by omega) hx
  have hc : Lib.ctz 64 x = Lib.ctzFrom 64 x := by unfold Lib.ctz; rw [if_neg h0]
  rw [hc]
  generalize Lib.ctzFrom 64 x = k at *
  refine ⟨?_, hk⟩
  have hy : x &&& (x - 1) = 2 ^ k * (2 * m) := by rw [hm]; exact clear_low k m
  rw [hy]
  subst hm
  unfold bitsOf
  rw [range_at k hk, List.filter_append, List.filter_append, List.filter_cons, List.filter_cons]
  have a1 : (List.range k).filter (2 ^ k * (2 * m + 1)).testBit = [] := by
    rw [List.filter_eq_nil_iff]
    intro i hi
    have : i < k := by simpa using hi
    rw [tb_split]
    simp; omega
  have a2 : (List.range k).filter (2 ^ k * (2 * m)).testBit = [] := by
    rw [List.filter_eq_nil_iff]
    intro i hi
    have : i < k := by simpa using hi
    rw [Nat.mul_comm, Nat.testBit_mul_two_pow]
    simp; omega
  have b1 : (2 ^ k * (2 * m + 1)).testBit k = true := by rw [tb_split]; simp
  have b2 : (2 ^ k * (2 * m)).testBit k = false := by rw [Nat.mul_comm, Nat.testBit_mul_two_pow]; simp [Nat.testBit_zero]
  rw [a1, a2, b1, b2]
  simp only [List.nil_append, if_true, Bool.false_eq_true, if_false, List.cons.injEq, true_and]
  apply List.filter_congr
  intro i hi
  obtain ⟨j, _, rfl⟩ := List.mem_map.1 hi
  have e : k + 1 + j - k = j + 1 := by omega
  have e2 : j + 1 - 1 = j := by omega
  rw [tb_split, Nat.mul_comm (2 ^ k), Nat.testBit_mul_two_pow, e, e2, Nat.testBit_succ, show 2 * m / 2 = m by omega]
  have h3 : ¬ k + 1 + j = k := by omega
  simp only [h3, decide_false, Bool.false_or]

/-- The slots of a mask, in order. -/
def slotsN (m : Mask) : List Nat := (List.range 96).filter fun i => m.getLsbD i
def mSlots (m : Mask) : List Int := (slotsN m).map fun (i : Nat) => (i : Int)
def loN (m : Mask) : Nat := ((m &&& mAll).extractLsb' 0 64).toNat
def hiN (m : Mask) : Nat := ((m &&& mAll).extractLsb' 64 64).toNat
theorem all_getLsbD (i : Nat) : mAll.getLsbD i = decide (i < 96) := by
  have e : mAll = BitVec.ofNat 128 (2 ^ 96 - 1) := rfl
  rw [e, BitVec.getLsbD_ofNat, Nat.testBit_two_pow_sub_one]
  by_cases h : i < 96 <;> simp [h]; omega
theorem slotsN_words (m : Mask) : slotsN m = bitsOf (loN m) ++ (bitsOf (hiN m)).map (64 + ·) := by
  have hr : List.range 96 = List.range 64 ++ (List.range 32).map (64 + ·) := by decide
  have hr2 : List.range 64 = List.range 32 ++ (List.range 32).map (32 + ·) := by decide
  unfold slotsN bitsOf
  rw [hr, List.filter_append, List.filter_map]
  congr 1
  · apply List.filter_congr
    intro i hi
    have h : i < 64 := by simpa using hi
    unfold loN
    rw [← BitVec.getLsbD.eq_1, BitVec.getLsbD_extractLsb', BitVec.getLsbD_and, Nat.zero_add, all_getLsbD]
    simp [h]; omega
  · have e2 : (List.range 64).filter (hiN m).testBit = (List.range 32).filter (hiN m).testBit := by
      rw [hr2, List.filter_append]
      have : ((List.range 32).map (32 + ·)).filter (hiN m).testBit = [] := by
        rw [List.filter_eq_nil_iff]
        intro i hi
        obtain ⟨j, hj, rfl⟩ := List.mem_map.1 hi
        have hj : j < 32 := by simpa using hj
        unfold hiN
        rw [← BitVec.getLsbD.eq_1, BitVec.getLsbD_extractLsb', BitVec.getLsbD_and, all_getLsbD]
        simp; omega
      rw [this, List.append_nil]
    rw [e2]
    congr 1
    apply List.filter_congr
    intro i hi
    have h : i < 32 := by simpa using hi
    unfold hiN
    rw [← BitVec.getLsbD.eq_1, BitVec.getLsbD_extractLsb', BitVec.getLsbD_and, all_getLsbD]
    simp [h, show i < 64 by omega, show 64 + i < 96 by omega]
/-- What is still to come when the word i has the bits x left. -/
def restOf (m : Mask) (i x : Nat) : List Int := if i = 0 then (bitsOf x ++ (bitsOf (hiN m)).map (64 + ·)).map (fun (i : Nat) => (i : Int)) else ((bitsOf x).map (64 + ·)).map (fun (i : Nat) => (i : Int))
theorem rest_first (m : Mask) : restOf m 0 (loN m) = mSlots m := by unfold restOf mSlots; rw [if_pos rfl, slotsN_words]
theorem rest_next (m : Mask) : restOf m 0 0 = restOf m 1 (hiN m) := by unfold restOf; rw [if_pos rfl, if_neg (by omega), bitsOf_zero, List.nil_append]
theorem rest_last (m : Mask) : restOf m 1 0 = [] := by unfold restOf; rw [if_neg (by omega), bitsOf_zero]; rfl
theorem rest_step (m : Mask) (i x : Nat) (hi : i < 2) (h0 : x ≠ 0) (hx : x < 18446744073709551616) : restOf m i x = wrap64 (64 * i + (Lib.ctz 64 x : Nat)) :: restOf m i (x &&& (x - 1)) := by
  obtain ⟨h, hk⟩ := bitsOf_step x h0 hx
  have e1 : wrap64 (64 * (i : Int)) = 64 * i := by unfold wrap64; omega
  have e2 : wrap64 (64 * (i : Int) + (Lib.ctz 64 x : Nat)) = 64 * i + (Lib.ctz 64 x : Nat) := by unfold wrap64; omega
  rw [e2]
  unfold restOf
  rcases Nat.lt_or_ge 0 i with h1 | h1
  · obtain rfl : i = 1 := by omega
    rw [if_neg (by omega), if_neg (by omega), h]
    simp
  · obtain rfl : i = 0 := by omega
    rw [if_pos rfl, if_pos rfl, h]
    simp
theorem slots_len (m : Mask) : (mSlots m).length ≤ 96 := by
  unfold mSlots slotsN
  rw [List.length_map]
  exact Nat.le_trans (List.length_filter_le _ _) (by simp)
end Go.Proofs.YtiolpknfdabijaaDoor
