/- What the law MaskBack says of masks and rows of numbers. Plain mathematics. -/
import Derived.Test.YtiolpknfdabijaaDoorMask5
import Derived.Test.YtiolpknfdabijaaDoorMask6
set_option linter.unusedVariables false
set_option linter.unusedSimpArgs false
namespace Go.Proofs.YtiolpknfdabijaaDoor
open Go.RowKit
theorem lt_ext : ∀ (xs ys : List Int), xs.Pairwise (· < ·) → ys.Pairwise (· < ·) → (∀ x, x ∈ xs ↔ x ∈ ys) → xs = ys
  | [], [], _, _, _ => rfl
  | [], y :: ys, _, _, h => by have := (h y).2 (by simp); simp at this
  | x :: xs, [], _, _, h => by have := (h x).1 (by simp); simp at this
  | x :: xs, y :: ys, hx, hy, h => by
    have hx' := List.pairwise_cons.1 hx
    have hy' := List.pairwise_cons.1 hy
    have e : x = y := by
      rcases List.mem_cons.1 ((h x).1 (by simp)) with e | h1
      · exact e
      · rcases List.mem_cons.1 ((h y).2 (by simp)) with e | h2
        · exact e.symm
        · have := hx'.1 _ h2
          have := hy'.1 _ h1
          omega
    subst e
    rw [lt_ext xs ys hx'.2 hy'.2 fun z => by
      constructor
      · intro hz
        rcases List.mem_cons.1 ((h z).1 (by simp [hz])) with e | h1
        · subst e; exact absurd (hx'.1 _ hz) (by omega)
        · exact h1
      · intro hz
        rcases List.mem_cons.1 ((h z).2 (by simp [hz])) with e | h1
        · subst e; exact absurd (hy'.1 _ hz) (by omega)
        · exact h1]
theorem compact_inv (d : Array Int) (hs : ∀ i j, i < j → j < d.size → d[i]! ≤ d[j]!) : ∀ m, m ≤ d.size → (Lib.compactUpTo d m).Pairwise (· < ·) ∧ (∀ x, x ∈ Lib.compactUpTo d m ↔ ∃ j, j < m ∧ d[j]! = x) := by
  intro m
  induction m with
  | zero => intro _; simp [Lib.compactUpTo]
  | succ m ih =>
    intro hm
    obtain ⟨h1, h2⟩ := ih (by omega)
    rw [Lib.compactUpTo_succ]
    cases hk : Lib.keeps d m with
    | true =>
      simp only [if_true]
      refine ⟨List.pairwise_append.2 ⟨h1, by simp, fun a ha b hb => ?_⟩, fun x => ?_⟩
      · obtain ⟨j, hj, rfl⟩ := (h2 a).1 ha
        obtain rfl : b = d[m]! := by simpa using hb
        have hk' : m = 0 ∨ d[m]! ≠ d[m - 1]! := by simpa [Lib.keeps] using hk
        rcases hk' with h0 | hne
        · omega
        · have a1 := hs (m - 1) m (by omega) (by omega)
          have a2 : d[j]! ≤ d[m - 1]! := by
            rcases Nat.lt_or_ge j (m - 1) with h | h
            · exact hs j (m - 1) h (by omega)
            · obtain rfl : j = m - 1 := by omega
              exact Int.le_refl _
          omega
      · rw [List.mem_append, h2]
        constructor
        · rintro (⟨j, hj, rfl⟩ | hx)
          · exact ⟨j, by omega, rfl⟩
          · exact ⟨m, by omega, by simpa using Eq.symm (by simpa using hx)⟩
        · rintro ⟨j, hj, rfl⟩
          rcases Nat.lt_or_ge j m with h | h
          · exact .inl ⟨j, h, rfl⟩
          · obtain rfl : j = m := by omega
            exact .inr (by simp)
    | false =>
      simp only [Bool.false_eq_true, if_false, List.append_nil]
      refine ⟨h1, fun x => ?_⟩
      rw [h2]
      constructor
      · rintro ⟨j, hj, rfl⟩
        exact ⟨j, by omega, rfl⟩
      · rintro ⟨j, hj, rfl⟩
        rcases Nat.lt_or_ge j m with h | h
        · exact ⟨j, h, rfl⟩
        · obtain rfl : j = m := by omega
          have hk' : ¬ (j = 0 ∨ d[j]! ≠ d[j - 1]!) := by simpa [Lib.keeps] using hk
          have h0 : j ≠ 0 := fun e => hk' (.inl e)
          have he : d[j]! = d[j - 1]! := Classical.byContradiction fun e => hk' (.inr e)
          exact ⟨j - 1, by omega, he.symm⟩
theorem compact_sorted (l : List Int) : (Lib.compact (msort l)).Pairwise (· < ·) ∧ ∀ x, x ∈ Lib.compact (msort l) ↔ x ∈ l := by
  have hp : (msort l).Pairwise fun a b => a ≤ b := by
    have := List.pairwise_mergeSort (le := fun x y : Int => decide (x ≤ y)) (fun a b c h h' => by simp at *; omega) (fun a b => by simp; omega) l
    exact this.imp (fun h => by simpa using h)
  have hget := List.pairwise_iff_getElem.1 hp
  obtain ⟨h1, h2⟩ := compact_inv (msort l).toArray (fun i j hij hj => by
    have hj' : j < (msort l).length := by simpa using hj
    have hi' : i < (msort l).length := by omega
    have := hget i j hi' hj' hij
    simpa [getElem!_pos, hi', hj'] using this) (msort l).length (by simp)
  refine ⟨h1, fun x => ?_⟩
  show x ∈ Lib.compactUpTo _ _ ↔ _
  rw [h2]
  have hm : x ∈ msort l ↔ x ∈ l := List.mem_mergeSort
  rw [← hm, List.mem_iff_getElem]
  constructor
  · rintro ⟨j, hj, rfl⟩
    exact ⟨j, hj, by simp [getElem!_pos, hj]⟩
  · rintro ⟨j, hj, rfl⟩
    exact ⟨j, hj, by simp [getElem!_pos, hj]⟩
theorem mem_mSlots (m : Mask) (x : Int) : x ∈ mSlots m ↔ 0 ≤ x ∧ x < 96 ∧ m.getLsbD x.toNat = true := by
  unfold mSlots slotsN
  rw [List.mem_map]
  constructor
  · rintro ⟨a, ha, rfl⟩
    obtain ⟨h1, h2⟩ := List.mem_filter.1 ha
    have h1 : a < 96 := by simpa using h1
    exact ⟨by omega, by omega, by simpa using h2⟩
  · rintro ⟨h0, h1, h2⟩
    exact ⟨x.toNat, List.mem_filter.2 ⟨by simp; omega, h2⟩, by omega⟩
theorem mSlots_lt (m : Mask) : (mSlots m).Pairwise (· < ·) := by
  unfold mSlots slotsN
  rw [List.pairwise_map]
  exact ((List.pairwise_lt_range).filter _).imp (fun h => by omega)
theorem mBits_get : ∀ (l : List Int) (m0 : Mask) (i : Nat), (l.foldl (fun m n => m ||| mBit n.toNat) m0).getLsbD i = (m0.getLsbD i || l.any fun n => decide (n.toNat < 128) && decide (n.toNat = i))
  | [], m0, i => by simp
  | n :: l, m0, i => by
    rw [List.foldl_cons, mBits_get l, BitVec.getLsbD_or, List.any_cons]
    unfold mBit
    rw [BitVec.getLsbD_twoPow, Bool.or_assoc]
theorem mOfM_get {l : List Int} (h : l.all mSlot = true) (i : Nat) : (mOfM l).getLsbD i = true ↔ (i : Int) ∈ l := by
  rw [(mOf_all h).1]
  unfold mBits
  rw [mBits_get]
  have hz : (0 : Mask).getLsbD i = false := by simp
  rw [hz, Bool.false_or, List.any_eq_true]
  constructor
  · rintro ⟨n, hn, h2⟩
    have hs := List.all_eq_true.1 h n hn
    obtain ⟨a, b⟩ : 0 ≤ n ∧ n < 96 := by simpa [mSlot] using hs
    have : n.toNat = i := by simp at h2; exact h2.2
    have : n = (i : Int) := by omega
    rwa [← this]
  · intro hi
    have hs := List.all_eq_true.1 h _ hi
    obtain ⟨a, b⟩ : 0 ≤ (i : Int) ∧ (i : Int) < 96 := by simpa [mSlot] using hs
    exact ⟨_, hi, by simp; omega⟩
theorem back_sorted (l : List Int) (h : l.all mSlot = true) : mSlots (mOfM l) = Lib.compact (msort l) := by
  obtain ⟨h1, h2⟩ := compact_sorted l
  refine lt_ext _ _ (mSlots_lt _) h1 fun x => ?_
  rw [h2, mem_mSlots, mOfM_get h]
  constructor
  · rintro ⟨a, b, c⟩
    rwa [show ((x.toNat : Nat) : Int) = x by omega] at c
  · intro hx
    have hs := List.all_eq_true.1 h _ hx
    obtain ⟨a, b⟩ : 0 ≤ x ∧ x < 96 := by simpa [mSlot] using hs
    exact ⟨a, b, by rwa [show ((x.toNat : Nat) : Int) = x by omega]⟩
theorem slots_all (m : Mask) : (mSlots m).all mSlot = true := by
  rw [List.all_eq_true]
  intro x hx
  obtain ⟨a, b, _⟩ := (mem_mSlots m x).1 hx
  simp [mSlot, a, b]
theorem back_of (m : Mask) : mOfM (mSlots m) = mAnds [m] ∧ mOfE (mSlots m) = 0 := by
  refine ⟨?_, (mOf_all (slots_all m)).2⟩
  apply BitVec.eq_of_getLsbD_eq
  intro i hi
  rw [Bool.eq_iff_iff, mOfM_get (slots_all m), mem_mSlots]
  have e : mAnds [m] = mAll &&& m := rfl
  rw [e, BitVec.getLsbD_and, all_getLsbD]
  simp
  omega
theorem below_get (n i : Nat) (hn : n ≤ 96) : (mBelow n).getLsbD i = decide (i < n) := by
  unfold mBelow
  rw [BitVec.getLsbD_ofNat, Nat.testBit_two_pow_sub_one]
  by_cases h : i < n <;> simp [h]; omega
theorem rest_slots (m : Mask) (n : Int) (h0 : 0 ≤ n) (h1 : n ≤ 96) : mSlots (mRest m n) = (mSlots m).filter fun x => decide (n ≤ x) := by
  refine lt_ext _ _ (mSlots_lt _) ((mSlots_lt m).filter _) fun x => ?_
  rw [List.mem_filter, mem_mSlots, mem_mSlots]
  unfold mRest
  rw [BitVec.getLsbD_and]
  by_cases hx : 0 ≤ x ∧ x < 96
  · rw [BitVec.getLsbD_not, below_get _ _ (by omega)]
    have : (x.toNat < n.toNat) ↔ ¬ n ≤ x := by omega
    simp [hx.1, hx.2, this, show x.toNat < 128 by omega]
  · constructor
    · rintro ⟨a, b, _⟩; exact absurd ⟨a, b⟩ hx
    · rintro ⟨⟨a, b, _⟩, _⟩; exact absurd ⟨a, b⟩ hx
theorem below_slots (m : Mask) (n : Int) (h0 : 0 ≤ n) (h1 : n ≤ 96) : mSlots (m &&& mBelow n.toNat) = (mSlots m).filter fun x => decide (x < n) := by
  refine lt_ext _ _ (mSlots_lt _) ((mSlots_lt m).filter _) fun x => ?_
  rw [List.mem_filter, mem_mSlots, mem_mSlots, BitVec.getLsbD_and, below_get _ _ (by omega)]
  by_cases hx : 0 ≤ x ∧ x < 96
  · have : (x.toNat < n.toNat) ↔ x < n := by omega
    simp [hx.1, hx.2, this]
  · constructor
    · rintro ⟨a, b, _⟩; exact absurd ⟨a, b⟩ hx
    · rintro ⟨⟨a, b, _⟩, _⟩; exact absurd ⟨a, b⟩ hx
theorem count_slots (m : Mask) : mCount m = (mSlots m).length := by
  unfold mCount pop mSlots slotsN
  rw [List.countP_eq_length_filter, List.length_map]
  have hr : List.range 128 = List.range 96 ++ (List.range 32).map (96 + ·) := by decide
  rw [hr, List.filter_append, List.length_append]
  have e2 : ((List.range 32).map (96 + ·)).filter (fun i => (m &&& mAll).getLsbD i) = [] := by
    rw [List.filter_eq_nil_iff]
    intro i hi
    obtain ⟨j, hj, rfl⟩ := List.mem_map.1 hi
    rw [BitVec.getLsbD_and, all_getLsbD]
    simp
  rw [e2, List.length_nil, Nat.add_zero]
  congr 1
  apply List.filter_congr
  intro i hi
  have h : i < 96 := by simpa using hi
  rw [BitVec.getLsbD_and, all_getLsbD]
  simp [h]
/-- Where the law asks for the next slot. -/
def atOf (m : Mask) (k : Nat) : Int := if k = 0 then 0 else (mSlots m).getD (k - 1) 0 + 1
theorem at_succ (m : Mask) (k : Nat) (hk : k < (mSlots m).length) : atOf m (k + 1) = (mSlots m)[k] + 1 := by
  unfold atOf
  rw [if_neg (by omega), Nat.add_sub_cancel, List.getD_eq_getElem?_getD, List.getElem?_eq_getElem hk]
  rfl
theorem slot_bd (m : Mask) (k : Nat) (hk : k < (mSlots m).length) : 0 ≤ (mSlots m)[k] ∧ (mSlots m)[k] ≤ 95 ∧ m.getLsbD (mSlots m)[k].toNat = true := by
  obtain ⟨a, b, c⟩ := (mem_mSlots m _).1 (List.getElem_mem hk)
  exact ⟨a, by omega, c⟩
theorem at_bd (m : Mask) (k : Nat) (hk : k ≤ (mSlots m).length) : 0 ≤ atOf m k ∧ atOf m k ≤ 96 := by
  cases k with
  | zero => unfold atOf; simp
  | succ k =>
    rw [at_succ m k (by omega)]
    obtain ⟨a, b, _⟩ := slot_bd m k (by omega)
    omega
theorem filter_at (m : Mask) (k : Nat) (hk : k ≤ (mSlots m).length) : ((mSlots m).filter fun x => decide (atOf m k ≤ x)) = (mSlots m).drop k := by
  have hp := List.pairwise_iff_getElem.1 (mSlots_lt m)
  conv => lhs; rw [← List.take_append_drop k (mSlots m)]
  rw [List.filter_append]
  have e1 : ((mSlots m).take k).filter (fun x => decide (atOf m k ≤ x)) = [] := by
    rw [List.filter_eq_nil_iff]
    intro x hx
    obtain ⟨i, hi, rfl⟩ := List.mem_iff_getElem.1 hx
    have hi' : i < k := by simp at hi; omega
    obtain ⟨k', rfl⟩ : ∃ k', k = k' + 1 := ⟨k - 1, by omega⟩
    rw [at_succ m k' (by omega), List.getElem_take]
    rcases Nat.lt_or_ge i k' with h | h
    · have := hp i k' (by omega) (by omega) h
      simp; omega
    · obtain rfl : i = k' := by omega
      simp; omega
  have e2 : ((mSlots m).drop k).filter (fun x => decide (atOf m k ≤ x)) = (mSlots m).drop k := by
    rw [List.filter_eq_self]
    intro x hx
    obtain ⟨i, hi, rfl⟩ := List.mem_iff_getElem.1 hx
    rw [List.getElem_drop]
    have hi' : k + i < (mSlots m).length := by simp at hi; omega
    cases k with
    | zero =>
      have := (slot_bd m (0 + i) hi').1
      unfold atOf
      simpa using this
    | succ k' =>
      rw [at_succ m k' (by omega)]
      have := hp k' (k' + 1 + i) (by omega) hi' (by omega)
      simp; omega
  rw [e1, e2, List.nil_append]
theorem filter_lt (m : Mask) (k : Nat) (hk : k < (mSlots m).length) : ((mSlots m).filter fun x => decide (x < (mSlots m)[k])) = (mSlots m).take k := by
  have hp := List.pairwise_iff_getElem.1 (mSlots_lt m)
  have e1 : ((mSlots m).take k).filter (fun x => decide (x < (mSlots m)[k])) = (mSlots m).take k := by
    rw [List.filter_eq_self]
    intro x hx
    obtain ⟨i, hi, rfl⟩ := List.mem_iff_getElem.1 hx
    have hi' : i < k := by simp at hi; omega
    rw [List.getElem_take]
    have := hp i k (by omega) hk hi'
    simpa using this
  have e2 : ((mSlots m).drop k).filter (fun x => decide (x < (mSlots m)[k])) = [] := by
    rw [List.filter_eq_nil_iff]
    intro x hx
    obtain ⟨i, hi, rfl⟩ := List.mem_iff_getElem.1 hx
    rw [List.getElem_drop]
    have hi' : k + i < (mSlots m).length := by simp at hi; omega
    rcases Nat.lt_or_ge 0 i with h | h
    · have := hp k (k + i) hk hi' (by omega)
      simp; omega
    · obtain rfl : i = 0 := by omega
      simp
  generalize (mSlots m)[k] = p at *
  conv => lhs; rw [← List.take_append_drop k (mSlots m)]
  rw [List.filter_append, e1, e2, List.append_nil]
theorem back_at (m : Mask) (k : Nat) (hk : k < (mSlots m).length) :
    0 ≤ atOf m k ∧ atOf m k ≤ 96 ∧ mNextB m (atOf m k) = true ∧ mNextN m (atOf m k) = (mSlots m)[k] ∧ mPlace m (mSlots m)[k] = k ∧ mHas m (mSlots m)[k] = true ∧ 0 ≤ (mSlots m)[k] ∧ (mSlots m)[k] ≤ 95 ∧ atOf m (k + 1) = (mSlots m)[k] + 1 := by
  obtain ⟨p0, p1⟩ := at_bd m k (by omega)
  obtain ⟨q0, q1, q2⟩ := slot_bd m k hk
  have hd : (mSlots m).drop k = (mSlots m)[k] :: (mSlots m).drop (k + 1) := List.drop_eq_getElem_cons hk
  refine ⟨p0, p1, ?_, ?_, ?_, ?_, q0, q1, at_succ m k hk⟩
  · unfold mNextB; rw [rest_slots m _ p0 p1, filter_at m k (by omega), hd]; rfl
  · unfold mNextN; rw [rest_slots m _ p0 p1, filter_at m k (by omega), hd]; rfl
  · unfold mPlace; rw [count_slots, below_slots m _ q0 (by omega), filter_lt m k hk, List.length_take]; omega
  · unfold mHas; rw [q2]; simp [mSlot, q0]; omega
theorem back_end (m : Mask) : 0 ≤ atOf m (mSlots m).length ∧ atOf m (mSlots m).length ≤ 96 ∧ mNextB m (atOf m (mSlots m).length) = false ∧ mPlace m 96 = (mSlots m).length := by
  obtain ⟨p0, p1⟩ := at_bd m _ (Nat.le_refl _)
  refine ⟨p0, p1, ?_, ?_⟩
  · unfold mNextB; rw [rest_slots m _ p0 p1, filter_at m _ (Nat.le_refl _), List.drop_length]; rfl
  · unfold mPlace
    rw [count_slots, below_slots m 96 (by omega) (by omega), List.filter_eq_self.2]
    intro x hx
    obtain ⟨_, b, _⟩ := (mem_mSlots m x).1 hx
    simpa using b
end Go.Proofs.YtiolpknfdabijaaDoor
