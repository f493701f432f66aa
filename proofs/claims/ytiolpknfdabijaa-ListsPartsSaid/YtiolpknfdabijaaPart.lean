/- Lists that are built: each used slot is in just one list, that of the nearest centroid. Plain mathematics. -/
import Derived.Test.YtiolpknfdabijaaPure
import Derived.Test.YtiolpknfdabijaaMask2
import Derived.Test.YtiolpknfdabijaaVec4
import Derived.Test.YtiolpknfdabijaaLists2
import Derived.Test.YtiolpknfdabijaaLists4
import Derived.Test.YtiolpknfdabijaaLists6
import Derived.Test.YtiolpknfdabijaaLists7
import Derived.Test.YtiolpknfdabijaaLists11
import Derived.Test.YtiolpknfdabijaaArena4
import Derived.Test.YtiolpknfdabijaaLists10
set_option linter.unusedVariables false
set_option linter.unusedSimpArgs false
namespace Go.Proofs.Ytiolpknfdabijaa
open Go.RowKit

/-! ### The nearest -/
theorem nst_lt (v : Vec) (l : List Vec) (h0 : 0 < l.length) : ∀ k, k ≤ l.length → (nst v l k).1 < l.length
  | 0, _ => by rw [nst_zero]; exact h0
  | k + 1, h => by
    rw [nst_succ v l k (by omega)]
    have := nst_lt v l h0 k (by omega)
    split
    · show k < _; omega
    · exact this
theorem near_lt (v : Vec) (l : List Vec) (h0 : 0 < l.length) : vNear l v < l.length := by
  have := nst_lt v l h0 l.length (Nat.le_refl _)
  rw [nst_all] at this
  exact this
theorem nst_min (v : Vec) (l : List Vec) (h0 : 0 < l.length) : ∀ k, k ≤ l.length → (nst v l k).2 = vDist (l.getD (nst v l k).1 []) v ∧ ∀ i, i < k → (nst v l k).2 ≤ vDist (l.getD i []) v ∧ (vDist (l.getD i []) v = (nst v l k).2 → (nst v l k).1 ≤ i)
  | 0, _ => by
    rw [nst_zero]
    refine ⟨?_, fun i hi => by omega⟩
    cases l with
    | nil => simp at h0
    | cons x l => rfl
  | k + 1, h => by
    have ih := nst_min v l h0 k (by omega)
    have hle := nst_le v l k (by omega)
    have hk : k < l.length := by omega
    have eg : l.getD k [] = l[k] := by rw [List.getD_eq_getElem?_getD, List.getElem?_eq_getElem hk]; rfl
    rw [nst_succ v l k hk]
    by_cases hd : vDist l[k] v < (nst v l k).2
    · rw [if_pos hd]
      refine ⟨by rw [eg], fun i hi => ?_⟩
      rcases Nat.lt_or_ge i k with h' | h'
      · have := (ih.2 i h').1
        dsimp only
        omega
      · obtain rfl : i = k := by omega
        rw [eg]
        dsimp only
        omega
    · rw [if_neg hd]
      refine ⟨ih.1, fun i hi => ?_⟩
      rcases Nat.lt_or_ge i k with h' | h'
      · exact ih.2 i h'
      · obtain rfl : i = k := by omega
        rw [eg]
        omega
theorem near_min (v : Vec) (l : List Vec) (h0 : 0 < l.length) (i : Nat) (hi : i < l.length) : vDist (l.getD (vNear l v) []) v ≤ vDist (l.getD i []) v ∧ (vDist (l.getD i []) v = vDist (l.getD (vNear l v) []) v → vNear l v ≤ i) := by
  have h := nst_min v l h0 l.length (Nat.le_refl _)
  rw [nst_all] at h
  have h1 := h.1
  have h2 := h.2 i hi
  unfold vNear
  rw [← h1]
  exact h2

/-! ### Bits -/
theorem allBit (i : Nat) : mAll.getLsbD i = decide (i < 96) := by
  have e : mAll = BitVec.ofNat 128 (2 ^ 96 - 1) := rfl
  rw [e, BitVec.getLsbD_ofNat, Nat.testBit_two_pow_sub_one]
  by_cases h : i < 96 <;> simp [h]; omega
theorem check_of {m : Mask} (h : ∀ j, j < 128 → 96 ≤ j → m.getLsbD j = false) : mCheck m = true := by
  unfold mCheck
  have : m &&& ~~~mAll = 0 := by
    apply BitVec.eq_of_getLsbD_eq
    intro j hj
    rw [BitVec.getLsbD_and, BitVec.getLsbD_not, allBit]
    by_cases h96 : j < 96
    · simp [h96]
    · rw [h j hj (by omega)]; simp
  rw [this]; rfl
theorem ors_bit (j : Nat) : ∀ (ms : List Mask), (mOrs ms).getLsbD j = ms.any (·.getLsbD j)
  | ms => by
    unfold mOrs
    suffices h : ∀ (ms : List Mask) (z : Mask), (ms.foldl (· ||| ·) z).getLsbD j = (z.getLsbD j || ms.any (·.getLsbD j)) by
      rw [h]; simp
    intro ms
    induction ms with
    | nil => intro z; simp
    | cons m ms ih =>
      intro z
      rw [List.foldl_cons, ih, BitVec.getLsbD_or, List.any_cons, Bool.or_assoc]
theorem or_bit (ms : List Mask) (j : Nat) : (mOr ms).getLsbD j = (ms.any (·.getLsbD j) && decide (j < 96)) := by
  unfold mOr
  rw [BitVec.getLsbD_and, ors_bit, allBit]
theorem any_range {α : Type} (l : List α) (d : α) (p : α → Bool) : l.any p = (List.range l.length).any fun i => p (l.getD i d) := by
  rw [Bool.eq_iff_iff, List.any_eq_true, List.any_eq_true]
  constructor
  · rintro ⟨x, hx, hp⟩
    obtain ⟨i, hi, rfl⟩ := List.mem_iff_getElem.1 hx
    refine ⟨i, by simpa using hi, ?_⟩
    rw [List.getD_eq_getElem?_getD, List.getElem?_eq_getElem hi]
    exact hp
  · rintro ⟨i, hi, hp⟩
    have hi : i < l.length := by simpa using hi
    rw [List.getD_eq_getElem?_getD, List.getElem?_eq_getElem hi] at hp
    exact ⟨_, List.getElem_mem hi, hp⟩
/-- The masks part the slots: slot j, if p says so, is in the list q j. -/
structure Parts (ms : List Mask) (p : Nat → Bool) (q : Nat → Nat) : Prop where
  bit : ∀ i, i < ms.length → ∀ j, j < 128 → (ms.getD i 0).getLsbD j = (p j && decide (q j = i))
  low : ∀ j, p j = true → j < 96
  lt : ∀ j, p j = true → q j < ms.length
theorem pop_mask {m : Mask} {p : Nat → Bool} (h : ∀ j, j < 128 → m.getLsbD j = p j) (hl : ∀ j, p j = true → j < 96) : mCount m = (List.range 96).countP p := by
  unfold mCount pop
  have e : List.range 128 = List.range 96 ++ (List.range 32).map (96 + ·) := by rw [← List.range_add]
  rw [e, List.countP_append]
  have h2 : ((List.range 32).map (96 + ·)).countP (fun i => (m &&& mAll).getLsbD i) = 0 := by
    rw [List.countP_eq_zero]
    intro j hj
    obtain ⟨i, _, rfl⟩ := List.mem_map.1 hj
    rw [BitVec.getLsbD_and, allBit]
    simp
  rw [h2, Nat.add_zero]
  refine List.countP_congr fun j hj => ?_
  have hj : j < 96 := by simpa using hj
  rw [BitVec.getLsbD_and, allBit, h j (by omega)]
  simp [hj]
theorem sum_one (t : Nat) : ∀ n, ((List.range n).map fun i => if t = i then 1 else 0).sum = if t < n then 1 else 0
  | 0 => by simp
  | n + 1 => by
    rw [List.range_succ, List.map_append, List.sum_append, sum_one t n]
    by_cases h : t < n
    · have : ¬ t = n := by omega
      simp [h, this]; omega
    · by_cases h2 : t = n
      · subst h2; simp
      · have : ¬ t < n + 1 := by omega
        simp [h, h2, this]
theorem sum_zero (n : Nat) : ((List.range n).map fun _ => 0).sum = 0 := by
  induction n with
  | zero => rfl
  | succ n ih => rw [List.range_succ, List.map_append, List.sum_append, ih]; rfl
theorem sum_add (f g : Nat → Nat) : ∀ (l : List Nat), (l.map fun i => f i + g i).sum = (l.map f).sum + (l.map g).sum
  | [] => rfl
  | x :: l => by
    simp only [List.map_cons, List.sum_cons]
    rw [sum_add f g l]; omega
theorem sum_parts (p : Nat → Bool) (q : Nat → Nat) (n : Nat) (hq : ∀ j, p j = true → q j < n) : ∀ (l : List Nat), ((List.range n).map fun i => l.countP fun j => p j && decide (q j = i)).sum = l.countP p
  | [] => by simpa using sum_zero n
  | x :: l => by
    have e : ∀ i, (x :: l).countP (fun j => p j && decide (q j = i)) = l.countP (fun j => p j && decide (q j = i)) + (if (p x && decide (q x = i)) = true then 1 else 0) := fun i => List.countP_cons
    simp only [e]
    rw [sum_add, sum_parts p q n hq l, List.countP_cons]
    congr 1
    cases hp : p x with
    | true =>
      have := sum_one (q x) n
      rw [if_pos (hq x hp)] at this
      simpa using this
    | false => simpa using sum_zero n
def cntSum (ms : List Mask) : Nat := (ms.map mCount).sum
theorem cntSum_snoc (ms : List Mask) (m : Mask) : cntSum (ms ++ [m]) = cntSum ms + mCount m := by simp [cntSum]
theorem Parts.sum {ms : List Mask} {p : Nat → Bool} {q : Nat → Nat} (h : Parts ms p q) : cntSum ms = (List.range 96).countP p := by
  have e : ms.map mCount = (List.range ms.length).map fun i => (List.range 96).countP fun j => p j && decide (q j = i) := by
    apply List.ext_getElem?
    intro i
    rw [List.getElem?_map, List.getElem?_map]
    rcases Nat.lt_or_ge i ms.length with hi | hi
    · rw [List.getElem?_eq_getElem hi, List.getElem?_range hi]
      simp only [Option.map_some, Option.some.injEq]
      have := h.bit i hi
      rw [List.getD_eq_getElem?_getD, List.getElem?_eq_getElem hi] at this
      exact pop_mask this (fun j hj => h.low j (by simp at hj; exact hj.1))
    · rw [List.getElem?_eq_none hi, List.getElem?_eq_none (by simpa using hi)]; rfl
  unfold cntSum
  rw [e]
  exact sum_parts p q ms.length h.lt _
theorem Parts.or {ms : List Mask} {p : Nat → Bool} {q : Nat → Nat} (h : Parts ms p q) (j : Nat) (hj : j < 128) : (mOr ms).getLsbD j = p j := by
  rw [or_bit, any_range ms 0]
  have : ((List.range ms.length).any fun i => (ms.getD i 0).getLsbD j) = p j := by
    rw [Bool.eq_iff_iff, List.any_eq_true]
    constructor
    · rintro ⟨i, hi, hb⟩
      rw [h.bit i (by simpa using hi) j hj] at hb
      simp at hb
      exact hb.1
    · intro hp
      refine ⟨q j, by simpa using h.lt j hp, ?_⟩
      rw [h.bit _ (h.lt j hp) j hj, hp]
      simp
  rw [this]
  cases hp : p j with
  | true => simp [h.low j hp]
  | false => rfl
theorem Parts.count {ms : List Mask} {p : Nat → Bool} {q : Nat → Nat} (h : Parts ms p q) : mCount (mOr ms) = (List.range 96).countP p := pop_mask h.or h.low
theorem Parts.has {ms : List Mask} {p : Nat → Bool} {q : Nat → Nat} (h : Parts ms p q) (j : Nat) (hj : j < 96) : mHas (mOr ms) j = p j := by
  unfold mHas mSlot
  have e1 : decide ((0 : Int) ≤ (j : Int)) = true := by simp
  have e2 : decide ((j : Int) < 96) = true := by simp; omega
  rw [e1, e2, Int.toNat_natCast, h.or j (by omega)]; rfl
theorem find_congr {α : Type} {p q : α → Bool} : ∀ {l : List α}, (∀ x ∈ l, p x = q x) → l.find? p = l.find? q
  | [], _ => rfl
  | x :: l, h => by
    rw [List.find?_cons, List.find?_cons, h x (by simp), find_congr fun y hy => h y (by simp [hy])]
theorem find_one (b : Bool) (t : Nat) : ∀ (s n : Nat), ((List.range' s n).find? fun j => b && decide (t = j)) = if b = true ∧ s ≤ t ∧ t < s + n then some t else none
  | s, 0 => by
    rw [if_neg (by omega)]; rfl
  | s, n + 1 => by
    rw [List.range'_succ, List.find?_cons]
    cases b with
    | false => simp
    | true =>
      by_cases h : t = s
      · subst h; simp
      · have ih := find_one true t (s + 1) n
        simp only [Bool.true_and, true_and] at ih ⊢
        rw [decide_eq_false h, ih]
        by_cases h2 : s + 1 ≤ t ∧ t < s + 1 + n
        · rw [if_pos h2, if_pos (by omega)]
        · rw [if_neg h2, if_neg (by omega)]
theorem Parts.where_ {l : Lists} {p : Nat → Bool} {q : Nat → Nat} (hok : lsOk l = true) (h : Parts l.masks p q) (j : Nat) (hj : j < 96) : lsWhereB l j = p j ∧ (p j = true → lsWhereN l j = (q j : Int)) := by
  have hw : lsWhere l j = (List.range l.masks.length).find? fun i => p j && decide (q j = i) := by
    unfold lsWhere
    rw [if_pos hok, where_from]
    have e0 : (fun x : Nat => 0 + x) = id := by funext x; simp
    rw [e0, Option.map_id]
    show List.find? _ _ = _
    refine find_congr fun i hi => ?_
    have hi : i < l.masks.length := by simpa using hi
    unfold mHas mSlot
    have e1 : decide ((0 : Int) ≤ (j : Int)) = true := by simp
    have e2 : decide ((j : Int) < 96) = true := by simp; omega
    rw [e1, e2, Int.toNat_natCast, h.bit i hi j (by omega)]; rfl
  rw [List.range_eq_range', find_one] at hw
  unfold lsWhereB lsWhereN
  rw [hw]
  cases hp : p j with
  | true =>
    have := h.lt j hp
    rw [if_pos ⟨rfl, by omega, by omega⟩]
    exact ⟨rfl, fun _ => rfl⟩
  | false => simp
theorem Parts.disj {ms : List Mask} {p : Nat → Bool} {q : Nat → Nat} (h : Parts ms p q) : lsDisj ms = true := by
  refine lsDisj_all fun i hi => ?_
  unfold disjAt metAt
  have hc : mCheck (ms.getD i 0) = true := check_of fun j hj h96 => by
    rw [h.bit i hi j hj]
    cases hp : p j with
    | true => have := h.low j hp; omega
    | false => rfl
  have hz : mAnds [ms.getD i 0, mOr (ms.take i)] = 0 := by
    apply BitVec.eq_of_getLsbD_eq
    intro j hj
    unfold mAnds
    simp only [List.foldl_cons, List.foldl_nil]
    rw [BitVec.getLsbD_and, BitVec.getLsbD_and, h.bit i hi j hj, or_bit, any_range (ms.take i) 0]
    have : (p j && decide (q j = i) && (List.range (ms.take i).length).any fun k => ((ms.take i).getD k 0).getLsbD j) = false := by
      rw [Bool.eq_false_iff]
      intro e
      simp only [Bool.and_eq_true, decide_eq_true_eq, List.any_eq_true] at e
      obtain ⟨⟨hp, hq⟩, k, hk, hb⟩ := e
      have hk : k < i := by
        have : k < (ms.take i).length := by simpa using hk
        rw [List.length_take] at this; omega
      have ek : (ms.take i).getD k 0 = ms.getD k 0 := by
        rw [List.getD_eq_getElem?_getD, List.getElem?_take, if_pos hk, ← List.getD_eq_getElem?_getD]
      rw [ek, h.bit k (by omega) j hj] at hb
      simp at hb
      omega
    generalize (p j && decide (q j = i)) = x at *
    generalize ((List.range (ms.take i).length).any (fun k => ((ms.take i).getD k 0).getLsbD j)) = y at *
    cases x <;> cases y <;> simp_all
  have h0 : mCount (0 : Mask) = 0 := by decide +kernel
  rw [hc, hz, h0]; rfl

/-! ### What Build makes -/
def usedAt (a : Arena) (j : Nat) : Bool := (a.getD j cellNone).used
def nearOf (c : List Vec) (a : Arena) (j : Nat) : Nat := vNear c (a.getD j cellNone).ver.vec
structure Filled (c : List Vec) (a : Arena) (s : Nat) (L : Lists) : Prop where
  cents : L.cents = c
  len : L.masks.length = c.length
  parts : Parts L.masks (fun j => decide (j < s) && usedAt a j) (nearOf c a)
theorem put_bit {m : Mask} {s j : Nat} (hm : ∀ j, j < 128 → 96 ≤ j → m.getLsbD j = false) (hs : s < 96) (hj : j < 128) : (mWith m s).getLsbD j = (m.getLsbD j || decide (s = j)) := by
  unfold mWith mSlot
  have e1 : decide ((0 : Int) ≤ (s : Int)) = true := by simp
  have e2 : decide ((s : Int) < 96) = true := by simp; omega
  rw [check_of hm, e1, e2]
  simp only [Bool.and_self, if_true]
  unfold mBit
  rw [BitVec.getLsbD_or, Int.toNat_natCast, BitVec.getLsbD_twoPow]
  have : decide (s < 128) = true := by simp; omega
  rw [this, Bool.true_and]
theorem Filled.next {c : List Vec} {a : Arena} {s : Nat} {L : Lists} (h : Filled c a s L) (hu : usedAt a s = false) : Filled c a (s + 1) L := by
  refine ⟨h.cents, h.len, ?_⟩
  have e : (fun j => decide (j < s + 1) && usedAt a j) = fun j => decide (j < s) && usedAt a j := by
    funext j
    by_cases hj : j = s
    · subst hj; rw [hu]; simp
    · have : decide (j < s + 1) = decide (j < s) := by congr 1; apply propext; omega
      rw [this]
  rw [e]; exact h.parts
theorem Filled.put {c : List Vec} {a : Arena} {s : Nat} {L : Lists} (h : Filled c a s L) (hu : usedAt a s = true) (hs : s < 96) (hc : 0 < c.length) : Filled c a (s + 1) (lsPut L (nearOf c a s : Nat) s) := by
  have hl := lsPut_len L (nearOf c a s : Nat) s
  refine ⟨by rw [hl.1]; exact h.cents, by rw [hl.2]; exact h.len, ?_, ?_, ?_⟩
  · intro i hi j hj
    rw [hl.2] at hi
    have eg : (lsPut L (nearOf c a s : Nat) s).masks.getD i 0 = if ((i : Int) = (nearOf c a s : Nat)) then mWith (L.masks.getD i 0) s else L.masks.getD i 0 := by
      unfold lsPut
      simp [List.getD_eq_getElem?_getD, hi]
    rw [eg]
    have hm : ∀ j, j < 128 → 96 ≤ j → (L.masks.getD i 0).getLsbD j = false := fun j hj h96 => by
      rw [h.parts.bit i hi j hj]
      have : decide (j < s) = false := by simp; omega
      rw [this]; rfl
    have hb := h.parts.bit i hi j hj
    by_cases hi2 : i = nearOf c a s
    · rw [if_pos (by rw [hi2]), put_bit hm hs hj, hb]
      by_cases hj2 : s = j
      · subst hj2
        simp [hu, hi2]
      · have e1 : decide (j < s + 1) = decide (j < s) := by congr 1; apply propext; omega
        rw [e1, decide_eq_false hj2, Bool.or_false]
    · rw [if_neg (by omega), hb]
      by_cases hj2 : s = j
      · subst hj2
        have e1 : decide (nearOf c a s = i) = false := by simp; omega
        rw [e1]; simp
      · have e1 : decide (j < s + 1) = decide (j < s) := by congr 1; apply propext; omega
        rw [e1]
  · intro j hj
    simp at hj
    omega
  · intro j hj
    rw [hl.2, h.len]
    exact near_lt _ _ hc
theorem fill_all (c : List Vec) (a : Arena) (hc : c ≠ []) (ha : a.length = 96) (R : Lists) : ∀ (n k : Nat) (L : Lists), k + n = a.length → Filled c a k L → lsFill c (a.drop k) k L = (R, 0) →
    Filled c a 96 R ∧ ∀ j, k ≤ j → j < 96 → usedAt a j = true → vAll ((a.getD j cellNone).ver.vec :: c) = 0
  | 0, k, L, hk, hF, h => by
    have e : a.drop k = [] := List.drop_of_length_le (by omega)
    rw [e] at h
    have : L = R := congrArg Prod.fst h
    subst this
    obtain rfl : k = 96 := by omega
    exact ⟨hF, fun j h1 h2 => by omega⟩
  | n + 1, k, L, hk, hF, h => by
    rw [lsFill_step c a k L (by omega)] at h
    cases hu : (a.getD k cellNone).used with
    | false =>
      rw [hu] at h
      obtain ⟨h1, h2⟩ := fill_all c a hc ha R n (k + 1) L (by omega) (hF.next hu) h
      refine ⟨h1, fun j hj1 hj2 hj3 => ?_⟩
      rcases Nat.lt_or_ge k j with hkj | hkj
      · exact h2 j hkj hj2 hj3
      · obtain rfl : j = k := by omega
        unfold usedAt at hj3
        rw [hu] at hj3; cases hj3
    | true =>
      rw [hu] at h
      simp only [if_true] at h
      by_cases h0 : vAll ((a.getD k cellNone).ver.vec :: c) = 0
      · have e : vNearest c (a.getD k cellNone).ver.vec = ((vNear c (a.getD k cellNone).ver.vec : Int), 0) := by
          unfold vNearest; rw [if_neg hc, if_pos h0]
        rw [e] at h
        simp only [if_true] at h
        obtain ⟨h1, h2⟩ := fill_all c a hc ha R n (k + 1) _ (by omega) (hF.put hu (by omega) (List.length_pos_iff.2 hc)) h
        refine ⟨h1, fun j hj1 hj2 hj3 => ?_⟩
        rcases Nat.lt_or_ge k j with hkj | hkj
        · exact h2 j hkj hj2 hj3
        · obtain rfl : j = k := by omega
          exact h0
      · have e : (vNearest c (a.getD k cellNone).ver.vec).2 ≠ 0 := by
          unfold vNearest; rw [if_neg hc, if_neg h0]; exact h0
        rw [if_neg e] at h
        exact absurd (congrArg Prod.snd h) e
theorem filled_zero (c : List Vec) (a : Arena) : Filled c a 0 ⟨c, List.replicate c.length 0⟩ := by
  refine ⟨rfl, List.length_replicate, ?_, ?_, ?_⟩
  · intro i hi j hj
    have : (List.replicate c.length (0 : Mask)).getD i 0 = 0 := by
      rw [List.getD_eq_getElem?_getD, List.getElem?_replicate]
      split <;> rfl
    rw [this]
    simp
  · intro j hj; simp at hj
  · intro j hj; simp at hj
/-- What Build tells, where it refuses nothing. -/
theorem built {a : Arena} {c : List Vec} (hc : c ≠ []) (h : (lsBuild a c).2 = 0) : arOk a = true ∧ lsOk (lsBuild a c).1 = true ∧ (lsBuild a c).1.cents = c ∧ (lsBuild a c).1.masks.length = c.length ∧ Parts (lsBuild a c).1.masks (fun j => decide (j < 96) && usedAt a j) (nearOf c a) ∧
    ∀ j, j < 96 → usedAt a j = true → vAll ((a.getD j cellNone).ver.vec :: c) = 0 := by
  unfold lsBuild at h ⊢
  cases ha : arOk a with
  | false => rw [ha] at h; simp at h
  | true =>
    rw [ha] at h
    simp only [if_true] at h ⊢
    cases hco : centsOk c with
    | false => rw [hco] at h; simp at h
    | true =>
      rw [hco] at h
      simp only [if_true, if_neg hc] at h ⊢
      have ha6 : a.length = 96 := by unfold arOk at ha; simp at ha; exact ha.1
      have hf := fill_all c a hc ha6 (lsFill c a 0 ⟨c, List.replicate c.length 0⟩).1 a.length 0 _ (by omega) (filled_zero c a) (by rw [List.drop_zero]; exact Prod.ext rfl h)
      obtain ⟨hF, hv⟩ := hf
      refine ⟨trivial, ?_, hF.cents, hF.len, hF.parts, fun j hj hu => hv j (by omega) hj hu⟩
      unfold lsOk
      rw [hF.cents, hco, hF.len, hF.parts.disj]
      simp
theorem built_nil {a : Arena} {c : List Vec} (h : (lsBuild a c).2 ≠ 0 ∨ c = []) : (lsBuild a c).1 = ⟨[], []⟩ := by
  have hf : ∀ (x : Arena) (s : Nat) (L : Lists), (lsFill c x s L).2 ≠ 0 → (lsFill c x s L).1 = ⟨[], []⟩ := by
    intro x
    induction x with
    | nil => intro s L h; exact absurd rfl h
    | cons y x ih =>
      intro s L h
      unfold lsFill at h ⊢
      split
      · rename_i hu
        rw [if_pos hu] at h
        split
        · rename_i h0
          rw [if_pos h0] at h
          exact ih _ _ h
        · rfl
      · rename_i hu
        rw [if_neg hu] at h
        exact ih _ _ h
  unfold lsBuild at h ⊢
  split
  · rename_i ha
    rw [if_pos ha] at h
    split
    · rename_i hc
      rw [if_pos hc] at h
      split
      · rfl
      · rename_i hn
        rw [if_neg hn] at h
        exact hf _ _ _ (h.resolve_right hn)
    · rfl
  · rfl
theorem free_count {a : Arena} (h : arOk a = true) : arFree a = 96 - (((List.range 96).countP fun j => decide (j < 96) && usedAt a j : Nat) : Int) := by
  have ha6 : a.length = 96 := by unfold arOk at h; simp at h; exact h.1
  unfold arFree
  rw [if_pos h, ha6]
  have e : (List.range 96).countP (fun i => (a.getD i cellNone).used) = (List.range 96).countP fun j => decide (j < 96) && usedAt a j := by
    refine List.countP_congr fun j hj => ?_
    have hj : j < 96 := by simpa using hj
    simp [hj, usedAt]
  rw [e]
theorem dist_ok {c : List Vec} {v : Vec} (h : vAll (v :: c) = 0) {i : Nat} (hi : i < c.length) : vAll [c.getD i [], v] = 0 ∧ distF (c.getD i []) v = vDist (c.getD i []) v := by
  have h1 := vAll_zero h
  have e : c.getD i [] = c[i] := by rw [List.getD_eq_getElem?_getD, List.getElem?_eq_getElem hi]; rfl
  have h2 := h1 c[i] (by simp)
  have h3 := h1 v (by simp)
  have h4 : vAll [c[i], v] = 0 := by
    unfold vAll
    have e1 : [c[i], v].all vOk = true := by simp [h2.1, h3.1]
    rw [if_pos e1]
    have e2 : ([c[i], v].all fun x => x.length == ([c[i], v].headD []).length) = true := by
      have := h2.2
      simp at this ⊢
      omega
    rw [if_pos e2]
  rw [e]
  refine ⟨h4, ?_⟩
  unfold distF
  rw [if_pos h4]
def placesOf (n : Nat) : List Int := (List.range n).map fun (i : Nat) => (i : Int)
theorem union_all {l : Lists} (h : lsOk l = true) : lsUnionM l (placesOf l.masks.length) = mOr l.masks ∧ lsUnionE l (placesOf l.masks.length) = 0 := by
  have e1 : ((placesOf l.masks.length).all fun p => decide (0 ≤ p) && decide (p < (l.masks.length : Int))) = true := by
    rw [List.all_eq_true]
    intro x hx
    obtain ⟨i, hi, rfl⟩ := List.mem_map.1 hx
    have : i < l.masks.length := by simpa using hi
    simp; omega
  have e2 : ((placesOf l.masks.length).map fun p => l.masks.getD p.toNat 0) = l.masks := by
    apply List.ext_getElem?
    intro i
    unfold placesOf
    rw [List.map_map, List.getElem?_map]
    rcases Nat.lt_or_ge i l.masks.length with hi | hi
    · rw [List.getElem?_range hi]
      simp [List.getD_eq_getElem?_getD, hi]
    · rw [List.getElem?_eq_none hi, List.getElem?_eq_none (by simpa using hi)]; rfl
  unfold lsUnionM lsUnionE lsUnion
  rw [if_pos h, if_pos e1, e2]
  exact ⟨rfl, rfl⟩
end Go.Proofs.Ytiolpknfdabijaa
