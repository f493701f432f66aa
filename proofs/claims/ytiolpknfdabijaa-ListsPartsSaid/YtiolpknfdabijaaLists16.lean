/- Unions: plain laws. -/
import Derived.Test.YtiolpknfdabijaaProg
import Derived.Test.YtiolpknfdabijaaLib
import Derived.Test.YtiolpknfdabijaaPure
import Derived.Test.YtiolpknfdabijaaMask
import Derived.Test.YtiolpknfdabijaaMask2
import Derived.Test.YtiolpknfdabijaaVec
import Derived.Test.YtiolpknfdabijaaVec2
import Derived.Test.YtiolpknfdabijaaLib2
import Derived.Test.YtiolpknfdabijaaLists
import Derived.Test.YtiolpknfdabijaaLists2
import Derived.Test.YtiolpknfdabijaaLists3
import Derived.Test.YtiolpknfdabijaaLists11
set_option linter.unusedVariables false
set_option maxRecDepth 4000
set_option linter.unusedSimpArgs false
namespace Go.Proofs.Ytiolpknfdabijaa
open Go.RowKit


theorem own_ints {w : World} {base n : Nat} {v : Value} {xs : List Int} (h : w.ownsRow base 3 1 v n (xs.map (Value.int .i64))) (hn : n ≤ 140737488351232) : kInt.Sl w v xs := by
  have hl : xs.length = n := by simpa using h.1
  rcases h.2 with ⟨rfl, h0⟩ | ⟨g, cap, cur, rfl, _⟩
  · have : xs = [] := List.length_eq_zero_iff.1 (by omega)
    subst this
    exact Kd.Sl.nil _ _
  · exact Kd.Sl.own1 rfl h hl hn (fun k x hx => ⟨.int .i64 x, by simp [hx], rfl⟩)
theorem int_info : (Try.prog.info? 3).map (fun i => (i.zero, i.size, i.bytes)) = some (some (.int .i64 0), 1, 8) := by kernel_rfl
theorem ors_app (xs ys : List Mask) : mOrs (xs ++ ys) = mOrs xs ||| mOrs ys := by
  unfold mOrs
  rw [List.foldl_append]
  suffices h : ∀ (ys : List Mask) (z : Mask), ys.foldl (· ||| ·) z = z ||| ys.foldl (· ||| ·) 0 by rw [h]
  intro ys
  induction ys with
  | nil => intro z; simp
  | cons y ys ih =>
    intro z
    simp only [List.foldl_cons]
    rw [ih, ih (0 ||| y)]
    simp [BitVec.or_assoc]
theorem mOr_two (a b : Mask) : mOr [a &&& mAll, b &&& mAll] = (a ||| b) &&& mAll := by
  unfold mOr mOrs
  simp only [List.foldl_cons, List.foldl_nil]
  apply BitVec.eq_of_getLsbD_eq
  intro i hi
  simp only [BitVec.getLsbD_and, BitVec.getLsbD_or]
  cases a.getLsbD i <;> cases b.getLsbD i <;> cases mAll.getLsbD i <;> simp
theorem union_bad {l : Lists} {a b : List Int} (h : lsUnionE l (a ++ b) ≠ 0) : lsUnionM l (a ++ b) = 0 ∧ (lsUnionE l a ≠ 0 ∨ lsUnionE l b ≠ 0) := by
  unfold lsUnionE lsUnionM lsUnion at *
  cases h0 : lsOk l with
  | false => simp
  | true =>
    rw [h0] at h
    simp only [if_true, List.all_append] at h ⊢
    generalize (a.all fun p => decide (0 ≤ p) && decide (p < (l.masks.length : Int))) = x at *
    generalize (b.all fun p => decide (0 ≤ p) && decide (p < (l.masks.length : Int))) = y at *
    cases x <;> cases y <;> simp at *
theorem union_good {l : Lists} {a b : List Int} (h : lsUnionE l (a ++ b) = 0) : lsUnionE l a = 0 ∧ lsUnionE l b = 0 ∧ lsUnionE l (a ++ a) = 0 ∧ lsUnionM l (a ++ b) = mOr [lsUnionM l a, lsUnionM l b] ∧ lsUnionM l (a ++ a) = lsUnionM l a := by
  unfold lsUnionE lsUnionM lsUnion at *
  cases h0 : lsOk l with
  | false => rw [h0] at h; simp at h
  | true =>
    rw [h0] at h
    simp only [if_true, List.all_append] at h ⊢
    generalize (a.all fun p => decide (0 ≤ p) && decide (p < (l.masks.length : Int))) = x at *
    generalize (b.all fun p => decide (0 ≤ p) && decide (p < (l.masks.length : Int))) = y at *
    cases x <;> cases y <;> simp at h
    simp only [Bool.and_self, if_true, List.map_append, true_and]
    unfold mOr
    rw [ors_app, ors_app]
    constructor
    · have := mOr_two (mOrs (a.map fun p => l.masks.getD p.toNat 0)) (mOrs (b.map fun p => l.masks.getD p.toNat 0))
      unfold mOr at this
      exact this.symm
    · rw [BitVec.or_self]

end Go.Proofs.Ytiolpknfdabijaa
