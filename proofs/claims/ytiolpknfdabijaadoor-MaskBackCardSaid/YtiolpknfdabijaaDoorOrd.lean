/- A region that draws its order: every order that the draw allows, one by one. -/
import Derived.Test.YtiolpknfdabijaaDoorLib
import Derived.Orders
set_option linter.unusedVariables false
namespace Go.Proofs.YtiolpknfdabijaaDoor
open Go.RowKit
section
variable {P : Program} {ops : Array Oper} {Q : Exit → Act → World → Prop} {md : Region.Mode}
/-- All the orders. -/
def allOrd (md : Region.Mode) (ops : Array Oper) : Nat → Array Bool → List (List Nat)
  | 0, _ => [[]]
  | f + 1, listed => match Region.ready md ops listed with
    | [] => [[]]
    | r => r.flatMap fun i => (allOrd md ops f (listed.setIfInBounds i true)).map (i :: ·)
theorem lin_mem : ∀ (f t : Nat) (listed : Array Bool), Region.linearise.go md ops f t listed [] ∈ allOrd md ops f listed := by
  intro f
  induction f with
  | zero => intro t listed; simp [Region.linearise.go, allOrd]
  | succ f ih =>
    intro t listed
    simp only [Region.linearise.go, allOrd]
    change (match (Region.ready md ops listed)[t % (Region.ready md ops listed).length]? with
      | some i => Region.linearise.go md ops f (t / (Region.ready md ops listed).length) (listed.setIfInBounds i true) [i]
      | none => [].reverse) ∈ _
    cases hr : Region.ready md ops listed with
    | nil => simp
    | cons x xs =>
      have hlt : t % (x :: xs).length < (x :: xs).length := Nat.mod_lt _ (by simp)
      rw [List.getElem?_eq_getElem hlt]
      simp only []
      rw [linearise_go_acc, List.reverse_singleton, List.singleton_append]
      exact List.mem_flatMap.2 ⟨_, List.getElem_mem hlt, List.mem_map.2 ⟨_, ih _ _, rfl⟩⟩
theorem wpOps_list : ∀ (l : List Nat) (a : Act) (w : World), wpList P ops Q (l.filterMap (ops[·]?)) a w → wpOps P ops Q l a w
  | [], a, w, h => h
  | i :: l, a, w, h => by
    rw [wpOps_cons]
    unfold wpOp
    cases hi : ops[i]? with
    | none =>
      rw [List.filterMap_cons, hi] at h
      exact wpOps_list l a w h
    | some o =>
      rw [List.filterMap_cons, hi] at h
      simp only [wpList] at h ⊢
      split
      · rename_i hw
        rw [if_pos hw] at h
        exact h.imp (Oper.wp_mono fun a w => wpOps_list l a w) id
      · rename_i hw
        rw [if_neg hw] at h
        exact wpOps_list l _ _ h
theorem region_orders {id : Nat} {a : Act} {w : World} {l : List Oper} (os : List (List Nat)) (hm : P.follows .mixedOrders = true) (hB : allOrd .any l.toArray l.toArray.size (Array.replicate l.toArray.size false) = os)
    (h : ∀ o ∈ os, wpList P l.toArray Q (o.filterMap (l[·]?)) a w.drew) : (Code.region id l.toArray true).wp P Q a w :=
  wp_region_draw fun t => by
    simp only [Region.schedule, hm, Bool.true_or, if_true]
    have := h _ (hB ▸ lin_mem (md := .any) (ops := l.toArray) l.toArray.size t (Array.replicate l.toArray.size false))
    refine wpOps_list _ _ _ ?_
    simp only [List.getElem?_toArray]
    exact this
end
end Go.Proofs.YtiolpknfdabijaaDoor
