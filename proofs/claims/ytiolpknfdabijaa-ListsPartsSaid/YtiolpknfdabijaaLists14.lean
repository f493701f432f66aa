/- The arena of the laws; wakes. -/
import Derived.Test.YtiolpknfdabijaaProg
import Derived.Test.YtiolpknfdabijaaLib
import Derived.Test.YtiolpknfdabijaaPure
import Derived.Test.YtiolpknfdabijaaMask
import Derived.Test.YtiolpknfdabijaaMask2
import Derived.Test.YtiolpknfdabijaaVec
import Derived.Test.YtiolpknfdabijaaVec2
import Derived.Test.YtiolpknfdabijaaVec3
import Derived.Test.YtiolpknfdabijaaIter
import Derived.Test.YtiolpknfdabijaaArena
import Derived.Test.YtiolpknfdabijaaArena2
import Derived.Test.YtiolpknfdabijaaArena3
import Derived.Test.YtiolpknfdabijaaArena6
import Derived.Test.YtiolpknfdabijaaClone
import Derived.Test.YtiolpknfdabijaaLib2
import Derived.Test.YtiolpknfdabijaaLists
import Derived.Test.YtiolpknfdabijaaLists3
import Derived.Test.YtiolpknfdabijaaLists5
import Derived.Test.YtiolpknfdabijaaLists13
set_option linter.unusedVariables false
set_option maxRecDepth 4000
set_option linter.unusedSimpArgs false
namespace Go.Proofs.Ytiolpknfdabijaa
open Go.RowKit


def oneA : Arena := (List.replicate 96 cellNone).set 0 ⟨true, 2, ⟨1, 0, [4]⟩⟩
def twoA : Arena := oneA.set 1 ⟨true, 7, ⟨1, 0, [9]⟩⟩
theorem oneA_len : oneA.length = 96 := by unfold oneA; rw [List.length_set, List.length_replicate]
theorem twoA_len : twoA.length = 96 := by unfold twoA; rw [List.length_set, oneA_len]
theorem OwnAr.form {base : Nat} {w : World} {v : Value} {a : Arena} {ss : List Value} (h : OwnAr base w v a ss) (hn : a.length = 96) : ∃ g c, v = .agg #[.slice (some ⟨g, 0, none⟩) 96 c] := by
  obtain ⟨g, c, h0, h1⟩ := h.out
  exact ⟨g, c, by rw [h0, hn]⟩
theorem OwnAr.cells96 {base : Nat} {w : World} {g c : Nat} {a : Arena} {ss : List Value} (h : OwnAr base w (.agg #[.slice (some ⟨g, 0, none⟩) 96 c]) a ss) (hn : a.length = 96) : ∀ (j : Nat) u, (rowsOf a ss)[j]? = some u → w.cell? ⟨g, j, none⟩ = some u :=
  OwnAr.cells (base := base) (c := c) (a := a) (ss := ss) (by rw [hn]; exact h)
theorem i32_one {w : World} {b t : Nat} {x : Int} (h : Blk w b #[.int .i32 x] t) : kI32.Sl w (.slice (some ⟨b, 0, none⟩) 1 1) [x] := by
  refine Kd.Sl.mk (Nat.le_refl _) (by simp) (Kd.Row.one rfl fun k y hk => ?_)
  match k, hk with
  | 0, hk =>
    simp at hk
    subst hk
    exact ⟨_, rfl, by rw [h.cell]; rfl⟩
theorem getD_rep {α : Type} (n : Nat) (x d : α) {k : Nat} (h : k < n) : (List.replicate n x).getD k d = x := by simp [List.getD_eq_getElem?_getD, h]
theorem getD_setne {α : Type} (l : List α) (i k : Nat) (x d : α) (h : i ≠ k) : (l.set i x).getD k d = l.getD k d := by simp [List.getD_eq_getElem?_getD, List.getElem?_set_ne h]
theorem getD_set0 {α : Type} (l : List α) (x d : α) (h : 0 < l.length) : (l.set 0 x).getD 0 d = x := by cases l with | nil => simp at h | cons => rfl
def ss1 (b1 : Nat) : List Value := (List.replicate 96 (.slice none 0 0)).set 0 (.slice (some ⟨b1, 0, none⟩) 1 1)
def ss2 (b1 b2 : Nat) : List Value := (ss1 b1).set 1 (.slice (some ⟨b2, 0, none⟩) 1 1)
theorem ss1_one (b1 : Nat) : ∀ k, k < oneA.length → ((ss1 b1).getD k undef).oneCell' = true := fun k hk => by
  rw [oneA_len] at hk
  rcases Nat.lt_or_ge 0 k with h | h
  · have : (ss1 b1).getD k undef = .slice none 0 0 := by unfold ss1; rw [getD_setne _ _ _ _ _ (by omega), getD_rep _ _ _ hk]
    rw [this]; rfl
  · obtain rfl : k = 0 := by omega
    rfl
theorem nil_one : ∀ k, k < (List.replicate 96 cellNone).length → ((List.replicate 96 (Value.slice none 0 0)).getD k undef).oneCell' = true := fun k hk => by
  rw [List.length_replicate] at hk
  have : (List.replicate 96 (Value.slice none 0 0)).getD k undef = .slice none 0 0 := getD_rep _ _ _ hk
  rw [this]; rfl
theorem two_sl {w : World} {b1 b2 t : Nat} (h1 : Blk w b1 #[.int .i32 4] t) (h2 : Blk w b2 #[.int .i32 9] t) : ∀ k, k < twoA.length → kI32.Sl w ((ss2 b1 b2).getD k undef) (twoA.getD k cellNone).ver.vec := fun k hk => by
  rw [twoA_len] at hk
  rcases Nat.lt_or_ge 1 k with h | h
  · have e1 : (ss2 b1 b2).getD k undef = .slice none 0 0 := by unfold ss2 ss1; rw [getD_setne _ _ _ _ _ (by omega), getD_setne _ _ _ _ _ (by omega), getD_rep _ _ _ hk]
    have e2 : twoA.getD k cellNone = cellNone := by unfold twoA oneA; rw [getD_setne _ _ _ _ _ (by omega), getD_setne _ _ _ _ _ (by omega), getD_rep _ _ _ hk]
    rw [e1, e2]
    exact Kd.Sl.nil _ _
  · rcases Nat.lt_or_ge 0 k with h' | h'
    · obtain rfl : k = 1 := by omega
      have e1 : (ss2 b1 b2).getD 1 undef = .slice (some ⟨b2, 0, none⟩) 1 1 := rfl
      have e2 : (twoA.getD 1 cellNone).ver.vec = [9] := rfl
      rw [e1, e2]
      exact i32_one h2
    · obtain rfl : k = 0 := by omega
      have e1 : (ss2 b1 b2).getD 0 undef = .slice (some ⟨b1, 0, none⟩) 1 1 := rfl
      have e2 : (twoA.getD 0 cellNone).ver.vec = [4] := rfl
      rw [e1, e2]
      exact i32_one h1
set_option maxHeartbeats 2000000 in
theorem two_any (w : World) : Calls Try.prog 33 #[] w fun e w' => ∃ v, e = .returned (.agg #[v]) ∧ kCell.Sl w' v twoA ∧ Ext w w' := by
  have HW1 := fun g c W (h : ∀ (j : Nat) u, (rowsOf (List.replicate 96 cellNone) (List.replicate 96 (.slice none 0 0)))[j]? = some u → W.cell? ⟨g, j, none⟩ = some u) b1 => with09_any (List.replicate 96 cellNone) (List.replicate 96 (.slice none 0 0)) 0 ⟨true, 2, ⟨1, 0, [4]⟩⟩ (some ⟨b1, 0, none⟩) 1 1 g c W h nil_one (by rw [List.length_replicate]; omega) (by rw [List.length_replicate]; omega) (by rw [List.length_replicate, List.length_replicate])
  have HW2 := fun g c W b1 (h : ∀ (j : Nat) u, (rowsOf oneA (ss1 b1))[j]? = some u → W.cell? ⟨g, j, none⟩ = some u) b2 => with09_any oneA (ss1 b1) 1 ⟨true, 7, ⟨1, 0, [9]⟩⟩ (some ⟨b2, 0, none⟩) 1 1 g c W h (ss1_one b1) (by rw [oneA_len]; omega) (by rw [oneA_len]; omega) (by rw [oneA_len]; unfold ss1; rw [List.length_set, List.length_replicate])
  have e1 : (List.replicate 96 cellNone).set 0 ⟨true, 2, ⟨1, 0, [4]⟩⟩ = oneA := rfl
  have e2 : oneA.set 1 ⟨true, 7, ⟨1, 0, [9]⟩⟩ = twoA := rfl
  have e3 : ∀ b1, (List.replicate 96 (.slice none 0 0)).set 0 (.slice (some ⟨b1, 0, none⟩) 1 1) = ss1 b1 := fun _ => rfl
  have e4 : ∀ b1 b2, (ss1 b1).set 1 (.slice (some ⟨b2, 0, none⟩) 1 1) = ss2 b1 b2 := fun _ _ => rfl
  have e5 : (List.replicate 96 cellNone).length = 96 := List.length_replicate
  replace HW1 : ∀ g c W, (∀ (j : Nat) u, (rowsOf (List.replicate 96 cellNone) (List.replicate 96 (.slice none 0 0)))[j]? = some u → W.cell? ⟨g, j, none⟩ = some u) → ∀ b1, Calls Try.prog 72 #[.agg #[.slice (some ⟨g, 0, none⟩) 96 c], .int .i64 ((0 : Nat) : Int), .agg #[.bool true, .int .u64 2, .int .u64 1, .int .u64 0, .slice (some ⟨b1, 0, none⟩) 1 1]] W fun e w' => ∃ v, e = .returned v ∧ OwnAr W.heap.size w' v oneA (ss1 b1) ∧ Ext W w' := fun g c W h b1 => by
    have := HW1 g c W h b1
    rw [e5, e1, e3] at this
    exact this
  replace HW2 : ∀ g c W b1, (∀ (j : Nat) u, (rowsOf oneA (ss1 b1))[j]? = some u → W.cell? ⟨g, j, none⟩ = some u) → ∀ b2, Calls Try.prog 72 #[.agg #[.slice (some ⟨g, 0, none⟩) 96 c], .int .i64 ((1 : Nat) : Int), .agg #[.bool true, .int .u64 7, .int .u64 1, .int .u64 0, .slice (some ⟨b2, 0, none⟩) 1 1]] W fun e w' => ∃ v, e = .returned v ∧ OwnAr W.heap.size w' v twoA (ss2 b1 b2) ∧ Ext W w' := fun g c W b1 h b2 => by
    have := HW2 g c W b1 h b2
    rw [oneA_len, e2, e4] at this
    exact this
  have HO := @OwnAr.form
  have HC := @OwnAr.cells96
  have HS : ∀ (base : Nat) (w : World) (v : Value) (b1 b2 : Nat), OwnAr base w (.agg #[v]) twoA (ss2 b1 b2) → Blk w b1 #[.int .i32 4] 21 → Blk w b2 #[.int .i32 9] 21 → kCell.Sl w v twoA := fun base w v b1 b2 h h1 h2 => h.sl (by rw [twoA_len]; omega) (two_sl h1 h2)
  clear e1 e2 e3 e4 e5
  have HN := new09_any
  have L1 : Hid ((List.replicate 96 cellNone).length = 96) := List.length_replicate
  have L2 : Hid (oneA.length = 96) := oneA_len
  have L3 : Hid (twoA.length = 96) := twoA_len
  generalize List.replicate 96 cellNone = zA at *
  generalize List.replicate 96 (Value.slice none 0 0) = zS at *
  generalize oneA = A1 at *
  generalize twoA = A2 at *
  have kr0 := Blk.new' (w := w) (b := w.heap.size) (cs := #[.slice none 0 0]) (t := 39) rfl
  go_enter Try.func33, Try.ntmps33
  go_wp2_with (first
    | (go_at_call 73; (with_reducible refine Calls.mono (HN _) ?_); rintro e W1 ⟨v0, rfl, q0, h1⟩; have kr1 := kr0.ext h1; obtain ⟨g0, c0, rfl⟩ := HO q0 L1.out; have cc0 := HC (q0.ext ((Ext.refl _).alloc (.cells #[.int .i32 4] 21))) L1.out; have kb1 := Blk.new' (w := W1) (b := W1.heap.size) (cs := #[.int .i32 4]) (t := 21) rfl)
    | (go_at_call 72; (with_reducible refine Calls.mono (HW1 _ _ _ cc0 _) ?_); rintro e W2 ⟨v1, rfl, q1, h2⟩; obtain ⟨g1, c1, rfl⟩ := HO q1 L2.out; have cc1 := HC (q1.ext (((Ext.refl _).alloc (.cells #[.slice (some ⟨g1, 0, none⟩) 96 c1] 39)).alloc (.cells #[.int .i32 9] 21))) L2.out; have kr2 := (((kr1.alloc (.cells #[.int .i32 4] 21)).ext h2).alloc (.cells #[.slice (some ⟨g1, 0, none⟩) 96 c1] 39)).alloc (.cells #[.int .i32 9] 21); have kb2 := ((kb1.ext h2).alloc (.cells #[.slice (some ⟨g1, 0, none⟩) 96 c1] 39)).alloc (.cells #[.int .i32 9] 21); have kc2 := Blk.new' (w := W2.alloc (.cells #[.slice (some ⟨g1, 0, none⟩) 96 c1] 39)) (b := W2.heap.size + 1) (cs := #[.int .i32 9]) (t := 21) (by simp))
    | (go_at_call 72; (with_reducible refine Calls.mono (HW2 _ _ _ _ cc1 _) ?_); rintro e W3 ⟨v2, rfl, q2, h3⟩; obtain ⟨g2, c2, rfl⟩ := HO q2 L3.out; have kr3 := kr2.ext h3; have cr := kr3.cell; have fr := kr3.frozen))
  have hw1 : w.heap.size < W1.heap.size := kr1.lt
  have hw2 : W1.heap.size < W2.heap.size := (kb1.ext h2).lt
  have cr2 := (kr3.set_ 0 (.slice (some ⟨g2, 0, none⟩) 96 c2)).cell
  have E1 : Ext w W3 := ((((((Ext.refl w).alloc _).trans h1).alloc _).trans h2).alloc _ |>.alloc _).trans h3
  refine bodyPost_ret (v := .agg #[.slice (some ⟨g2, 0, none⟩) 96 c2]) (by simp [results, Try.results33, go_sem, cr2]) rfl ⟨_, rfl, HS _ _ _ _ _ (q2.set (by simp; omega) _) ((kb2.ext h3).far (by simp; omega) _) ((kc2.ext h3).far (by simp; omega) _), E1.set (by simp) _⟩

end Go.Proofs.Ytiolpknfdabijaa
