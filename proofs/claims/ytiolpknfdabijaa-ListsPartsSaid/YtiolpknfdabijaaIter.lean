/- Small laws for a range over a function. -/
import Derived.RangeFuncNested
import Derived.RangeFuncBound
import Derived.RangeFuncCalls
import Derived.RangeFuncLeaves
import Derived.RangeFuncBox
import Derived.Shelf.RegionOpen
import Derived.OwnWalkIn
import Derived.TacticsInMore
import Derived.LoopNIn
import Derived.LoopIn
import Derived.Test.YtiolpknfdabijaaLib
set_option linter.unusedVariables false
namespace Go.Proofs.Ytiolpknfdabijaa
open Go.RowKit

theorem Blk.grown {W W' : World} {b B : Nat} {cs : Array Value} {t : TypeId} {row : Option Nat} (h : Blk W b cs t) (hg : W.grownBy W' row) (hr : ∀ r, row = some r → B ≤ r ∧ ∃ o : Obj, W.heap[r]? = some o ∧ o.isCells = false) (hb : b < B) : Blk W' b cs t :=
  ⟨(hg.block b h.lt (fun e => by have := (hr b e.symm).1; omega)).trans h.out⟩
theorem Ext.grown {w W W' : World} {B : Nat} {row : Option Nat} (h : Ext w W) (hg : W.grownBy W' row) (hr : ∀ r, row = some r → B ≤ r ∧ ∃ o : Obj, W.heap[r]? = some o ∧ o.isCells = false) (hb : w.heap.size ≤ B) : Ext w W' :=
  Below.grown h hg h.size (fun k e => by have := (hr k e).1; omega)
theorem namedIn {P : Program} {F : Fence} {n : Nat} {c : Code} {Q : Exit → Act → World → Prop} {a : Act} {w : World} (h : ∀ W, Hid (W = w) → c.wpIn F n P Q a W) : c.wpIn F n P Q a w := h w rfl
theorem Ext.keepsFrom {W W' : World} (h : Ext W W') (B : Nat) : KeepsFrom B W W' :=
  ⟨h.size, fun k o _ hk _ => (h.block k (Array.getElem?_eq_some_iff.1 hk).1).trans hk⟩
theorem keepsFrom_trans {A B C : World} {n : Nat} (h : KeepsFrom n A B) (k : KeepsFrom n B C) : KeepsFrom n A C := ⟨Nat.le_trans h.size k.size, fun i o hi ho hc => k.same i o hi (h.same i o hi ho hc) hc⟩
theorem keepsFrom_set {W : World} {n : Nat} {p : Addr} {u : Value} (hp : p.block < n) : KeepsFrom n W (W.setCell p u) := ⟨by simp [World.setCell], fun k o hk ho _ => (Below.heap_setCell W p u k (by omega)).trans ho⟩

/-- What a round keeps for an iterator: what lay ahead of n₀, and its own boxes. -/
def KpB (n₀ : Nat) (bs : List Nat) (A B : World) : Prop := Below n₀ A B ∧ ∀ b ∈ bs, b < A.heap.size → B.heap[b]? = A.heap[b]?
theorem KpB.t {n₀ : Nat} {bs : List Nat} {A B C : World} (h : KpB n₀ bs A B) (k : KpB n₀ bs B C) : KpB n₀ bs A C :=
  ⟨Below.trans h.1 k.1, fun b hb hl => (k.2 b hb (Nat.lt_of_lt_of_le hl h.1.size)).trans (h.2 b hb hl)⟩
theorem KpB.b {n₀ : Nat} {bs : List Nat} {w : World} (hn : n₀ ≤ w.heap.size) (hbs : ∀ b ∈ bs, b < w.heap.size) (W : World) (l : Nat) (o o' : Obj) (hl : w.heap.size ≤ l) (h : W.heap[l]? = some o) (hc : o.isCells = false) (hw : o.isWalk = false) : KpB n₀ bs W (W.putObj l o') :=
  ⟨belowK_b hn W l o o' hl h hc hw, fun b hb _ => World.putObj_heap_other (by have := hbs b hb; omega)⟩
theorem KpB.blk {n₀ : Nat} {bs : List Nat} {A B : World} {b : Nat} {cs : Array Value} {t : TypeId} (h : KpB n₀ bs A B) (k : Blk A b cs t) (hb : b ∈ bs) : Blk B b cs t := ⟨(h.2 b hb k.lt).trans k.out⟩
theorem KpB.ext {w A B : World} {bs : List Nat} (h : KpB w.heap.size bs A B) (k : Ext w A) : Ext w B := Below.trans k h.1
theorem KpB.of_ext {w A B : World} {bs : List Nat} (k : Ext w A) (h : Ext A B) : KpB w.heap.size bs A B := ⟨h.mono k.le, fun b _ hl => h.block b hl⟩
theorem KpB.set_ {w A : World} {bs : List Nat} {p : Addr} {u : Value} (hp : w.heap.size ≤ p.block) (hb : p.block ∉ bs) : KpB w.heap.size bs A (A.setCell p u) :=
  ⟨Below.setCell (Below.refl _ _) hp u, fun b h _ => Below.heap_setCell A p u b (fun e => hb (e ▸ h))⟩

end Go.Proofs.Ytiolpknfdabijaa
