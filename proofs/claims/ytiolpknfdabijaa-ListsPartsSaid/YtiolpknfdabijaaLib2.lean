/- More small laws: rows of the call's own as slices of a kind. -/
import Derived.Test.YtiolpknfdabijaaLib
import Derived.OwnWalk
set_option linter.unusedVariables false
namespace Go.Proofs.Ytiolpknfdabijaa
open Go.RowKit
theorem ret_two {k k' : IntKind} {a b c d : Int} (h : a = c) (h' : b = d) : Ending.returned (.tuple #[.int k a, .int k' b]) = .returned (.tuple #[.int k c, .int k' d]) := by rw [h, h']
theorem own_form {w : World} {base e size n : Nat} {v : Value} {xs : List Value} (h : w.ownsRow base e size v n xs) (hn : 0 < n) : ∃ g cap, v = .slice (some ⟨g, 0, none⟩) n cap ∧ n ≤ cap ∧ base ≤ g ∧ g < w.heap.size := by
  rcases h.2 with ⟨_, h0⟩ | ⟨g, cap, cur, rfl, hb, hh, h1, _⟩
  · omega
  · exact ⟨g, cap, rfl, h1, hb, (Array.getElem?_eq_some_iff.1 hh).1⟩
theorem own_base {w : World} {base e size n : Nat} {v : Value} {xs : List Value} (h : w.ownsRow base e size v n xs) : ∀ k, v.ownBlock = some k → base ≤ k := fun k hk => by
  rcases h.2 with ⟨rfl, _⟩ | ⟨g, cap, cur, rfl, hb, _⟩
  · simp [Value.ownBlock] at hk
  · have : g = k := by simpa [Value.ownBlock] using hk
    omega
theorem own_ext {w w' : World} {base e size n : Nat} {v : Value} {xs : List Value} (h : w.ownsRow base e size v n xs) (hx : Ext w w') : w'.ownsRow base e size v n xs :=
  h.kept ⟨hx.os, hx.tape, hx.output, hx.size, fun i hi _ => hx.block i hi⟩ (row := none) (by cases v.ownBlock <;> simp)
/-- What grew by an append to a row of the call's own. -/
theorem Ext.append {a w w' : World} {base e size n : Nat} {v : Value} {xs : List Value} (h : Ext a w) (ho : w.ownsRow base e size v n xs) (hb : a.heap.size ≤ base) (hg : w.grownBy w' v.ownBlock) : Ext a w' :=
  Below.grown h hg h.le (fun k hk => Nat.le_trans hb (own_base ho k hk))
theorem Blk.append {w w' : World} {base e size n b t : Nat} {cs : Array Value} {v : Value} {xs : List Value} (k : Blk w b cs t) (ho : w.ownsRow base e size v n xs) (hg : w.grownBy w' v.ownBlock) (ht : e ≠ t) : Blk w' b cs t := by
  refine ⟨(hg.block b k.lt ?_).trans k.out⟩
  rcases ho.2 with ⟨rfl, _⟩ | ⟨g, cap, cur, rfl, hb, hh, _⟩
  · simp [Value.ownBlock]
  · intro h
    have : b = g := by simpa [Value.ownBlock] using h
    subst this
    have := k.out
    rw [hh] at this
    simp only [Option.some.injEq, Obj.cells.injEq] at this
    exact ht this.2.1
theorem Kd.Sl.own1 {α : Type} {d : Kd α} {w : World} {base e g n cap : Nat} {xs : List α} {vs : List Value} (hsz : d.sz = 1) (ho : w.ownsRow base e 1 (.slice (some ⟨g, 0, none⟩) n cap) n vs) (hn : xs.length = n) (hl : n ≤ 140737488351232)
    (h : ∀ (k : Nat) x, xs[k]? = some x → ∃ v, vs[k]? = some v ∧ d.K w x [v]) : d.Sl w (.slice (some ⟨g, 0, none⟩) n cap) xs := by
  subst hn
  refine ⟨_, cap, rfl, ?_, hl, Kd.Row.one hsz fun k x hk => ?_⟩
  · rcases ho.2 with ⟨h0, _⟩ | ⟨g', cap', cur, h1, hb, hh, h2, _⟩
    · cases h0
    · injection h1 with _ _ h1
      omega
  · obtain ⟨v, h1, h2⟩ := h k x hk
    refine ⟨v, h2, ?_⟩
    have := ho.cells (g := g) rfl k v h1
    have e : (⟨g, 0, none⟩ : Addr).add k = ⟨g, 0 + k, none⟩ := by unfold Addr.add; split <;> simp_all
    rwa [e] at this
end Go.Proofs.Ytiolpknfdabijaa
