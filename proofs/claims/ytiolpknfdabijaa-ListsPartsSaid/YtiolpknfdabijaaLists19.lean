/- Arenas that are gone through. -/
import Derived.Test.YtiolpknfdabijaaProg
import Derived.Test.YtiolpknfdabijaaLib
import Derived.Test.YtiolpknfdabijaaPure
import Derived.Test.YtiolpknfdabijaaMask
import Derived.Test.YtiolpknfdabijaaMask2
import Derived.Test.YtiolpknfdabijaaVec
import Derived.Test.YtiolpknfdabijaaVec2
import Derived.Test.YtiolpknfdabijaaVec3
import Derived.Test.YtiolpknfdabijaaIter
import Derived.Test.YtiolpknfdabijaaArena
import Derived.Test.YtiolpknfdabijaaArena2
import Derived.Test.YtiolpknfdabijaaArena3
import Derived.Test.YtiolpknfdabijaaLib2
import Derived.Test.YtiolpknfdabijaaLists
set_option linter.unusedVariables false
set_option maxRecDepth 4000
set_option linter.unusedSimpArgs false
namespace Go.Proofs.Ytiolpknfdabijaa
open Go.RowKit


def ovA (a : Arena) : Bool := decide (120 < a.length) || a.any fun x => decide (50 < x.ver.vec.length)
theorem ovA_not {a : Arena} {k : Nat} (hk : k < a.length) (h : 50 < (a.getD k cellNone).ver.vec.length) : ovA a = true := by
  have e : a.getD k cellNone = a[k] := by rw [List.getD_eq_getElem?_getD, List.getElem?_eq_getElem hk]; rfl
  rw [e] at h
  unfold ovA
  rw [Bool.or_eq_true]
  exact .inr (List.any_eq_true.2 ⟨_, List.getElem_mem hk, by simpa using h⟩)
theorem ovA_all {a : Arena} (h0 : ¬ 120 < a.length) (h : ∀ i, i < a.length → ¬ 50 < (a.getD i cellNone).ver.vec.length) : ovA a = false := by
  unfold ovA
  rw [Bool.or_eq_false_iff]
  refine ⟨by simpa using h0, ?_⟩
  rw [List.any_eq_false]
  intro x hx
  obtain ⟨i, hi, rfl⟩ := List.mem_iff_getElem.1 hx
  have := h i hi
  rw [List.getD_eq_getElem?_getD, List.getElem?_eq_getElem hi] at this
  simpa using this
set_option maxHeartbeats 2000000 in
theorem overArena_any (a : Arena) (v : Value) (w : World) (h : kCell.Sl w v a) : Calls Try.prog 11 #[.agg #[v]] w fun e w' => e = .returned (.bool (ovA a)) ∧ Ext w w' := by
  obtain ⟨ad, c, rfl, hc, hl, hr⟩ := h.form
  obtain ⟨ss, hU⟩ := URow.of hr
  have V1 : Hid (120 < a.length → ovA a = true) := fun h => by unfold ovA; rw [decide_eq_true h]; rfl
  have V2 : Hid (∀ k, k < a.length → 50 < (a.getD k cellNone).ver.vec.length → ovA a = true) := fun k hk h => ovA_not hk h
  have V3 : Hid (¬ 120 < a.length → (∀ i, i < a.length → ¬ 50 < (a.getD i cellNone).ver.vec.length) → ovA a = false) := fun h0 h => ovA_all h0 h
  generalize ovA a = r at *
  clear h hr
  by_cases h0 : 120 < a.length
  · have d : decide ((120 : Int) < (a.length : Int)) = true := by simp; omega
    have E : Hid (r = true) := V1.out h0
    clear V1 V2 V3 h0 hU
    generalize a.length = n at *
    go_enter Try.func11, Try.ntmps11
    go_wp2
    go_ret
    exact ⟨ret_bool E.out.symm, (Ext.refl _).alloc _⟩
  · have d : decide ((120 : Int) < (a.length : Int)) = false := by simp; omega
    have kb0 := Blk.new' (w := w) (b := w.heap.size) (cs := #[.slice ad a.length c]) (t := 39) rfl
    go_enter Try.func11, Try.ntmps11
    go_wp2
    refine named fun W0 hW0 => ?_
    have hB : Ext w W0 := Ext.of_eq hW0 ((Ext.refl _).alloc _)
    clear hW0 d kb0
    go_loopg [12] a.length (fun gg s8 wr => ∃ k : Nat, k ≤ a.length ∧ a.length - k ≤ gg ∧ s8 = .int .i64 k ∧ Hid (∀ i, i < k → ¬ 50 < (a.getD i cellNone).ver.vec.length) ∧ Ext w wr)
    case atStart => exact ⟨0, Nat.zero_le _, by omega, rfl, (by intro i hi; omega), hB⟩
    case round =>
      clear hB
      obtain ⟨k, hk, hg, rfl, hno, hB⟩ := hrel
      by_cases hlt : k < a.length
      · obtain ⟨b, off, rfl, hS, c0, c1, c2, c3, c4⟩ := hU.ext hB k hlt
        obtain ⟨a3, cc3, hs, _, _, _⟩ := hS.form
        have hx := run_at (P := Try.prog) 37 50 5 Try.underlying37 Try.sizeOf50 (c := c) (a := some ⟨b, off, none⟩) rfl hlt
        have N : Hid (¬ 50 < (a.getD k cellNone).ver.vec.length → ∀ i, i < k + 1 → ¬ 50 < (a.getD i cellNone).ver.vec.length) := fun e i hi => by
          rcases Nat.lt_or_ge i k with h' | h'
          · exact hno.out i h'
          · rwa [show i = k by omega]
        have N2 : Hid (50 < (a.getD k cellNone).ver.vec.length → r = true) := V2.out k hlt
        rw [hs] at c4
        clear hs hS hU V1 V2 V3 hno
        generalize (a.getD k cellNone).ver.vec.length = n3 at *
        generalize a.getD k cellNone = x at *
        obtain ⟨u, i, bg, eg, xv⟩ := x
        dsimp only at *
        by_cases h5 : 50 < n3
        · have d5 : decide ((50 : Int) < (n3 : Int)) = true := by simp; omega
          have E : Hid _ := N2.out h5
          clear N N2 h5
          go_wp2
          go_ret
          exact ⟨ret_bool E.out.symm, hB.alloc _⟩
        · have d5 : decide ((50 : Int) < (n3 : Int)) = false := by simp; omega
          have E : Hid _ := N.out h5
          clear N N2 h5
          go_wp2
          go_roundg (a.length - (k + 1))
          case measure => omega
          case rel => exact ⟨k + 1, by omega, by omega, by go_num, E, hB.alloc _⟩
      · obtain rfl : k = a.length := by omega
        have E : Hid _ := V3.out h0 hno.out
        clear V1 V2 V3 hno
        go_wp2
        go_ret
        exact ⟨ret_bool E.out.symm, hB⟩

end Go.Proofs.Ytiolpknfdabijaa
