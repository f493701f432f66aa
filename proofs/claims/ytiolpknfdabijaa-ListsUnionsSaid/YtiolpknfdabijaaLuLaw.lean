/- The law ListsUnions is true at all lists and all rows of places, and leaves its arguments as they were. No condition. -/
import Derived.Test.YtiolpknfdabijaaRows
import Derived.Test.YtiolpknfdabijaaOpen
import Derived.Test.YtiolpknfdabijaaLists17
import Derived.ProofKit
import Derived.LaidMore
import Derived.OpenShut
import Derived.Carry
import Derived.SizedLaws
set_option linter.unusedVariables false
set_option maxRecDepth 4000
set_option linter.unusedSimpArgs false
namespace Go.Proofs.Ytiolpknfdabijaa
open Go.ChangeShapes Go.WideShapes Go.ChangeAt Go.RowKit

section
variable {H : Type} {enc : TypeId × Value → H} {w : World} {base : Nat} {sp : Nat → Bool} {hd : Bool}
theorem opens_vec : Opens enc Try.prog w base sp hd 46 kVec := Opens.slice Try.underlying46 (of_decide_eq_true (by kernel_rfl)) (of_decide_eq_true (by kernel_rfl)) (by kernel_rfl) (Opens.int Try.underlying21)
theorem opens_vecs : Opens enc Try.prog w base sp hd 22 kVecs := Opens.slice Try.underlying22 (of_decide_eq_true (by kernel_rfl)) (of_decide_eq_true (by kernel_rfl)) (by kernel_rfl) opens_vec
theorem opens_masks : Opens enc Try.prog w base sp hd 23 kMask.slice := Opens.slice Try.underlying23 (of_decide_eq_true (by kernel_rfl)) (of_decide_eq_true (by kernel_rfl)) (by kernel_rfl) (Opens.mask Try.underlying31 Try.underlying29 (by kernel_rfl) (by kernel_rfl))
theorem opens_ints : Opens enc Try.prog w base sp hd 26 kInt.slice := Opens.slice Try.underlying26 (of_decide_eq_true (by kernel_rfl)) (of_decide_eq_true (by kernel_rfl)) (by kernel_rfl) (Opens.int Try.underlying3)
end
theorem own : ownKnob Try.prog.godebug = none := by kernel_rfl
theorem laidOut : laidOutB Try.prog = true := by kernel_rfl
set_option maxHeartbeats 1000000 in
set_option maxRecDepth 100000 in
theorem lifted_ListsUnions (os : Os) (started : os.Started) (H : Type) (enc : TypeId × Value → H) :
    ReturnsInHanded {} Try.checked os 3 .any (Rows.listsUnionsSpec.pre6 enc Try.prog Try.f3 Rows.listsUnionsRow.domain false) (Rows.listsUnionsSpec.post enc Try.prog Try.f3 false true false false) := by
  refine returnsInHanded_of_change_sized (C := Try.checked) own started (by kernel_rfl) Try.func3
    (ChangeSpec.witness6 (enc := enc) (C := Try.checked) false ⟨#[], #[.agg #[.slice none 0 0, .slice none 0 0], .slice none 0 0, .slice none 0 0], []⟩ 8 (by kernel_rfl) (by kernel_rfl) (by kernel_rfl) (by kernel_rfl)) ?_
  intro W base args ds gs before hval0 hW _ hsz0 _
  have hsz : (DataW.weightsEach Try.prog (Try.f3.params.toList ++ Rows.listsUnionsSpec.plain.varTypes Try.prog) (ds ++ gs)).all (· ≤ reachBytes) = true := hsz0
  clear hsz0
  have hval : ∀ (j : Nat) t v, Try.f3.params[j]? = some t → args[j]? = some v → Value.okWide Try.prog W .any base t v := hval0
  have hW' := hW
  obtain ⟨p, q, hA0, hV, rfl, _, _⟩ := hW
  have hA : DataW.TrodAll enc Try.prog W 0 (fun _ => true) true Try.f3.params.toList args.toList ds p := hA0
  rw [Try.params3] at hA hval hsz
  obtain ⟨v0, vs0, d0, ds0, p0, q0, hargs, rfl, rfl, h0, r0⟩ := trodAll_cons hA
  obtain ⟨v1, vs1, d1, ds1, p1, q1, rfl, rfl, rfl, h1, r1⟩ := trodAll_cons r0
  obtain ⟨v2, vs2, d2, ds2, p2, q2, rfl, rfl, rfl, h2, r2⟩ := trodAll_cons r1
  obtain ⟨rfl, rfl, rfl⟩ := trodAll_nil r2
  obtain rfl : args = #[v0, v1, v2] := by cases args; simp_all
  obtain ⟨rfl, rfl⟩ := trodVars_none hV
  clear hA0 hval0
  simp only [List.append_nil] at hW'
  have ok0 := hval 0 25 v0 rfl rfl
  have hw0 : WtOk Try.prog 25 d0 := wtOk_each hsz (j := 0) rfl rfl
  have ok1 := hval 1 26 v1 rfl rfl
  have hw1 : WtOk Try.prog 26 d1 := wtOk_each hsz (j := 1) rfl rfl
  have ok2 := hval 2 26 v2 rfl rfl
  have hw2 : WtOk Try.prog 26 d2 := wtOk_each hsz (j := 2) rfl rfl
  have hlt0 : ∀ x ∈ p0, x.block < W.heap.size := fun x hx => hW'.lt x (by simp [hx])
  have hlt1 : ∀ x ∈ p1, x.block < W.heap.size := fun x hx => hW'.lt x (by simp [hx])
  have hlt2 : ∀ x ∈ p2, x.block < W.heap.size := fun x hx => hW'.lt x (by simp [hx])
  have hargs : ∀ (W' : World), Ext W W' → DataW.TrodAll enc Try.prog W' 0 (fun b => decide (b < W.heap.size)) true [ 25, 26, 26 ] [v0, v1, v2] [d0, d1, d2] (p0 ++ (p1 ++ (p2 ++ []))) := fun W' hn => (trodAll_cons_mk (Below.trod laidOut (by kernel_rfl) (of_decide_eq_true (by kernel_rfl)) h0 hn hlt0) (trodAll_cons_mk (Below.trod laidOut (by kernel_rfl) (of_decide_eq_true (by kernel_rfl)) h1 hn hlt1) (trodAll_cons_mk (Below.trod laidOut (by kernel_rfl) (of_decide_eq_true (by kernel_rfl)) h2 hn hlt2) trodAll_mk0)))
  obtain ⟨cv0, mv0, y0, z0, m0, rfl, rfl, rfl, t0, u0⟩ := Go.Joins.open_agg2 Try.underlying25 (by kernel_rfl) (by kernel_rfl) ok0 h0
  obtain ⟨cs0, hcs0⟩ := opens_vecs m0 _ _ t0 (wtOk_agg Try.underlying25 hw0 (j := 0) rfl rfl)
  obtain ⟨ms0, hms0⟩ := opens_masks m0 _ _ u0 (wtOk_agg Try.underlying25 hw0 (j := 1) rfl rfl)
  obtain ⟨xs1, hxs1⟩ := open_arg (d := kInt) Try.underlying26 ok1 h1 hw1 opens_ints
  obtain ⟨xs2, hxs2⟩ := open_arg (d := kInt) Try.underlying26 ok2 h2 hw2 opens_ints
  refine (lunions_any ⟨cs0, ms0⟩ xs1 xs2 cv0 mv0 v1 v2 W hcs0 hms0 hxs1 hxs2).mono fun e W' ⟨he, hE⟩ => ?_
  subst he
  exact ⟨_, rfl, _, _, _, [], _, [], hW', trodAll_mk1 (shut_bool Try.underlying4 _), by first | exact hargs W' hE | (have := hargs W' hE; simpa using this), rfl, hE.frame _, fun h => by cases h⟩
theorem listsUnions_holds : Rows.ListsUnionsSaid :=
  OpenClaim.holds_of_wide 3 Try.f3 rfl rfl rfl rfl rfl rfl rfl ⟨rfl, rfl, rfl, rfl, rfl⟩ rfl rfl rfl rfl rfl (by kernel_rfl) Try.func3 (by kernel_rfl)
    (of_decide_eq_true (by kernel_rfl)) (by unfold Func.isWrapper; first | (rw [if_pos (by decide +kernel)]; kernel_rfl) | (rw [if_neg (by decide +kernel)]; exact ⟨rfl, rfl⟩))
    (fun os started H enc _ => lifted_ListsUnions os started H enc)

end Go.Proofs.Ytiolpknfdabijaa
