/- The law ListsParts is true at all arenas and all rows of vectors, and leaves its arguments as they were. No condition. -/
import Derived.Test.YtiolpknfdabijaaRows
import Derived.Test.YtiolpknfdabijaaOpen
import Derived.Test.YtiolpknfdabijaaLists20
import Derived.ProofKit
import Derived.LaidMore
import Derived.OpenShut
import Derived.Carry
import Derived.SizedLaws
import Derived.Deep.Strs
set_option linter.unusedVariables false
set_option maxRecDepth 4000
set_option linter.unusedSimpArgs false
namespace Go.Proofs.Ytiolpknfdabijaa
open Go.ChangeShapes Go.WideShapes Go.ChangeAt Go.RowKit

section
variable {H : Type} {enc : TypeId × Value → H} {w : World} {base : Nat} {sp : Nat → Bool} {hd : Bool}
theorem opens_vec : Opens enc Try.prog w base sp hd 46 kVec := Opens.slice Try.underlying46 (of_decide_eq_true (by kernel_rfl)) (of_decide_eq_true (by kernel_rfl)) (by kernel_rfl) (Opens.int Try.underlying21)
theorem opens_vecs : Opens enc Try.prog w base sp hd 22 kVecs := Opens.slice Try.underlying22 (of_decide_eq_true (by kernel_rfl)) (of_decide_eq_true (by kernel_rfl)) (by kernel_rfl) opens_vec
end

section
variable {H : Type} {enc : TypeId × Value → H} {w : World} {base : Nat} {sp : Nat → Bool} {hd : Bool}
instance : Inhabited Cell := ⟨cellNone⟩
theorem opens_ver (n : Nat) (c0 c1 c2 : Value) (y : DataW H × List MemPlace) (h : DataW.trod enc Try.prog w base sp hd n 48 [c0, c1, c2] = some y) (hw : WtOk Try.prog 48 y.1) : ∃ b e xs, c0 = .int .u64 b ∧ c1 = .int .u64 e ∧ kI32.Sl w c2 xs := by
  obtain ⟨y0, y1, y2, n1, rfl, _, h0, h1, h2⟩ := Go.Deep.trod_struct3 Try.underlying48 h
  have k0 : Try.prog.cellsOf 29 = 1 := by kernel_rfl
  have k2 : Try.prog.cellsOf 46 = 1 := by kernel_rfl
  simp only [k0, k2, List.drop_zero, List.drop_succ_cons, List.take_succ_cons, List.take_zero] at h0 h1 h2
  obtain ⟨b, e0, _⟩ := DataW.trod_int Try.underlying29 h0
  obtain ⟨e, e1, _⟩ := DataW.trod_int Try.underlying29 h1
  obtain ⟨xs, hx⟩ := opens_vec n1 _ _ h2 (wtOk_agg Try.underlying48 hw (j := 2) rfl rfl)
  simp only [List.cons.injEq, and_true] at e0 e1
  exact ⟨b, e, xs, e0, e1, hx⟩
theorem opens_cell : Opens enc Try.prog w base sp hd 50 kCell := fun n cs y h hw => by
  obtain ⟨y0, y1, y2, n1, rfl, hl, h0, h1, h2⟩ := Go.Deep.trod_struct3 Try.underlying50 h
  rw [show Try.prog.cellsOf 50 = 5 by kernel_rfl] at hl
  have k0 : Try.prog.cellsOf 4 = 1 := by kernel_rfl
  have k1 : Try.prog.cellsOf 29 = 1 := by kernel_rfl
  have k2 : Try.prog.cellsOf 48 = 3 := by kernel_rfl
  match cs, hl with
  | [c0, c1, c2, c3, c4], _ =>
    simp only [k0, k1, k2, List.drop_zero, List.drop_succ_cons, List.take_succ_cons, List.take_zero] at h0 h1 h2
    obtain ⟨u, e0, _⟩ := DataW.trod_bool Try.underlying4 h0
    obtain ⟨i, e1, _⟩ := DataW.trod_int Try.underlying29 h1
    obtain ⟨b, e, xs, rfl, rfl, hx⟩ := opens_ver n1 _ _ _ _ h2 (wtOk_agg Try.underlying50 hw (j := 2) rfl rfl)
    simp only [List.cons.injEq, and_true] at e0 e1
    subst e0 e1
    exact ⟨⟨u, i, ⟨b, e, xs⟩⟩, _, rfl, hx⟩
theorem opens_cells : Opens enc Try.prog w base sp hd 37 kCell.slice := Opens.slice Try.underlying37 (of_decide_eq_true (by kernel_rfl)) (of_decide_eq_true (by kernel_rfl)) (by kernel_rfl) opens_cell
theorem open_arena {b0 : Nat} {r : Reach} {v : Value} {dt : DataW H} {p : List MemPlace} (hok : Value.okWide Try.prog w r b0 39 v) (h : DataW.Trod enc Try.prog w base sp hd 39 v dt p) (hw : WtOk Try.prog 39 dt) : ∃ av xs, v = .agg #[av] ∧ kCell.Sl w av xs := by
  obtain ⟨cs, rfl, hsz⟩ := okWide_struct Try.underlying39 hok
  rw [show Try.prog.cellsOf 39 = 1 by kernel_rfl] at hsz
  obtain ⟨l⟩ := cs
  match l, hsz with
  | [av], _ =>
    obtain ⟨fuel, hf⟩ := h
    obtain ⟨y0, n1, hx, _, h0⟩ := trod_struct1 Try.underlying39 hf
    have k0 : Try.prog.cellsOf 37 = 1 := by kernel_rfl
    simp only [Prod.mk.injEq] at hx
    obtain ⟨rfl, _⟩ := hx
    have h0' : DataW.trod enc Try.prog w base sp hd n1 37 [av] = some y0 := by
      simpa [k0, Value.cells] using h0
    obtain ⟨xs, hK⟩ := opens_cells n1 _ _ h0' (wtOk_agg Try.underlying39 hw (j := 0) rfl rfl)
    exact ⟨av, xs, rfl, hK⟩
end
theorem own : ownKnob Try.prog.godebug = none := by kernel_rfl
theorem laidOut : laidOutB Try.prog = true := by kernel_rfl
set_option maxHeartbeats 1000000 in
set_option maxRecDepth 100000 in
theorem lifted_ListsParts (os : Os) (started : os.Started) (H : Type) (enc : TypeId × Value → H) :
    ReturnsInHanded {} Try.checked os 4 .any (Rows.listsPartsSpec.pre6 enc Try.prog Try.f4 Rows.listsPartsRow.domain false) (Rows.listsPartsSpec.post enc Try.prog Try.f4 false true false false) := by
  refine returnsInHanded_of_change_sized (C := Try.checked) own started (by kernel_rfl) Try.func4
    (ChangeSpec.witness6 (enc := enc) (C := Try.checked) false ⟨#[], #[.agg #[.slice none 0 0], .slice none 0 0], []⟩ 8 (by kernel_rfl) (by kernel_rfl) (by kernel_rfl) (by kernel_rfl)) ?_
  intro W base args ds gs before hval0 hW _ hsz0 _
  have hsz : (DataW.weightsEach Try.prog (Try.f4.params.toList ++ Rows.listsPartsSpec.plain.varTypes Try.prog) (ds ++ gs)).all (· ≤ reachBytes) = true := hsz0
  clear hsz0
  have hval : ∀ (j : Nat) t v, Try.f4.params[j]? = some t → args[j]? = some v → Value.okWide Try.prog W .any base t v := hval0
  have hW' := hW
  obtain ⟨p, q, hA0, hV, rfl, _, _⟩ := hW
  have hA : DataW.TrodAll enc Try.prog W 0 (fun _ => true) true Try.f4.params.toList args.toList ds p := hA0
  rw [Try.params4] at hA hval hsz
  obtain ⟨v0, vs0, d0, ds0, p0, q0, hargs, rfl, rfl, h0, r0⟩ := trodAll_cons hA
  obtain ⟨v1, vs1, d1, ds1, p1, q1, rfl, rfl, rfl, h1, r1⟩ := trodAll_cons r0
  obtain ⟨rfl, rfl, rfl⟩ := trodAll_nil r1
  obtain rfl : args = #[v0, v1] := by cases args; simp_all
  obtain ⟨rfl, rfl⟩ := trodVars_none hV
  clear hA0 hval0
  simp only [List.append_nil] at hW'
  have ok0 := hval 0 39 v0 rfl rfl
  have hw0 : WtOk Try.prog 39 d0 := wtOk_each hsz (j := 0) rfl rfl
  have ok1 := hval 1 22 v1 rfl rfl
  have hw1 : WtOk Try.prog 22 d1 := wtOk_each hsz (j := 1) rfl rfl
  have hlt0 : ∀ x ∈ p0, x.block < W.heap.size := fun x hx => hW'.lt x (by simp [hx])
  have hlt1 : ∀ x ∈ p1, x.block < W.heap.size := fun x hx => hW'.lt x (by simp [hx])
  have hargs : ∀ (W' : World), Ext W W' → DataW.TrodAll enc Try.prog W' 0 (fun b => decide (b < W.heap.size)) true [ 39, 22 ] [v0, v1] [d0, d1] (p0 ++ (p1 ++ [])) := fun W' hn => (trodAll_cons_mk (Below.trod laidOut (by kernel_rfl) (of_decide_eq_true (by kernel_rfl)) h0 hn hlt0) (trodAll_cons_mk (Below.trod laidOut (by kernel_rfl) (of_decide_eq_true (by kernel_rfl)) h1 hn hlt1) trodAll_mk0))
  obtain ⟨av0, as0, rfl, has0⟩ := open_arena ok0 h0 hw0
  obtain ⟨cs1, hcs1⟩ := open_arg (d := kVec) Try.underlying22 ok1 h1 hw1 opens_vecs
  refine (lparts_any as0 cs1 av0 v1 W has0 hcs1).mono fun e W' ⟨he, hE⟩ => ?_
  subst he
  exact ⟨_, rfl, _, _, _, [], _, [], hW', trodAll_mk1 (shut_bool Try.underlying4 _), by first | exact hargs W' hE | (have := hargs W' hE; simpa using this), rfl, hE.frame _, fun h => by cases h⟩
theorem listsParts_holds : Rows.ListsPartsSaid :=
  OpenClaim.holds_of_wide 4 Try.f4 rfl rfl rfl rfl rfl rfl rfl ⟨rfl, rfl, rfl, rfl, rfl⟩ rfl rfl rfl rfl rfl (by kernel_rfl) Try.func4 (by kernel_rfl)
    (of_decide_eq_true (by kernel_rfl)) (by unfold Func.isWrapper; first | (rw [if_pos (by decide +kernel)]; kernel_rfl) | (rw [if_neg (by decide +kernel)]; exact ⟨rfl, rfl⟩))
    (fun os started H enc _ => lifted_ListsParts os started H enc)

end Go.Proofs.Ytiolpknfdabijaa
