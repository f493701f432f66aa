/- The law MaskBack is true at every row of numbers and every mask, and leaves its arguments as they were. Condition: the table of the package math/bits lies as the program's text lays it; the card ties it. -/
import Derived.Test.YtiolpknfdabijaaDoorRows
import Derived.Test.YtiolpknfdabijaaDoorTie
import Derived.Test.YtiolpknfdabijaaDoorCards
import Derived.Test.YtiolpknfdabijaaDoorMask7
import Derived.ProofKit
import Derived.LaidMore
import Derived.OpenShut
import Derived.Carry
import Derived.Stop.Joined
import Derived.SevenTiedAt
set_option linter.unusedVariables false
namespace Go.Proofs.YtiolpknfdabijaaDoor
open Go.ChangeShapes Go.WideShapes Go.ChangeAt Go.RowKit
theorem own : ownKnob Tryd.prog.godebug = none := by kernel_rfl
theorem laidOut : laidOutB Tryd.prog = true := by kernel_rfl
theorem gTab : Tryd.prog.globalNamed "math/bits.deBruijn64tab" = some 0 := by kernel_rfl
theorem tTab : (Tryd.prog.globals[0]?).map (·.type) = some 72 := by kernel_rfl
theorem door_met (os : Os) (args : Array Value) : laidMetH Tryd.prog Rows.maskBackRow.laid ((World.doorLaid Tryd.prog 400 os).forCall (fun _ _ => 0) ⟨#[], args, []⟩).memory :=
  laidMetH_of_parts3 (fuel := 8) (laidMet_of_run' 8 (by kernel_rfl) (by kernel_rfl)) (by kernel_rfl) (by kernel_rfl)
theorem laid_lits {H : Type} : (Rows.laid_math_bits_deBruijn64tab : DataW H) = .agg (Lib.deBruijn64tab.map fun (n : Nat) => .lit (.int .u8 (n : Int))) := rfl
theorem of_laid {W : World} (h : laidMetH Tryd.prog Rows.maskBackRow.laid W) : Tab W := by
  rw [MakeChecks.laidMetH_plain _ _ _ (by kernel_rfl)] at h
  obtain ⟨ps, ⟨g0, t0, cs0, f0, p0, q0, hg0, ht0, hv0, hd0, _, _⟩, _, _⟩ := h
  obtain rfl := Option.some.inj (gTab.symm.trans hg0)
  obtain rfl := Option.some.inj (tTab.symm.trans ht0)
  refine ⟨fun j hj => ?_⟩
  have hcell := World.var?_cell hg0 hv0 j
  obtain ⟨xs, m1, rfl, hx1, hlen, hn, hel⟩ := DataW.trod_array Tryd.underlying72 hd0
  have hx : xs.map (·.1) = Lib.deBruijn64tab.map fun (n : Nat) => .lit (.int .u8 (n : Int)) := by
    have := congrArg Prod.fst hx1
    simp only [laid_lits, DataW.agg.injEq] at this
    exact this.symm
  have hj' : j < xs.length := by omega
  have h1 := hel j hj
  rw [List.getElem?_eq_getElem hj'] at h1
  obtain ⟨k, e1, e2, _⟩ := DataW.trod_int Tryd.underlying5 h1
  have e3 : (xs.map (·.1))[j]? = (Lib.deBruijn64tab.map fun (n : Nat) => (DataW.lit (.int .u8 (n : Int)) : DataW _))[j]? := by rw [hx]
  have c5 : Tryd.prog.cellsOf 5 = 1 := by kernel_rfl
  rw [c5, Nat.mul_one] at e1
  have e4 : (xs[j]).1 = .lit (.int .u8 ((Lib.deBruijn64tab.getD j 0 : Nat) : Int)) := by
    have hl : j < Lib.deBruijn64tab.length := by
      have : Lib.deBruijn64tab.length = 64 := by decide
      omega
    rw [List.getElem?_map, List.getElem?_map, List.getElem?_eq_getElem hj', List.getElem?_eq_getElem hl] at e3
    rw [List.getD_eq_getElem?_getD, List.getElem?_eq_getElem hl]
    simpa using e3
  rw [e2] at e4
  have hk : k = ((Lib.deBruijn64tab.getD j 0 : Nat) : Int) := by simpa using e4
  have c0 : cs0.toList[j]? = some (.int .u8 k) := by
    have := congrArg (·[0]?) e1
    simpa [List.getElem?_take, List.getElem?_drop] using this
  rw [hcell, ← hk]
  simpa using c0
theorem list2 {α : Type} : ∀ (l : List α), l.length = 2 → ∃ a b, l = [a, b]
  | [a, b], _ => ⟨a, b, rfl⟩
theorem open_mask {H : Type} {enc : TypeId × Value → H} {W : World} {b base : Nat} {sp : Nat → Bool} {hd : Bool} {v : Value} {d : DataW H} {p : List MemPlace} (hok : Value.okWide Tryd.prog W .any base 25 v) (h : DataW.Trod enc Tryd.prog W b sp hd 25 v d p) :
    ∃ m : Mask, v = .agg #[.int .u64 (lo m), .int .u64 (hi m)] := by
  obtain ⟨cs, rfl, hcs, _⟩ : ∃ cs, v = .agg cs ∧ cs.size = Tryd.prog.cellsOf 25 ∧ Row.okWide Tryd.prog W .any base 25 cs := by
    simpa [Value.okWide, Tryd.underlying25] using hok
  rw [show Tryd.prog.cellsOf 25 = 2 by kernel_rfl] at hcs
  obtain ⟨l2⟩ := cs
  obtain ⟨c0, c1, rfl⟩ := list2 l2 hcs
  obtain ⟨fm, hf1⟩ := h
  obtain ⟨xs, m1, rfl, _, _, hn, hel⟩ := DataW.trod_array Tryd.underlying25 hf1
  have c23 : Tryd.prog.cellsOf 23 = 1 := by kernel_rfl
  rw [c23] at hel
  have g0 := hel 0 (by omega)
  have g1 := hel 1 (by omega)
  rw [List.getElem?_eq_getElem (by omega)] at g0 g1
  obtain ⟨x, e0, _, w0⟩ := DataW.trod_int Tryd.underlying23 g0
  obtain ⟨y, e1, _, w1⟩ := DataW.trod_int Tryd.underlying23 g1
  simp [Value.cells] at e0 e1
  subst e0 e1
  obtain ⟨m, rfl, rfl⟩ := words_mask x y (by simp [Lit.wf, IntKind.min, IntKind.max, IntKind.signed, IntKind.bits] at w0; omega) (by simp [Lit.wf, IntKind.min, IntKind.max, IntKind.signed, IntKind.bits] at w1; omega)
  exact ⟨m, rfl⟩
theorem open_row {H : Type} {enc : TypeId × Value → H} {W : World} {base : Nat} {v : Value} {d : DataW H} {p : List MemPlace} (hok : Value.okWide Tryd.prog W .any base 22 v) (h : DataW.Trod enc Tryd.prog W 0 (fun _ => true) true 22 v d p)
    (hsl : ∀ elems spare : List (DataW H), d = .slice elems spare → (elems.length + spare.length) * 8 ≤ 140737488351232) : ∃ l, kInt.Sl W v l := by
  obtain ⟨fuel, hf⟩ := h
  obtain ⟨a0, len, cap, rfl⟩ := okWide_slice Tryd.underlying22 hok
  rcases open_ints Tryd.underlying22 Tryd.underlying3 (by kernel_rfl) hf with ⟨hcs, _⟩ | ⟨a, len', cap', zs, hcs, _, hl, hm, hz, hx, hcell, _⟩
  · simp [Value.cells] at hcs
    obtain ⟨rfl, rfl, rfl⟩ := hcs
    exact ⟨[], Kd.Sl.nil _ _⟩
  · simp [Value.cells] at hcs
    obtain ⟨rfl, rfl, rfl⟩ := hcs
    simp only [if_true] at hz
    simp only [Prod.mk.injEq] at hx
    obtain ⟨rfl, _⟩ := hx
    have hlen : len ≤ 140737488351232 := by
      have := hsl _ _ rfl
      simp only [lits, List.length_map, List.length_take, List.length_drop] at this
      omega
    refine ⟨zs.take len, ?_⟩
    have hl2 : (zs.take len).length = len := by simp; omega
    obtain ⟨b, off, spot⟩ := a
    by_cases hz0 : zs.length = 0
    · have hlen0 : len = 0 := by omega
      subst hlen0
      rw [List.take_zero]
      exact Kd.Sl.mk (by simp) (by simp) (fun k x hk => by simp at hk)
    · have hspot : spot = none := by simpa [Addr.add] using World.cell?_spot (hcell 0 (by omega))
      subst hspot
      have := Kd.Sl.mk (d := kInt) (w := W) (xs := zs.take len) (a := some ⟨b, off, none⟩) (c := cap) (by omega) (by omega) (Kd.Row.one rfl fun k x hk => ?_)
      · rwa [hl2] at this
      · have hk' : k < len := by
          rw [List.getElem?_take] at hk
          split at hk
          · assumption
          · cases hk
        rw [List.getElem?_take, if_pos hk'] at hk
        have h2 := hcell k (by omega)
        rw [add_plain, List.getD_eq_getElem?_getD, hk] at h2
        exact ⟨.int .i64 x, rfl, h2⟩
set_option maxHeartbeats 1000000 in
set_option maxRecDepth 100000 in
theorem back_lifted (os : Os) (started : os.Started) (H : Type) (enc : TypeId × Value → H) :
    ReturnsInHanded {} Tryd.checked os 3 .any (fun w args => (Rows.maskBackSpec.pre enc Tryd.prog Tryd.f3 [] false w args ∧ laidMetH Tryd.prog Rows.maskBackRow.laid w) ∧ sizedMet enc Tryd.prog Tryd.f3 (OpenSpec.ofChange Rows.maskBackSpec) false w args)
      (Rows.maskBackSpec.post enc Tryd.prog Tryd.f3 false true false false) := by
  refine returnsInHanded_of_change_and (C := Tryd.checked) (X := fun w _ => laidMetH Tryd.prog Rows.maskBackRow.laid w) (fun _ _ _ hh h => h.of_heap hh) own started (by kernel_rfl) Tryd.func3
    (ChangeSpec.witness_shaped (enc := enc) (C := Tryd.checked) (os := os) (X := fun w _ => laidMetH Tryd.prog Rows.maskBackRow.laid w) false (World.doorLaid Tryd.prog 400 os) #[.slice none 0 0, .agg #[.int .u64 0, .int .u64 0]] 8 rfl (World.shaped_of_RefB (by kernel_rfl) (by kernel_rfl)) (by kernel_rfl) (by kernel_rfl) (by kernel_rfl) (door_met os _)) ?_
  intro W base args ds gs before hval0 hW _ hsz0 hL _
  have hsz : (DataW.weightsEach Tryd.prog (Tryd.f3.params.toList ++ Rows.maskBackSpec.plain.varTypes Tryd.prog) (ds ++ gs)).all (· ≤ reachBytes) = true := hsz0
  clear hsz0
  have hT := of_laid hL
  have hval : ∀ (j : Nat) t v, Tryd.f3.params[j]? = some t → args[j]? = some v → Value.okWide Tryd.prog W .any base t v := hval0
  have hW' := hW
  obtain ⟨p, q, hA0, hV, rfl, _, _⟩ := hW
  have hA : DataW.TrodAll enc Tryd.prog W 0 (fun _ => true) true Tryd.f3.params.toList args.toList ds p := hA0
  rw [Tryd.params3] at hA hval hsz
  obtain ⟨v0, v1, d0, d1, p0, p1, rfl, rfl, rfl, h0, h1⟩ := trodAll_two hA
  obtain ⟨rfl, rfl⟩ := trodVars_none hV
  clear hA0 hval0
  simp only [List.append_nil] at hW'
  have hlt : ∀ x ∈ p0 ++ p1, x.block < W.heap.size := fun x hx => by simpa using hW'.lt x hx
  have hargs : ∀ (W' : World), Ext W W' → DataW.TrodAll enc Tryd.prog W' 0 (fun b => decide (b < W.heap.size)) true [22, 25] [v0, v1] [d0, d1] (p0 ++ p1) :=
    fun W' hn => trodAll_mk2 (Below.trod laidOut (by kernel_rfl) (of_decide_eq_true (by kernel_rfl)) h0 hn (fun x hx => hlt x (List.mem_append.2 (.inl hx)))) (Below.trod laidOut (by kernel_rfl) (of_decide_eq_true (by kernel_rfl)) h1 hn (fun x hx => hlt x (List.mem_append.2 (.inr hx))))
  obtain ⟨m, rfl⟩ := open_mask (hval 1 25 v1 rfl rfl) h1
  have hsl : ∀ elems spare : List (DataW H), d0 = .slice elems spare → (elems.length + spare.length) * 8 ≤ 140737488351232 := fun elems spare e => by
    subst e
    have := sized_slice hsz (j := 0) (t := 22) (e := 3) rfl rfl Tryd.underlying22
    rwa [show Tryd.prog.bytesOf 3 = 8 by kernel_rfl] at this
  obtain ⟨l, hl⟩ := open_row (hval 0 22 v0 rfl rfl) h0 hsl
  refine (mb_any l m v0 W hl hT).mono fun e W' ⟨he, hE⟩ => ?_
  subst he
  exact ⟨_, rfl, _, _, _, [], p0 ++ p1, [], hW', trodAll_mk1 (shut_bool Tryd.underlying4 _), hargs W' hE, rfl, hE.frame _, fun h => by cases h⟩
theorem back_holds : Rows.MaskBackSaid :=
  OpenClaim.holds_of_wide 3 Tryd.f3 rfl rfl rfl rfl rfl rfl rfl ⟨rfl, rfl, rfl, rfl, rfl⟩ rfl rfl rfl rfl rfl (by kernel_rfl) Tryd.func3 (by kernel_rfl)
    (of_decide_eq_true (by kernel_rfl)) (by unfold Func.isWrapper; first | (rw [if_pos (by decide +kernel)]; kernel_rfl) | (rw [if_neg (by decide +kernel)]; exact ⟨rfl, rfl⟩))
    (fun os started H enc _ => back_lifted os started H enc)
theorem maskBack_holds : Rows.MaskBackCardSaid :=
  Claim7.holds_tied_plain_at .later [] [.data] true (true, "8c0035fe2df916c60a918cbee0d5627e298ed06e41e9f1732d50917a1fe1d421") false
    back_holds (fun _ h => by cases h) (by kernel_rfl) (fun _ h => by cases h) maskBack_row_tie rfl ⟨rfl, rfl⟩ (by kernel_rfl) rfl
    (fun f fn hf hfn => by
      obtain rfl : f = 3 := Option.some.inj ((show Tryd.prog.funcNamed "quiver/quiverlaw10.MaskBack" = some 3 by kernel_rfl).symm.trans hf) |>.symm
      obtain rfl : fn = Tryd.f3 := (Option.some.inj (Tryd.func3.symm.trans hfn)).symm
      exact ⟨by kernel_rfl, fun j t ht => by
        rw [Tryd.params3] at ht
        have hm : t ∈ [22, 25] := by simpa using Array.mem_of_getElem? ht
        have hall : ([22, 25].all fun u => !Tryd.prog.wantsStandIn u) = true := by kernel_rfl
        exact (show Tryd.prog.wantsStandIn t = false by simpa using List.all_eq_true.1 hall t hm)⟩)
    (by kernel_rfl)
end Go.Proofs.YtiolpknfdabijaaDoor
