/- How arguments that come in stand in cells: kinds, opened. -/
import Derived.Test.YtiolpknfdabijaaLib
import Derived.Test.YtiolpknfdabijaaMask2
import Derived.Test.YtiolpknfdabijaaVec
import Derived.ProofKit
import Derived.OpenShut
import Derived.Deep.Slices
import Derived.Lib.SmallJoins
set_option linter.unusedVariables false
namespace Go.Proofs.Ytiolpknfdabijaa
open Go.ChangeShapes Go.WideShapes Go.ChangeAt Go.RowKit Go.Deep
section
variable {H : Type} {enc : TypeId × Value → H} {P : Program} {w : World} {base : Nat} {sp : Nat → Bool} {hd : Bool} {α : Type}
/-- All that the datum takes is within the reach. -/
def WtOk (P : Program) (t : TypeId) (d : DataW H) : Prop := ∀ n ∈ d.weights P t, n ≤ 140737488351232
theorem wtOk_all {t : TypeId} : ∀ {l : List (DataW H)}, (∀ n ∈ DataW.weightsAll P t l, n ≤ 140737488351232) → ∀ d ∈ l, WtOk P t d
  | [], _, d, hm => by cases hm
  | x :: l, h, d, hm => by
    rcases List.mem_cons.1 hm with rfl | hm
    · exact fun n hn => h n (by simp [DataW.weightsAll, hn])
    · exact wtOk_all (fun n hn => h n (by simp [DataW.weightsAll, hn])) d hm
theorem wtOk_each {ts : List TypeId} {ds : List (DataW H)} (h : (DataW.weightsEach P ts ds).all (· ≤ reachBytes) = true) {j : Nat} {t : TypeId} {d : DataW H} (ht : ts[j]? = some t) (hd : ds[j]? = some d) : WtOk P t d := fun n hn => by
  have := List.all_eq_true.1 h n (DataW.weights_mem_each ht hd n hn)
  have e : reachBytes = 140737488351232 := rfl
  rw [e] at this
  simpa using this
theorem wtOk_agg {t : TypeId} {fs : Array Field} {ds : List (DataW H)} (ht : P.underlying t = some (.struct fs)) (h : WtOk P t (.agg ds)) {j : Nat} {f : Field} {d : DataW H} (hf : fs[j]? = some f) (hd : ds[j]? = some d) : WtOk P f.type d := fun n hn => by
  refine h n ?_
  simp only [DataW.weights, ht]
  exact DataW.weights_mem_each (j := j) (by simp [hf]) hd n hn
/-- Whatever is read at this type stands as a thing of the kind. -/
def Opens (enc : TypeId × Value → H) (P : Program) (w : World) (base : Nat) (sp : Nat → Bool) (hd : Bool) (t : TypeId) (d : Kd α) : Prop :=
  ∀ (n : Nat) (cs : List Value) (y : DataW H × List MemPlace), DataW.trod enc P w base sp hd n t cs = some y → WtOk P t y.1 → ∃ x, d.K w x cs
theorem Opens.int {t : TypeId} {k : IntKind} (ht : P.underlying t = some (.int k)) : Opens enc P w base sp hd t (Kd.int k) := fun n cs y h _ => by
  obtain ⟨x, rfl, _⟩ := DataW.trod_int ht h
  exact ⟨x, rfl⟩
theorem Opens.slice [Inhabited α] {t e : TypeId} {d : Kd α} (ht : P.underlying t = some (.slice e)) (hb : 0 < P.bytesOf e) (hc : 0 < P.cellsOf e) (hsz : d.sz = P.cellsOf e) (ho : Opens enc P w base sp hd e d) : Opens enc P w base sp hd t d.slice := fun n cs y h hw => by
  rcases open_slice ht h with ⟨rfl, _⟩ | ⟨a, len, cap, m, n', D, Pl, rfl, _, hl, hm, hmm, rfl, hx⟩
  · exact ⟨[], none, 0, rfl, Nat.le_refl _, by simp, Kd.Row.nil _ _ _⟩
  · have hlm : len ≤ m := by rw [hmm]; split <;> omega
    have hw2 : (∀ x ∈ DataW.weightsAll P e ((List.range len).map D), x ≤ 140737488351232) ∧ len ≤ 140737488351232 := by
      unfold WtOk at hw
      simp only [DataW.weights, ht] at hw
      refine ⟨fun x hx => hw x (by simp [hx]), ?_⟩
      have := hw _ List.mem_cons_self
      simp only [List.length_map, List.length_range] at this
      have h2 : len * 1 ≤ (len + (m - len)) * P.bytesOf e := Nat.mul_le_mul (by omega) hb
      omega
    obtain ⟨F, hF⟩ := choose_lt (α := α) (n := len) (p := fun i x => ∃ cs', w.cells? base (a.add (i * P.cellsOf e)) (P.cellsOf e) = some cs' ∧ d.K w x cs') fun i hi => by
      obtain ⟨cs', h1, h2⟩ := hx i (by omega)
      obtain ⟨x, hK⟩ := ho n' cs' _ h2 (wtOk_all hw2.1 _ (List.mem_map.2 ⟨i, by simpa using hi, rfl⟩))
      exact ⟨x, cs', h1, hK⟩
    refine ⟨(List.range len).map F, some a, cap, by simp, by simpa using hl, by simpa using hw2.2, fun k x hk => ?_⟩
    have hkl : k < len := by
      have := (List.getElem?_eq_some_iff.1 hk).1
      simpa using this
    obtain rfl : F k = x := by
      rw [List.getElem?_map, List.getElem?_range hkl] at hk
      simpa using hk
    obtain ⟨cs', h1, hK⟩ := hF k hkl
    obtain ⟨_, hlen, hcell⟩ := World.cells?_some h1
    obtain ⟨b, off, spot⟩ := a
    have hspot : spot = none := by
      obtain ⟨cs0, q1, _⟩ := hF 0 (by omega)
      obtain ⟨_, hlen0, hcell0⟩ := World.cells?_some q1
      have h0 := hcell0 0 hc
      rw [List.getElem?_eq_getElem (by omega)] at h0
      have := World.cell?_spot h0
      simpa [Addr.add] using this
    subst hspot
    refine ⟨b, off, cs', rfl, hK, fun i v hv => ?_⟩
    have hi : i < P.cellsOf e := by
      have := (List.getElem?_eq_some_iff.1 hv).1
      omega
    have h2 := hcell i hi
    rw [hv] at h2
    rw [hsz, ← h2]
    congr 1
    rw [add_plain, add_plain]
theorem Opens.mask {t e : TypeId} (ht : P.underlying t = some (.array 2 e)) (he : P.underlying e = some (.int .u64)) (hc : P.cellsOf e = 1) (hct : P.cellsOf t = 2) : Opens enc P w base sp hd t kMask := fun n cs y h _ => by
  obtain ⟨xs, m1, rfl, _, hl, hn, hel⟩ := DataW.trod_array ht h
  rw [hct] at hl
  rw [hc] at hel
  match cs, hl with
  | [c0, c1], _ =>
    have g0 := hel 0 (by omega)
    have g1 := hel 1 (by omega)
    rw [List.getElem?_eq_getElem (by omega)] at g0 g1
    obtain ⟨x, e0, _, w0⟩ := DataW.trod_int he g0
    obtain ⟨y, e1, _, w1⟩ := DataW.trod_int he g1
    simp at e0 e1
    subst e0 e1
    obtain ⟨m, rfl, rfl⟩ := words_mask x y (by simp [Lit.wf, IntKind.min, IntKind.max, IntKind.signed, IntKind.bits] at w0; omega) (by simp [Lit.wf, IntKind.min, IntKind.max, IntKind.signed, IntKind.bits] at w1; omega)
    exact ⟨m, rfl⟩
/-- A slice that came in as an argument. -/
theorem open_arg {t e : TypeId} {d : Kd α} {v : Value} {b0 : Nat} {dt : DataW H} {p : List MemPlace} {r : Reach} (ht : P.underlying t = some (.slice e)) (hok : Value.okWide P w r b0 t v) (h : DataW.Trod enc P w base sp hd t v dt p) (hw : WtOk P t dt) (ho : Opens enc P w base sp hd t d.slice) : ∃ xs, d.Sl w v xs := by
  obtain ⟨a0, len, cap, rfl⟩ := okWide_slice ht hok
  obtain ⟨fuel, hf⟩ := h
  obtain ⟨xs, hK⟩ := ho fuel _ _ hf hw
  exact ⟨xs, hK⟩
end
end Go.Proofs.Ytiolpknfdabijaa
