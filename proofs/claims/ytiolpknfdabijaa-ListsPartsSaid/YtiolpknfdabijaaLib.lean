/- Laws for regions whose order is open: a head of operations that are quiet in a class of worlds, then a tail in one forced order. -/
import Derived.WalkKit
import Derived.WalkLawsBesides
import Derived.WalkSpells
import Derived.Deep.QuietTactic
import Derived.BigQuiet
import Derived.StillTail
import Derived.Deep.LoopGhost
import Derived.Shelf.Abstract
import Derived.Outline
set_option linter.unusedVariables false
set_option linter.unusedSimpArgs false
namespace Go.Proofs.Ytiolpknfdabijaa
open Go.RowKit

section tails
variable {P : Program} {md : Region.Mode} {ops : Array Oper} {C : World → Prop}

/-- From here f operations of the head come, in whatever order; then L. -/
def headQ (P : Program) (md : Region.Mode) (ops : Array Oper) (C : World → Prop) (n : Nat) (L : Array Bool → Act → Prop) : Nat → Array Bool → Act → Prop
  | 0, listed, a => L listed a
  | f + 1, listed, a => Region.ready md ops listed ≠ [] ∧ ∀ i ∈ Region.ready md ops listed, i < n ∧ qOp P ops C i (headQ P md ops C n L f (listed.setIfInBounds i true)) a

theorem headQ_any {n g : Nat} {L : Array Bool → Act → Prop} {Q : Exit → Act → World → Prop} (hL : ∀ listed a w, C w → L listed a → wpAny P md ops Q g listed a w) :
    ∀ (f : Nat) (listed : Array Bool) (a : Act) (w : World), C w → headQ P md ops C n L f listed a → wpAny P md ops Q (f + g) listed a w
  | 0, listed, a, w, hw, h => by rw [Nat.zero_add]; exact hL _ _ _ hw h
  | f + 1, listed, a, w, hw, h => by
    rw [Nat.succ_add]
    exact ⟨fun e => absurd e h.1, fun i hi => wpOp_of_qOp hw (fun a' w' hw' h' => headQ_any hL f _ a' w' hw' h') (h.2 i hi).2⟩

theorem headQ_first {n i : Nat} {oi : Oper} {v : Value} {L : Array Bool → Act → Prop} (hi : ops[i]? = some oi) (hsel : ∀ (j : Nat) (o : Oper) cs b, ops[j]? = some o → o.op ≠ .select cs b)
    (hs : Region.sinkB md ops n = true) (hc : Region.chainB md ops n = true) (hn : n < ops.size) (hin : i < n) (hL : ∀ listed a, L listed a → ∀ j ∈ Region.ready md ops listed, n ≤ j) :
    ∀ (f : Nat) (listed : Array Bool) (a : Act), HeadInv md ops n listed →
      (∀ j oj, ops[j]? = some oj → j ≠ i → listed.getD j true = false → (∀ e ∈ oj.after, Region.binds md e = true → e.on ≠ i) → oi.apart ops oj = true) →
      i ∈ Region.ready md ops listed → YieldsIn P ops C oi v a →
      headQ P md ops C n L f (listed.setIfInBounds i true) (a.put oi.dst v) → headQ P md ops C n L (f + 1) listed a := by
  intro f
  induction f with
  | zero =>
    intro listed a inv _ hr hy H
    refine ⟨fun e => (by rw [e] at hr; cases hr), fun j hj => ?_⟩
    have hjn : j < n := by
      by_cases h : j < n
      · exact h
      · exact absurd hj (tail_waits hs hc hn inv _ i rfl hin (mem_ready.1 hr).1 j (by omega))
    refine ⟨hjn, ?_⟩
    by_cases e : j = i
    · subst e; exact hy.qOp hi H
    · have := hL _ _ H j (ready_mono hj e)
      omega
  | succ f ih =>
    intro listed a inv hfree hr hy H
    have hun := (mem_ready.1 hr).1
    refine ⟨fun e => (by rw [e] at hr; cases hr), fun j hj => ?_⟩
    have hjn : j < n := by
      by_cases h : j < n
      · exact h
      · exact absurd hj (tail_waits hs hc hn inv _ i rfl hin hun j (by omega))
    refine ⟨hjn, ?_⟩
    by_cases e : j = i
    · subst e; exact hy.qOp hi H
    · obtain ⟨hjun, oj, hoj, hall⟩ := mem_ready.1 hj
      have hnot : ∀ e ∈ oj.after, Region.binds md e = true → e.on ≠ i := fun e he hb heq => by
        have h1 := hall e he hb
        rw [heq, getD_both hun] at h1
        cases h1
      have h2 := qOp_put hoj (hfree j oj hoj e hjun hnot) (fun cs b => hsel i oi cs b hi) (fun cs b => hsel j oj cs b hoj) hy (H.2 j (ready_mono hj e)).2
      refine qOp_mono (fun a' h3 => ih (listed.setIfInBounds j true) a' (inv.set hj hjn) (fun k ok hk hki hkun hno => hfree k ok hk hki ?_ hno) (ready_mono hr (Ne.symm e)) h3.1 ?_) h2
      · by_cases hjk : j = k
        · subst hjk; exact hjun
        · rw [getD_set_ne true hjk] at hkun; exact hkun
      · rw [Array.setIfInBounds_comm _ _ e]
        exact h3.2

theorem headQ_lex {n g : Nat} {Lq : Act → Prop} (hsel : Region.noSelect ops = true) (hs : Region.sinkB md ops n = true) (hc : Region.chainB md ops n = true) (hn : n < ops.size) :
    ∀ (l : List Oper) (k : Nat) (listed : Array Bool) (a : Act), (∀ j, j < l.length → l[j]? = ops[k + j]?) → k + l.length = n → HeadInv md ops n listed →
    Region.lexHead md ops g l.length k listed = true → wpQuiet P ops C Lq l a →
    headQ P md ops C n (fun listed' a' => Region.seqB md ops g n listed' = true ∧ Lq a') l.length listed a
  | [], k, listed, a, _, hk, _, hB, h => by
    obtain rfl : k = n := by simpa using hk
    exact ⟨by simpa [Region.lexHead] using hB, h⟩
  | o :: l, k, listed, a, hl, hk, inv, hB, h => by
    have h0 : ops[k]? = some o := by simpa using (hl 0 (by simp)).symm
    simp only [List.length_cons, Region.lexHead, Bool.and_eq_true] at hB
    obtain ⟨⟨hr, hf⟩, hB'⟩ := hB
    simp only [List.length_cons] at hk
    have hkn : k < n := by omega
    have hr' : k ∈ Region.ready md ops listed := by simpa using hr
    have hst : qOp P ops C k (wpQuiet P ops C Lq l) a := by unfold qOp; simp only [h0]; exact h
    obtain ⟨v, hy, hK⟩ := yieldsIn_of_qOp h0 hst
    exact headQ_first h0 (Region.noSelect_spec hsel) hs hc hn hkn (fun listed' a' hL => seqB_ready hL.1) l.length listed a inv (Region.free_spec h0 hf) hr' hy
      (headQ_lex hsel hs hc hn l (k + 1) _ _ (fun j hj => by have := hl (j + 1) (by simp; omega); simpa [Nat.add_assoc, Nat.add_comm 1 j] using this) (by omega) (inv.set hr' hkn) hB' hK)

/-- A region that draws: n operations quiet in the class C, in whatever order; the rest in one forced order, from every world of the class. -/
theorem region_tail {id : Nat} {Q : Exit → Act → World → Prop} {a : Act} {w : World} {l : List Oper} (C : World → Prop) (n : Nat) (hm : P.follows .mixedOrders = true) (hB : Region.lexTailB .any l.toArray n = true)
    (hC : C w.drew) (h : wpQuiet P l.toArray C (fun a' => ∀ w', C w' → wpList P l.toArray Q (l.drop n) a' w') (l.take n) a) : (Code.region id l.toArray true).wp P Q a w := by
  simp only [Region.lexTailB, Bool.and_eq_true, decide_eq_true_eq] at hB
  obtain ⟨⟨⟨⟨hsel, hn⟩, hs⟩, hc⟩, hlex⟩ := hB
  have hn' : n < l.length := by simpa using hn
  have htl : (l.take n).length = n := by simp; omega
  have hdl : (l.drop n).length = l.toArray.size - n := by simp
  have inv0 : HeadInv .any l.toArray n (Array.replicate l.toArray.size false) :=
    ⟨by simp, fun j oj _ hl => (by rw [getD_replicate_false] at hl; cases hl), fun t _ ht => getD_in (by simpa using ht) (getD_replicate_false _ _)⟩
  have H := headQ_lex (P := P) (C := C) (md := .any) (g := l.toArray.size - n) hsel hs hc hn (l.take n) 0 _ a (fun j hj => by
    have hj' : j < n := by rw [htl] at hj; exact hj
    simp [hj']) (by simpa using htl) inv0 (by rw [htl]; exact hlex) h
  refine wp_region_any hm ?_
  have := headQ_any (Q := Q) (g := l.toArray.size - n) (fun listed a' w' hw' hL => by
    have := wpAny_of_seq (md := .any) (Q' := Q) (l.drop n) n listed a' w' (fun j => by simp [List.getElem?_drop]) (by rw [hdl]; exact hL.1) (hL.2 w' hw')
    rwa [hdl] at this) _ _ _ w.drew hC H
  rw [htl, show n + (l.toArray.size - n) = l.toArray.size by omega] at this
  exact this

/-- The same where all operations are quiet. -/
theorem region_all {id : Nat} {Q : Exit → Act → World → Prop} {a : Act} {w : World} {l : List Oper} (C : World → Prop) (hm : P.follows .mixedOrders = true) (hB : Region.lexB .any l.toArray = true)
    (hC : C w.drew) (h : wpQuiet P l.toArray C (fun a' => ∀ w', C w' → Q .normal a' w') l a) : (Code.region id l.toArray true).wp P Q a w :=
  wp_region_quiet (C := C) hm hB hC (by simpa using h)
end tails

/-- One operation of the head. -/
theorem quiet_op {P : Program} {ops : Array Oper} {C : World → Prop} {Q : Act → Prop} {a : Act} {o : Oper} {rest : List Oper} (hw : Region.wanted o (yielded ops a.tmps) = true)
    (h : ∃ v, (∀ w, C w → Oper.quietUpon P C w v ((execOp a.eval o).run P w)) ∧ wpQuiet P ops C Q rest (a.put o.dst v)) : wpQuiet P ops C Q (o :: rest) a := by
  refine wpQuiet_step (fun K hK => ?_)
  rw [if_pos hw]
  obtain ⟨v, h1, h2⟩ := h
  exact ⟨v, h1, hK _ h2⟩

/-- One that is not wanted. -/
theorem quiet_skip {P : Program} {ops : Array Oper} {C : World → Prop} {Q : Act → Prop} {a : Act} {o : Oper} {rest : List Oper} (hw : Region.wanted o (yielded ops a.tmps) = false)
    (h : wpQuiet P ops C Q rest (a.put o.dst undef)) : wpQuiet P ops C Q (o :: rest) a := by
  refine wpQuiet_step (fun K hK => ?_)
  rw [hw]
  exact hK _ h

/-- The world under a name. -/
theorem named {P : Program} {c : Code} {Q : Exit → Act → World → Prop} {a : Act} {w : World} (h : ∀ W, Hid (W = w) → c.wp P Q a W) : c.wp P Q a w := h w rfl

/-- All that lay in w lies as it lay. -/
abbrev Ext (w w' : World) : Prop := Below w.heap.size w w'
theorem Ext.trans {a b c : World} (h : Ext a b) (k : Ext b c) : Ext a c := Below.trans h (k.mono h.size)
theorem Ext.alloc {a b : World} (h : Ext a b) (o : Obj) : Ext a (b.alloc o) := Below.alloc h h.size o
theorem Ext.drew' {a b : World} (h : Ext a b) : Ext a b.drew := Below.drew h
theorem Ext.drewN {a b : World} (h : Ext a b) (n : Nat) : Ext a (b.drewN n) := ⟨h.os, h.tape, h.output, h.size, h.block⟩
theorem Ext.cellR {w w' : World} (h : Ext w w') : ∀ a, (w.cell? a).isSome = true → w'.cell? a = w.cell? a := fun a ha => by
  obtain ⟨v, hv⟩ := Option.isSome_iff_exists.1 ha
  exact Below.cell h (World.block_lt_of_cell? w a hv)
theorem Ext.frozenR {w w' : World} (h : Ext w w') : ∀ a, (w.cell? a).isSome = true → w'.frozen? a = w.frozen? a := fun a ha => by
  obtain ⟨v, hv⟩ := Option.isSome_iff_exists.1 ha
  exact Below.frozen h (World.block_lt_of_cell? w a hv)
theorem Ext.cellS {w w' : World} (h : Ext w w') {a : Addr} {v : Value} (hc : w.cell? a = some v) : w'.cell? a = some v := (Below.cell h (World.block_lt_of_cell? w a hc)).trans hc

/-- Block b is a row of cells of type t that are not frozen. -/
structure Blk (w : World) (b : Nat) (cs : Array Value) (t : TypeId) : Prop where mk :: (out : w.heap[b]? = some (.cells cs t (0, 0)))
namespace Blk
variable {w w' : World} {b : Nat} {cs : Array Value} {t : TypeId}
theorem new (w : World) (cs : Array Value) (t : TypeId) : Blk (w.alloc (.cells cs t)) w.heap.size cs t := ⟨heap_alloc_new w _⟩
theorem new' {w : World} {b : Nat} {cs : Array Value} {t : TypeId} (h : w.heap.size = b) : Blk (w.alloc (.cells cs t)) b cs t := h ▸ new w cs t
theorem lt (h : Blk w b cs t) : b < w.heap.size := (Array.getElem?_eq_some_iff.1 h.out).1
theorem alloc (h : Blk w b cs t) (o : Obj) : Blk (w.alloc o) b cs t := ⟨(Below.heap_alloc w o b h.lt).trans h.out⟩
theorem drew (h : Blk w b cs t) : Blk w.drew b cs t := ⟨h.out⟩
theorem drewN (h : Blk w b cs t) (n : Nat) : Blk (w.drewN n) b cs t := ⟨h.out⟩
theorem ext (h : Blk w b cs t) (e : Ext w w') : Blk w' b cs t := ⟨(e.block b h.lt).trans h.out⟩
theorem set_ (h : Blk w b cs t) (i : Nat) (u : Value) : Blk (w.setCell ⟨b, i, none⟩ u) b (cs.setIfInBounds i u) t := ⟨by simp [World.setCell, Array.getElem?_modify, h.out]⟩
theorem far (h : Blk w b cs t) {p : Addr} (hp : b ≠ p.block) (u : Value) : Blk (w.setCell p u) b cs t := ⟨(Below.heap_setCell w p u b hp).trans h.out⟩
theorem cell (h : Blk w b cs t) (i : Nat) : w.cell? ⟨b, i, none⟩ = cs[i]? := cell_of_row w b i cs t (0, 0) h.out
theorem frozen (h : Blk w b cs t) (i : Nat) : w.frozen? ⟨b, i, none⟩ = false := by simp [World.frozen?, h.out]
theorem of_eq {W : World} (h : Hid (W = w)) (k : Blk w b cs t) : Blk W b cs t := by have e : W = w := h; rw [e]; exact k
end Blk
theorem Ext.set {w W : World} (h : Ext w W) {p : Addr} (hb : w.heap.size ≤ p.block) (u : Value) : Ext w (W.setCell p u) := Below.setCell h hb u
theorem Ext.of_eq {a w W : World} (h : Hid (W = w)) (k : Ext a w) : Ext a W := by have e : W = w := h; rw [e]; exact k
theorem Ext.refl (w : World) : Ext w w := Below.refl _ _
theorem Ext.le {a w : World} (h : Ext a w) : a.heap.size ≤ w.heap.size := h.size

/-- The address of an element, where the slice's own address is known by an equation. -/
theorem run_at {P : Program} (t e sz : Nat) (ht : P.underlying t = some (.slice e)) (hs : ∀ w, (Go.sizeOf e).run P w = .ok sz w) {a : Option Addr} {b off n c k : Nat} (ha : a = some ⟨b, off, none⟩) (hk : k < n) (W : World) :
    (Instr.indexAt t (.slice a n c) (.int .i64 (k : Int))).run P W = .ok (.pointer (some ⟨b, off + k * sz, none⟩)) W := by
  subst ha
  have he : P.elem t = e := by simp [Program.elem, ht]
  have hadd : (⟨b, off, none⟩ : Addr).add (k * sz) = ⟨b, off + k * sz, none⟩ := by unfold Addr.add; split <;> simp_all
  rw [run_indexAt_slice W t _ n c .i64 (k : Int) (by rw [he]; exact ht), if_pos ⟨by omega, by omega⟩, he]
  simp [hs, hadd]

theorem ret_int {k : IntKind} {a b : Int} (h : a = b) : Ending.returned (.int k a) = .returned (.int k b) := by rw [h]
theorem ret_bool {a b : Bool} (h : a = b) : Ending.returned (.bool a) = .returned (.bool b) := by rw [h]

/-! ### Kinds: how a thing stands in cells -/
structure Kd (α : Type) where
  sz : Nat
  K : World → α → List Value → Prop
  len : ∀ {w x cs}, K w x cs → cs.length = sz
  ext : ∀ {w w' x cs}, Ext w w' → K w x cs → K w' x cs
namespace Kd
variable {α : Type} {d : Kd α} {w w' : World} {a : Option Addr} {xs : List α}
/-- From the address on lie the elements. -/
def Row (d : Kd α) (w : World) (a : Option Addr) (xs : List α) : Prop :=
  ∀ k x, xs[k]? = some x → ∃ b off cs, a = some ⟨b, off, none⟩ ∧ d.K w x cs ∧ ∀ i v, cs[i]? = some v → w.cell? ⟨b, off + k * d.sz + i, none⟩ = some v
theorem Row.nil (d : Kd α) (w : World) (a : Option Addr) : d.Row w a [] := fun k x h => by simp at h
theorem Row.ext (h : d.Row w a xs) (e : Ext w w') : d.Row w' a xs := fun k x hk => by
  obtain ⟨b, off, cs, h1, h2, h3⟩ := h k x hk
  exact ⟨b, off, cs, h1, d.ext e h2, fun i v hv => e.cellS (h3 i v hv)⟩
theorem Row.at_ (h : d.Row w a xs) {k : Nat} (hk : k < xs.length) : ∃ b off cs, a = some ⟨b, off, none⟩ ∧ d.K w xs[k] cs ∧ ∀ i v, cs[i]? = some v → w.cell? ⟨b, off + k * d.sz + i, none⟩ = some v :=
  h k _ (List.getElem?_eq_getElem hk)
theorem Row.take_ (h : d.Row w a xs) (n : Nat) : d.Row w a (xs.take n) := fun k x hk => h k x (by
  rw [List.getElem?_take] at hk
  split at hk
  · exact hk
  · simp at hk)
/-- A thing of plain cells. -/
def plain (n : Nat) (enc : α → List Value) (h : ∀ x, (enc x).length = n) : Kd α := { sz := n, K := fun _ x cs => cs = enc x, len := fun {w x cs} e => by rw [e, h], ext := fun _ e => e }
def int (k : IntKind) : Kd Int := plain 1 (fun x => [.int k x]) (fun _ => rfl)
/-- A slice. -/
def slice (d : Kd α) : Kd (List α) :=
  { sz := 1
    K := fun w xs cs => ∃ a c, cs = [.slice a xs.length c] ∧ xs.length ≤ c ∧ xs.length ≤ 140737488351232 ∧ d.Row w a xs
    len := fun ⟨_, _, e, _⟩ => by rw [e]; rfl
    ext := fun e ⟨a, c, h1, h2, h3, h4⟩ => ⟨a, c, h1, h2, h3, h4.ext e⟩ }
/-- The value v is a slice of these. -/
def Sl (d : Kd α) (w : World) (v : Value) (xs : List α) : Prop := d.slice.K w xs [v]
theorem Sl.form {v : Value} (h : d.Sl w v xs) : ∃ a c, v = .slice a xs.length c ∧ xs.length ≤ c ∧ xs.length ≤ 140737488351232 ∧ d.Row w a xs := by
  obtain ⟨a, c, h1, h2⟩ := h
  simp only [List.cons.injEq, and_true] at h1
  exact ⟨a, c, h1, h2⟩
theorem Sl.ext {v : Value} (h : d.Sl w v xs) (e : Ext w w') : d.Sl w' v xs := d.slice.ext e h
theorem Sl.nil (d : Kd α) (w : World) : d.Sl w (.slice none 0 0) [] := ⟨none, 0, rfl, Nat.le_refl _, by simp, Row.nil _ _ _⟩
theorem Sl.mk {a : Option Addr} {c : Nat} (h1 : xs.length ≤ c) (h2 : xs.length ≤ 140737488351232) (h : d.Row w a xs) : d.Sl w (.slice a xs.length c) xs := ⟨a, c, rfl, h1, h2, h⟩
theorem addr_add (g j i : Nat) : (⟨g, 0, none⟩ : Addr).add (j + i) = ⟨g, 0 + j + i, none⟩ := by
  unfold Addr.add
  split
  · rename_i h; rw [Nat.zero_add, h]
  · simp [Nat.add_assoc]
/-- Elements of one cell: their values. -/
theorem Row.vals (h : d.Row w a xs) (hsz : d.sz = 1) (hp : 0 < xs.length) : ∃ b off, a = some ⟨b, off, none⟩ ∧ ∃ vs : List Value, vs.length = xs.length ∧ ∀ k x, xs[k]? = some x → ∃ v, vs[k]? = some v ∧ d.K w x [v] ∧ w.cell? ⟨b, off + k, none⟩ = some v := by
  obtain ⟨b, off, cs, ha, _⟩ := h.at_ hp
  refine ⟨b, off, ha, ?_⟩
  have one : ∀ k, ∃ v, ∀ x, xs[k]? = some x → d.K w x [v] ∧ w.cell? ⟨b, off + k, none⟩ = some v := fun k => by
    rcases Nat.lt_or_ge k xs.length with hk | hk
    · obtain ⟨b', off', cs', ha', hK, hc⟩ := h.at_ hk
      rw [ha] at ha'
      simp only [Option.some.injEq, Addr.mk.injEq, and_true] at ha'
      obtain ⟨rfl, rfl⟩ := ha'
      obtain ⟨y, rfl⟩ : ∃ y, cs' = [y] := by
        have := d.len hK
        rw [hsz] at this
        exact List.length_eq_one_iff.1 this
      refine ⟨y, fun x hx => ?_⟩
      rw [List.getElem?_eq_getElem hk] at hx
      injection hx with hx
      subst hx
      have c0 := hc 0 y rfl
      rw [hsz, Nat.mul_one, Nat.add_zero] at c0
      exact ⟨hK, c0⟩
    · exact ⟨undef, fun x hx => by rw [List.getElem?_eq_none hk] at hx; cases hx⟩
  refine ⟨(List.range xs.length).map fun k => Classical.choose (one k), by simp, fun k x hx => ?_⟩
  have hk : k < xs.length := by
    rcases Nat.lt_or_ge k xs.length with hk | hk
    · exact hk
    · rw [List.getElem?_eq_none hk] at hx; cases hx
  exact ⟨_, by simp [hk], Classical.choose_spec (one k) x hx⟩
/-- Elements of one cell, from the cells. -/
theorem Row.one {b off : Nat} (hsz : d.sz = 1) (h : ∀ k x, xs[k]? = some x → ∃ v, d.K w x [v] ∧ w.cell? ⟨b, off + k, none⟩ = some v) : d.Row w (some ⟨b, off, none⟩) xs := fun k x hk => by
  obtain ⟨v, h1, h2⟩ := h k x hk
  refine ⟨b, off, [v], rfl, h1, fun i u hu => ?_⟩
  match i, hu with
  | 0, hu =>
    simp at hu
    subst hu
    rw [hsz, Nat.mul_one, Nat.add_zero]
    exact h2
/-- What a row of the call's own holds. -/
theorem Row.own {base n g c : Nat} {e : TypeId} {ys : List Value} (ho : w.ownsRow base e d.sz (.slice (some ⟨g, 0, none⟩) n c) n ys) (hK : ∀ k x, xs[k]? = some x → d.K w x ((ys.drop (k * d.sz)).take d.sz)) :
    d.Row w (some ⟨g, 0, none⟩) xs := fun k x hk => by
  refine ⟨g, 0, _, rfl, hK k x hk, fun i v hv => ?_⟩
  rw [List.getElem?_take] at hv
  split at hv
  · rw [List.getElem?_drop] at hv
    have := ho.cells (g := g) rfl (k * d.sz + i) v hv
    rwa [addr_add] at this
  · simp at hv
end Kd

end Go.Proofs.Ytiolpknfdabijaa
