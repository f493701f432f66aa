/- A law for regions whose order is open: operations that are quiet in all extensions of the world may be taken first; of the others each order is walked; a forced tail may store. -/
import Derived.Test.YtiolpknfdabijaaLib
import Derived.Orders
import Derived.OrdersHeld
set_option linter.unusedVariables false
set_option linter.unusedSimpArgs false
namespace Go.Proofs.Ytiolpknfdabijaa
open Go.RowKit
/-- The post that lets nothing out but the normal end. -/
def Q1 (R : Act → World → Prop) : Exit → Act → World → Prop := fun e a w => e = .normal ∧ R a w
theorem cut_reg {P : Program} {c : Code} {Q : Exit → Act → World → Prop} {a : Act} {w : World} (R : Act → Act → World → Prop) (h : c.wp P (Q1 (R a)) a w) (hR : ∀ a' w', R a a' w' → Q .normal a' w') : c.wp P Q a w :=
  Code.wp_mono (fun e a' w' q => by obtain ⟨rfl, q⟩ := q; exact hR _ _ q) h
theorem opwp_Q {P : Program} {o : Oper} {a : Act} {w : World} {K K' : Act → World → Prop} {Q Q' : Exit → Act → World → Prop} (h : ∀ a w, K a w → K' a w) (hQ : ∀ c a w, Q (.panic c) a w → Q' (.panic c) a w) (hL : LetsOut Q → LetsOut Q')
    (hh : o.wp P a w K Q) : o.wp P a w K' Q' := by
  unfold Oper.wp at *
  generalize (execOp a.eval o).run P w = r at *
  cases r with
  | ok n w' =>
    cases n <;> simp only [Oper.upon] at hh ⊢
    case value => exact h _ _ hh
    case skip => exact h _ _ hh
    case defer => exact h _ _ hh
    case enter => exact Calls.mono hh (fun e w'' he => by
      cases e with
      | returned => exact h _ _ he
      | panicked => exact hQ _ _ _ he
      | outgrown => exact hL he)
    case row => exact Rows.mono hh (fun _ _ he => h _ _ he)
  | halt x w' =>
    cases x <;> simp only [Oper.upon] at hh ⊢
    exact hQ _ _ _ hh
theorem no_lets {R : Act → World → Prop} {p : Prop} (h : LetsOut (Q1 R)) : p := by
  obtain ⟨a, w, h, _⟩ := h
  cases h

section
variable {P : Program} {md : Region.Mode} {ops : Array Oper} {R : Act → World → Prop} {L0 : Array Bool}

/-- In state a, in every extension of w0, o yields v and leaves an extension. -/
def YE (P : Program) (ops : Array Oper) (o : Oper) (v : Value) (a : Act) (w0 : World) : Prop :=
  (Region.wanted o (yielded ops a.tmps) = true ∧ ∀ W, Ext w0 W → Oper.quietUpon P (Ext W) W v ((execOp a.eval o).run P W)) ∨
  (Region.wanted o (yielded ops a.tmps) = false ∧ v = undef)
theorem YE.of_same {o : Oper} {v : Value} {a a' : Act} {w0 : World} (hy : YE P ops o v a w0) (he : execOp a'.eval o = execOp a.eval o)
    (hw : Region.wanted o (yielded ops a'.tmps) = Region.wanted o (yielded ops a.tmps)) : YE P ops o v a' w0 := by
  unfold YE at *
  rw [he, hw]
  exact hy
theorem YE.ext {o : Oper} {v : Value} {a : Act} {w0 w1 : World} (hy : YE P ops o v a w0) (h : Ext w0 w1) : YE P ops o v a w1 :=
  hy.imp (fun ⟨h1, h2⟩ => ⟨h1, fun W hW => h2 W (h.trans hW)⟩) id
theorem quietUpon_wp {o : Oper} {v : Value} {a : Act} {W : World} {K : Act → World → Prop} {Q : Exit → Act → World → Prop} (h : Oper.quietUpon P (Ext W) W v ((execOp a.eval o).run P W)) (hK : ∀ w', Ext W w' → K (a.put o.dst v) w') : o.wp P a W K Q := by
  unfold Oper.wp
  generalize (execOp a.eval o).run P W = r at *
  cases r with
  | ok n w' =>
    cases n <;> simp only [Oper.quietUpon] at h <;> simp only [Oper.upon]
    case value u =>
      obtain ⟨e1, e2⟩ := h
      rw [e1, e2]
      exact hK _ (Ext.refl _)
    case skip =>
      obtain ⟨e1, e2⟩ := h
      rw [e1, ← e2]
      exact hK _ (Ext.refl _)
    case enter f args =>
      obtain ⟨e1, hc⟩ := h
      rw [e1]
      exact hc.mono fun e w'' ⟨he, hw''⟩ => by subst he; exact hK _ hw''
  | halt x w' => simp only [Oper.quietUpon] at h
theorem YE.wpOp {i : Nat} {o : Oper} {v : Value} {a : Act} {w W : World} {K : Act → World → Prop} {Q : Exit → Act → World → Prop} (hi : ops[i]? = some o) (hy : YE P ops o v a w) (hW : Ext w W) (hK : ∀ w', Ext W w' → K (a.put o.dst v) w') : wpOp P ops Q i K a W := by
  unfold Go.wpOp
  simp only [hi]
  rcases hy with ⟨hw, hv⟩ | ⟨hw, rfl⟩
  · simp only [hw, if_true]; exact .inl (quietUpon_wp (hv W hW) hK)
  · simp only [hw, Bool.false_eq_true, if_false]; exact hK _ (Ext.refl _)
/-- Two operations apart from one another: whether the one's value is there makes no difference to the other. -/
theorem wpOp_putY {j : Nat} {oi oj : Oper} {v : Value} (hj : ops[j]? = some oj) (hap : oi.apart ops oj = true)
    (hsi : ∀ cs b, oi.op ≠ .select cs b) (hsj : ∀ cs b, oj.op ≠ .select cs b) {K : Act → World → Prop} {a : Act} {w w0 : World}
    (hy : YE P ops oi v a w0) (h : wpOp P ops (Q1 R) j K (a.put oi.dst v) w) :
    wpOp P ops (Q1 R) j (fun a' w' => YE P ops oi v a' w0 ∧ K (a'.put oi.dst v) w') a w := by
  obtain ⟨h1, h2, h3⟩ := Oper.apart_spec hap
  have keep : ∀ (b : Act), YE P ops oi v b w0 → ∀ u, YE P ops oi v (b.put oj.dst u) w0 := fun b hb u =>
    hb.of_same (execOp_put oi hsi b oj.dst u h3) (wanted_put oi b oj.dst u h3)
  have keepD : ∀ d, YE P ops oi v { a with defers := d :: a.defers } w0 := fun d => hy.of_same rfl rfl
  have swap : ∀ (b : Act) u, (b.put oj.dst u).put oi.dst v = (b.put oi.dst v).put oj.dst u := fun b u => (Act.put_comm b v u h2).symm
  unfold wpOp at *
  simp only [hj] at *
  rw [wanted_put oj a oi.dst v h1] at h
  by_cases hw : Region.wanted oj (yielded ops a.tmps) = true
  · rw [if_pos hw] at h ⊢
    rcases h with h | ⟨_, h⟩
    · left
      unfold Oper.wp at *
      rw [execOp_put oj hsj a oi.dst v h1] at h
      generalize (execOp a.eval oj).run P w = r at *
      cases r with
      | ok n w' =>
        cases n <;> simp only [Oper.upon] at h ⊢
        case value u => exact ⟨keep a hy u, by rw [swap]; exact h⟩
        case skip => exact ⟨keep a hy _, by rw [swap]; exact h⟩
        case defer d => exact ⟨keep _ (keepD d) _, by rw [swap, ← Act.put_defers]; exact h⟩
        case enter f args =>
          refine Calls.mono h fun e w'' he => ?_
          cases e with
          | returned u => exact ⟨keep a hy u, by rw [swap]; exact he⟩
          | panicked c => exact ⟨he.1, by cases he.1⟩
          | outgrown => exact he
        case row row args => exact Rows.mono h fun u w'' he => ⟨keep a hy u, by rw [swap]; exact he⟩
      | halt x w' =>
        cases x <;> simp only [Oper.upon] at h ⊢
        exact ⟨h.1, by cases h.1⟩
    · exact no_lets h
  · rw [if_neg hw] at h ⊢
    exact ⟨keep a hy _, by rw [swap]; exact h⟩

/-- Whatever order is picked, from every extension of w; behind L0 comes the tail. -/
def regE (P : Program) (md : Region.Mode) (ops : Array Oper) (L0 : Array Bool) (R : Act → World → Prop) : Nat → Array Bool → Act → World → Prop
  | 0, listed, a, w => Region.ready md ops listed = [] ∧ ∀ W, Ext w W → R a W
  | f + 1, listed, a, w => (listed = L0 ∧ ∀ W, Ext w W → wpAny P md ops (Q1 R) (f + 1) listed a W) ∨
    (Region.ready md ops listed ≠ [] ∧ ∀ W, Ext w W → ∀ i ∈ Region.ready md ops listed, wpOp P ops (Q1 R) i (fun a' w' => Ext W w' ∧ regE P md ops L0 R f (listed.setIfInBounds i true) a' w') a W)
theorem regE_ext : ∀ {f : Nat} {listed : Array Bool} {a : Act} {w W : World}, Ext w W → regE P md ops L0 R f listed a w → regE P md ops L0 R f listed a W
  | 0, _, _, _, _, h, H => ⟨H.1, fun V hV => H.2 V (h.trans hV)⟩
  | f + 1, _, _, _, _, h, H => H.imp (fun k => ⟨k.1, fun V hV => k.2 V (h.trans hV)⟩) (fun k => ⟨k.1, fun V hV => k.2 V (h.trans hV)⟩)
theorem regE_sound : ∀ {f : Nat} {listed : Array Bool} {a : Act} {w : World}, regE P md ops L0 R f listed a w → ∀ W, Ext w W → wpAny P md ops (Q1 R) f listed a W
  | 0, _, _, _, H, W, hW => ⟨H.1, rfl, H.2 W hW⟩
  | f + 1, _, _, _, H, W, hW => by
    rcases H with H | H
    · exact H.2 W hW
    · exact ⟨fun h => absurd h H.1, fun i hi => wpOp_mono (fun a' w' h' => regE_sound h'.2 w' (Ext.refl _)) (H.2 W hW i hi)⟩
/-- What is listed has what it waits for listed. -/
def Closed (md : Region.Mode) (ops : Array Oper) (listed : Array Bool) : Prop := ∀ k ok, ops[k]? = some ok → listed.getD k false = true → ∀ e ∈ ok.after, Region.binds md e = true → listed.getD e.on false = true
theorem Closed.set {listed : Array Bool} {j : Nat} (h : Closed md ops listed) (hj : j ∈ Region.ready md ops listed) : Closed md ops (listed.setIfInBounds j true) := by
  intro k ok hk hl e he hb
  refine getD_set_true ?_
  by_cases hjk : j = k
  · subst hjk
    obtain ⟨_, o, ho, hall⟩ := mem_ready.1 hj
    rw [hk] at ho
    injection ho with ho
    subst ho
    exact hall e he hb
  · rw [getD_set_ne false hjk] at hl
    exact h k ok hk hl e he hb
theorem regE_first {i : Nat} {oi : Oper} {v : Value} (hi : ops[i]? = some oi) (hsel : ∀ (j : Nat) (o : Oper) cs b, ops[j]? = some o → o.op ≠ .select cs b)
    (hsink : ∀ listed : Array Bool, Closed md ops listed → listed.setIfInBounds i true = L0 → listed.getD i true = false → ∀ j ∈ Region.ready md ops listed, j = i) :
    ∀ (f : Nat) (listed : Array Bool) (a : Act) (w : World), Closed md ops listed →
      (∀ j oj, ops[j]? = some oj → j ≠ i → listed.getD j true = false → (∀ e ∈ oj.after, Region.binds md e = true → e.on ≠ i) → oi.apart ops oj = true) →
      i ∈ Region.ready md ops listed → YE P ops oi v a w →
      regE P md ops L0 R f (listed.setIfInBounds i true) (a.put oi.dst v) w → regE P md ops L0 R (f + 1) listed a w := by
  intro f
  induction f with
  | zero =>
    intro listed a w hcl _ hr hy H
    refine .inr ⟨fun e => (by rw [e] at hr; cases hr), fun W hW j hj => ?_⟩
    by_cases hji : j = i
    · subst hji
      exact hy.wpOp hi hW fun w' hw' => ⟨hw', regE_ext (hW.trans hw') H⟩
    · have := ready_mono hj hji
      rw [H.1] at this
      cases this
  | succ f ih =>
    intro listed a w hcl hfree hr hy H
    refine .inr ⟨fun e => (by rw [e] at hr; cases hr), fun W hW j hj => ?_⟩
    by_cases hji : j = i
    · subst hji
      exact hy.wpOp hi hW fun w' hw' => ⟨hw', regE_ext (hW.trans hw') H⟩
    · rcases H with H | H
      · exact absurd (hsink listed hcl H.1 (mem_ready.1 hr).1 j hj) hji
      · obtain ⟨hjun, oj, hoj, hall⟩ := mem_ready.1 hj
        have hnot : ∀ e ∈ oj.after, Region.binds md e = true → e.on ≠ i := fun e he hb heq => by
          have h1 := hall e he hb
          have h0 := (mem_ready.1 hr).1
          rw [heq] at h1
          rcases Nat.lt_or_ge i listed.size with h' | h'
          · simp [h'] at h0 h1; rw [h0] at h1; cases h1
          · simp [Array.getElem?_eq_none h'] at h1
        have h2 := wpOp_putY hoj (hfree j oj hoj hji hjun hnot) (fun cs b => hsel i oi cs b hi) (fun cs b => hsel j oj cs b hoj) hy (H.2 W hW j (ready_mono hj hji))
        refine wpOp_mono (fun a' w' h3 => ⟨h3.2.1, ih (listed.setIfInBounds j true) a' w' (hcl.set hj) ?_ (ready_mono hr (Ne.symm hji)) (h3.1.ext (hW.trans h3.2.1)) ?_⟩) h2
        · intro k ok hk hki hun hno
          refine hfree k ok hk hki ?_ hno
          by_cases hjk : j = k
          · subst hjk; exact hjun
          · rw [getD_set_ne true hjk] at hun; exact hun
        · rw [Array.setIfInBounds_comm _ _ hji]
          exact h3.2.2
end

section
variable {P : Program} {l : List Oper} {R : Act → World → Prop} {L0 listed : Array Bool} {f : Nat} {a : Act} {w : World}
/-- Number i may be taken first. -/
def closedB (l : List Oper) (listed : Array Bool) : Bool := (List.range l.length).all fun k => !listed.getD k false || ((l.toArray[k]?).map fun o => o.after.all fun e => !Region.binds .any e || listed.getD e.on false).getD true
def waitedB (l : List Oper) (L0 : Array Bool) (i : Nat) : Bool := (List.range l.length).any fun k => k != i && L0.getD k false && ((l.toArray[k]?).map fun o => o.after.any fun e => Region.binds .any e && e.on == i).getD false
def takeB (l : List Oper) (L0 listed : Array Bool) (i : Nat) : Bool :=
  Region.noSelect l.toArray && Region.free .any l.toArray listed i && (Region.ready .any l.toArray listed).contains i && ((Region.ready .any l.toArray (L0.setIfInBounds i false)).all (· == i) || waitedB l L0 i) && closedB l listed
theorem closedB_spec (h : closedB l listed = true) : Closed .any l.toArray listed := by
  intro k ok hk hl e he hb
  have hlt : k < l.length := by
    have := (Array.getElem?_eq_some_iff.1 hk).1
    simpa using this
  have h1 := List.all_eq_true.1 h k (by simpa using hlt)
  rw [hl, hk] at h1
  simp only [Bool.not_true, Bool.false_or, Option.map_some, Option.getD_some] at h1
  have h2 := Array.all_eq_true_iff_forall_mem.1 h1 e he
  rw [hb] at h2
  simpa using h2
theorem set_back {x y : Array Bool} {i : Nat} (h : x.setIfInBounds i true = y) (h0 : x.getD i true = false) : x = y.setIfInBounds i false := by
  subst h
  apply Array.ext
  · simp
  · intro j h1 h2
    rw [Array.getElem_setIfInBounds (by simpa using h1)]
    by_cases e : i = j
    · subst e
      rw [if_pos rfl]
      simpa [h1] using h0
    · rw [if_neg e, Array.getElem_setIfInBounds (by simpa using h1), if_neg e]
theorem regE_take {oi : Oper} {v : Value} (i : Nat) (hi : l[i]? = some oi) (hB : takeB l L0 listed i = true) (hy : YE P l.toArray oi v a w)
    (h : regE P .any l.toArray L0 R f (listed.setIfInBounds i true) (a.put oi.dst v) w) : regE P .any l.toArray L0 R (f + 1) listed a w := by
  simp only [takeB, Bool.and_eq_true] at hB
  obtain ⟨⟨⟨⟨h1, h2⟩, h3⟩, h4⟩, h5⟩ := hB
  have hi' : l.toArray[i]? = some oi := by simpa using hi
  refine regE_first hi' (Region.noSelect_spec h1) (fun x hcl hx h0 j hj => ?_) f listed a w (closedB_spec h5) (Region.free_spec hi' h2) (by simpa using h3) hy h
  rcases (Bool.or_eq_true _ _).mp h4 with h4 | h4
  · rw [set_back hx h0] at hj
    simpa using List.all_eq_true.1 h4 j hj
  · obtain ⟨k, _, hk⟩ := List.any_eq_true.1 h4
    simp only [Bool.and_eq_true, bne_iff_ne, ne_eq] at hk
    obtain ⟨⟨hki, hkl⟩, hka⟩ := hk
    cases hko : l.toArray[k]? with
    | none => rw [hko] at hka; cases hka
    | some ok =>
      rw [hko] at hka
      simp only [Option.map_some, Option.getD_some] at hka
      obtain ⟨e, he, hb⟩ := Array.any_eq_true'.1 hka
      simp only [Bool.and_eq_true, beq_iff_eq] at hb
      have hkx : x.getD k false = true := by
        rw [← hx, getD_set_ne false (Ne.symm hki)] at hkl
        exact hkl
      have h6 := hcl k ok hko hkx e he hb.1
      rw [hb.2] at h6
      rcases Nat.lt_or_ge i x.size with h' | h'
      · simp [h'] at h0 h6; rw [h0] at h6; cases h6
      · simp [Array.getElem?_eq_none h'] at h6
/-- A quiet operation. -/
theorem regE_op {oi : Oper} (i : Nat) (hi : l[i]? = some oi) (hB : takeB l L0 listed i = true) (hw : Region.wanted oi (yielded l.toArray a.tmps) = true)
    (h : ∃ v, (∀ W, Ext w W → Oper.quietUpon P (Ext W) W v ((execOp a.eval oi).run P W)) ∧ regE P .any l.toArray L0 R f (listed.setIfInBounds i true) (a.put oi.dst v) w) : regE P .any l.toArray L0 R (f + 1) listed a w := by
  obtain ⟨v, h1, h2⟩ := h
  exact regE_take i hi hB (.inl ⟨hw, h1⟩) h2
theorem regE_skip {oi : Oper} (i : Nat) (hi : l[i]? = some oi) (hB : takeB l L0 listed i = true) (hw : Region.wanted oi (yielded l.toArray a.tmps) = false)
    (h : regE P .any l.toArray L0 R f (listed.setIfInBounds i true) (a.put oi.dst undef) w) : regE P .any l.toArray L0 R (f + 1) listed a w :=
  regE_take i hi hB (.inr ⟨hw, rfl⟩) h
theorem wpList_one {i : Nat} {oi : Oper} {K : Act → World → Prop} (hi : l[i]? = some oi) (h : wpList P l.toArray (Q1 K) [oi] a w) : wpOp P l.toArray (Q1 R) i K a w := by
  have hi' : l.toArray[i]? = some oi := by simpa using hi
  unfold wpOp
  simp only [hi']
  unfold wpList at h
  by_cases hw : Region.wanted oi (yielded l.toArray a.tmps) = true
  · rw [if_pos hw] at h ⊢
    rcases h with h | h
    · exact .inl (opwp_Q (fun a w k => k.2) (fun c a w k => ⟨k.1, by cases k.1⟩) no_lets h)
    · exact no_lets h.2
  · rw [if_neg hw] at h ⊢
    exact h.2
theorem regE_named (h : ∀ W, Hid (W = w) → regE P .any l.toArray L0 R f listed a W) : regE P .any l.toArray L0 R f listed a w := h w rfl
/-- Whichever of these comes next. -/
theorem regE_all (rs : List Nat) (hr : Region.ready .any l.toArray listed = rs) (hne : rs ≠ []) (h : ∀ W, Ext w W → ∀ i ∈ rs, wpOp P l.toArray (Q1 R) i (fun a' w' => Ext W w' ∧ regE P .any l.toArray L0 R f (listed.setIfInBounds i true) a' w') a W) : regE P .any l.toArray L0 R (f + 1) listed a w :=
  .inr ⟨hr ▸ hne, hr ▸ h⟩
theorem regE_all1 (i : Nat) {oi : Oper} (hr : Region.ready .any l.toArray listed = [i]) (hi : l[i]? = some oi) (h : ∀ W, Ext w W → wpList P l.toArray (Q1 fun a' w' => Ext W w' ∧ regE P .any l.toArray L0 R f (listed.setIfInBounds i true) a' w') [oi] a W) : regE P .any l.toArray L0 R (f + 1) listed a w :=
  regE_all [i] hr (by simp) fun W hW j hj => by
    obtain rfl : j = i := by simpa using hj
    exact wpList_one hi (h W hW)
theorem regE_all2 (i k : Nat) {oi ok : Oper} (hr : Region.ready .any l.toArray listed = [i, k]) (hi : l[i]? = some oi) (hk : l[k]? = some ok) (h : ∀ W, Ext w W → wpList P l.toArray (Q1 fun a' w' => Ext W w' ∧ regE P .any l.toArray L0 R f (listed.setIfInBounds i true) a' w') [oi] a W)
    (h' : ∀ W, Ext w W → wpList P l.toArray (Q1 fun a' w' => Ext W w' ∧ regE P .any l.toArray L0 R f (listed.setIfInBounds k true) a' w') [ok] a W) : regE P .any l.toArray L0 R (f + 1) listed a w :=
  regE_all [i, k] hr (by simp) fun W hW j hj => by
    rcases (by simpa using hj : j = i ∨ j = k) with rfl | rfl
    · exact wpList_one hi (h W hW)
    · exact wpList_one hk (h' W hW)
theorem regE_all3 (i k m : Nat) {oi ok om : Oper} (hr : Region.ready .any l.toArray listed = [i, k, m]) (hi : l[i]? = some oi) (hk : l[k]? = some ok) (hm : l[m]? = some om) (h : ∀ W, Ext w W → wpList P l.toArray (Q1 fun a' w' => Ext W w' ∧ regE P .any l.toArray L0 R f (listed.setIfInBounds i true) a' w') [oi] a W)
    (h' : ∀ W, Ext w W → wpList P l.toArray (Q1 fun a' w' => Ext W w' ∧ regE P .any l.toArray L0 R f (listed.setIfInBounds k true) a' w') [ok] a W)
    (h'' : ∀ W, Ext w W → wpList P l.toArray (Q1 fun a' w' => Ext W w' ∧ regE P .any l.toArray L0 R f (listed.setIfInBounds m true) a' w') [om] a W) : regE P .any l.toArray L0 R (f + 1) listed a w :=
  regE_all [i, k, m] hr (by simp) fun W hW j hj => by
    rcases (by simpa using hj : j = i ∨ j = k ∨ j = m) with rfl | rfl | rfl
    · exact wpList_one hi (h W hW)
    · exact wpList_one hk (h' W hW)
    · exact wpList_one hm (h'' W hW)
theorem regE_done (hr : Region.ready .any l.toArray listed = []) (h : ∀ W, Ext w W → R a W) : regE P .any l.toArray L0 R 0 listed a w := ⟨hr, h⟩
/-- The rest comes in just this order. -/
def forcedB (ops : Array Oper) : List Nat → Array Bool → Bool
  | [], listed => (Region.ready .any ops listed).isEmpty
  | i :: t, listed => (Region.ready .any ops listed == [i]) && forcedB ops t (listed.setIfInBounds i true)
theorem wpAny_forced {Q : Exit → Act → World → Prop} : ∀ (t : List Nat) (listed : Array Bool) (a : Act) (w : World), (∀ i ∈ t, i < l.length) → forcedB l.toArray t listed = true → wpList P l.toArray Q (t.filterMap (l[·]?)) a w → wpAny P .any l.toArray Q t.length listed a w
  | [], listed, a, w, _, hB, h => ⟨by simpa [forcedB] using hB, h⟩
  | i :: t, listed, a, w, hlt, hB, h => by
    simp only [forcedB, Bool.and_eq_true, beq_iff_eq] at hB
    have hi := List.getElem?_eq_getElem (hlt i (by simp))
    rw [List.filterMap_cons, hi] at h
    refine ⟨fun e => (by rw [hB.1] at e; cases e), fun j hj => ?_⟩
    rw [hB.1] at hj
    obtain rfl : j = i := by simpa using hj
    unfold wpOp
    have hi' : l.toArray[j]? = some (l[j]'(hlt j (by simp))) := by simp [hlt j (by simp)]
    simp only [hi']
    simp only [wpList] at h
    have ih := fun a w => wpAny_forced (Q := Q) t (listed.setIfInBounds j true) a w (fun k hk => hlt k (by simp [hk])) hB.2
    split
    · rename_i hw
      rw [if_pos hw] at h
      exact h.imp (Oper.wp_mono ih) id
    · rename_i hw
      rw [if_neg hw] at h
      exact ih _ _ h
/-- The tail. -/
theorem regE_tail {tl : List Oper} (t : List Nat) (hL : listed = L0) (hB : (forcedB l.toArray t listed && t.all (decide <| · < l.length)) = true) (hf : f + 1 = t.length) (htl : t.filterMap (l[·]?) = tl) (h : ∀ W, Ext w W → wpList P l.toArray (Q1 R) tl a W) : regE P .any l.toArray L0 R (f + 1) listed a w :=
  .inl ⟨hL, fun W hW => by
    subst htl
    rw [Bool.and_eq_true] at hB
    rw [hf]
    exact wpAny_forced t listed a W (fun i hi => by simpa using List.all_eq_true.1 hB.2 i hi) hB.1 (h W hW)⟩
/-- The beginning. -/
theorem region_reg {id : Nat} (L0 : Array Bool) (hm : P.follows .mixedOrders = true) (h : ∀ W, Ext w W → regE P .any l.toArray L0 R l.length (Array.replicate l.length false) a W) : (Code.region id l.toArray true).wp P (Q1 R) a w := by
  refine wp_region_any hm ?_
  have := regE_sound (h w.drew (Ext.drew' (Below.refl _ _))) w.drew (Ext.refl _)
  simpa using this
end

/-! ### Regions whose other operations write what the region itself has made: S says what stays; loads are taken first -/
section
variable {P : Program} {l : List Oper} {R : Act → World → Prop} {S : World → Prop} {listed : Array Bool} {f : Nat} {a : Act} {w : World}
abbrev regH (P : Program) (l : List Oper) (R : Act → World → Prop) (S : World → Prop) (f : Nat) (listed : Array Bool) (a : Act) (w : World) : Prop := wpAnyH P .any l.toArray (Q1 R) S f listed a w
def takeH (l : List Oper) (listed : Array Bool) (i : Nat) : Bool := Region.noSelect l.toArray && Region.free .any l.toArray listed i && (Region.ready .any l.toArray listed).contains i
theorem regH_op {oi : Oper} (i : Nat) (hi : l[i]? = some oi) (hB : takeH l listed i = true) (hw : Region.wanted oi (yielded l.toArray a.tmps) = true) (hS : S w)
    (h : ∃ v, (∀ W, S W → (execOp a.eval oi).run P W = .ok (.value v) W) ∧ regH P l R S f (listed.setIfInBounds i true) (a.put oi.dst v) w) : regH P l R S (f + 1) listed a w := by
  obtain ⟨v, hv, h⟩ := h
  simp only [takeH, Bool.and_eq_true] at hB
  exact wpAnyH_take (by simpa using hi) hB.1.1 hB.1.2 hB.2 (fun c a w h => ⟨h.1, by cases h.1⟩) (.inl ⟨hw, hv⟩) hS h
theorem regH_skip {oi : Oper} (i : Nat) (hi : l[i]? = some oi) (hB : takeH l listed i = true) (hw : Region.wanted oi (yielded l.toArray a.tmps) = false) (hS : S w)
    (h : regH P l R S f (listed.setIfInBounds i true) (a.put oi.dst undef) w) : regH P l R S (f + 1) listed a w := by
  simp only [takeH, Bool.and_eq_true] at hB
  exact wpAnyH_take (by simpa using hi) hB.1.1 hB.1.2 hB.2 (fun c a w h => ⟨h.1, by cases h.1⟩) (.inr ⟨hw, rfl⟩) hS h
theorem regH_named (h : ∀ W, Hid (W = w) → regH P l R S f listed a W) : regH P l R S f listed a w := h w rfl
theorem regH_all (rs : List Nat) (hr : Region.ready .any l.toArray listed = rs) (hne : rs ≠ []) (h : ∀ i ∈ rs, wpOp P l.toArray (Q1 R) i (fun a' w' => S w' ∧ regH P l R S f (listed.setIfInBounds i true) a' w') a w) : regH P l R S (f + 1) listed a w :=
  wpAnyH_all hr hne h
theorem regH_all1 (i : Nat) {oi : Oper} (hr : Region.ready .any l.toArray listed = [i]) (hi : l[i]? = some oi) (h : wpList P l.toArray (Q1 fun a' w' => S w' ∧ regH P l R S f (listed.setIfInBounds i true) a' w') [oi] a w) : regH P l R S (f + 1) listed a w :=
  regH_all [i] hr (by simp) fun j hj => by
    obtain rfl : j = i := by simpa using hj
    exact wpList_one hi h
theorem regH_all2 (i k : Nat) {oi ok : Oper} (hr : Region.ready .any l.toArray listed = [i, k]) (hi : l[i]? = some oi) (hk : l[k]? = some ok) (h : wpList P l.toArray (Q1 fun a' w' => S w' ∧ regH P l R S f (listed.setIfInBounds i true) a' w') [oi] a w)
    (h' : wpList P l.toArray (Q1 fun a' w' => S w' ∧ regH P l R S f (listed.setIfInBounds k true) a' w') [ok] a w) : regH P l R S (f + 1) listed a w :=
  regH_all [i, k] hr (by simp) fun j hj => by
    rcases (by simpa using hj : j = i ∨ j = k) with rfl | rfl
    · exact wpList_one hi h
    · exact wpList_one hk h'
theorem regH_all3 (i k m : Nat) {oi ok om : Oper} (hr : Region.ready .any l.toArray listed = [i, k, m]) (hi : l[i]? = some oi) (hk : l[k]? = some ok) (hm : l[m]? = some om) (h : wpList P l.toArray (Q1 fun a' w' => S w' ∧ regH P l R S f (listed.setIfInBounds i true) a' w') [oi] a w)
    (h' : wpList P l.toArray (Q1 fun a' w' => S w' ∧ regH P l R S f (listed.setIfInBounds k true) a' w') [ok] a w) (h'' : wpList P l.toArray (Q1 fun a' w' => S w' ∧ regH P l R S f (listed.setIfInBounds m true) a' w') [om] a w) : regH P l R S (f + 1) listed a w :=
  regH_all [i, k, m] hr (by simp) fun j hj => by
    rcases (by simpa using hj : j = i ∨ j = k ∨ j = m) with rfl | rfl | rfl
    · exact wpList_one hi h
    · exact wpList_one hk h'
    · exact wpList_one hm h''
theorem regH_done (hr : Region.ready .any l.toArray listed = []) (h : R a w) : regH P l R S f listed a w := wpAnyH_done hr ⟨rfl, h⟩ f
theorem region_regH {id : Nat} (hm : P.follows .mixedOrders = true) (h : ∀ W, Ext w W → regH P l R S l.length (Array.replicate l.length false) a W) : (Code.region id l.toArray true).wp P (Q1 R) a w := by
  refine wp_region_held (S := S) hm ?_
  have := h w.drew (Ext.drew' (Below.refl _ _))
  simpa using this
end
end Go.Proofs.Ytiolpknfdabijaa
