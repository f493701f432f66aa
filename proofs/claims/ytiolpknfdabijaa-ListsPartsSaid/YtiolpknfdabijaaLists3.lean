/- Lists: with, put. -/
import Derived.Test.YtiolpknfdabijaaProg
import Derived.Test.YtiolpknfdabijaaLib
import Derived.Test.YtiolpknfdabijaaPure
import Derived.Test.YtiolpknfdabijaaMask2
import Derived.Test.YtiolpknfdabijaaVec
import Derived.Test.YtiolpknfdabijaaVec2
import Derived.Test.YtiolpknfdabijaaLib2
import Derived.Test.YtiolpknfdabijaaClone
import Derived.Test.YtiolpknfdabijaaLists
import Derived.Test.YtiolpknfdabijaaReg
set_option linter.unusedVariables false
set_option maxRecDepth 4000
set_option linter.unusedSimpArgs false
namespace Go.Proofs.Ytiolpknfdabijaa
open Go.RowKit


/-- A row of vectors: its cells in w, its vectors in w0. -/
structure VecsIn (w0 w : World) (v : Value) (l : List Vec) : Prop where mk ::
  (out : ∃ a c, ∃ vs : List Value, v = .slice a l.length c ∧ l.length ≤ c ∧ l.length ≤ 140737488351232 ∧ vs.length = l.length ∧ (∀ (k : Nat) x, l[k]? = some x → ∃ u, vs[k]? = some u ∧ kVec.K w0 x [u]) ∧ (l ≠ [] → ∃ b off, a = some ⟨b, off, none⟩ ∧ ∀ (k : Nat) u, vs[k]? = some u → w.cell? ⟨b, off + k, none⟩ = some u))
theorem VecsIn.ext {w0 w w' : World} {v : Value} {l : List Vec} (h : VecsIn w0 w v l) (hx : Ext w w') : VecsIn w0 w' v l := by
  obtain ⟨a, c, vs, h1, h2, h3, h4, h5, h6⟩ := h.out
  exact ⟨a, c, vs, h1, h2, h3, h4, h5, fun hne => by obtain ⟨b, off, q1, q2⟩ := h6 hne; exact ⟨b, off, q1, fun k u hk => hx.cellS (q2 k u hk)⟩⟩
theorem VecsIn.of {w : World} {v : Value} {l : List Vec} (h : kVec.Sl w v l) : VecsIn w w v l := by
  obtain ⟨a, c, rfl, hc, hl, hr⟩ := h.form
  by_cases hne : l = []
  · subst hne
    exact ⟨a, c, [], rfl, hc, hl, rfl, by simp, fun h => absurd rfl h⟩
  · obtain ⟨b, off, rfl, vs, hvl, hvs⟩ := hr.vals rfl (List.length_pos_iff.2 hne)
    refine ⟨_, c, vs, rfl, hc, hl, hvl, fun k x hk => by obtain ⟨u, q1, q2, _⟩ := hvs k x hk; exact ⟨u, q1, q2⟩, fun _ => ⟨b, off, rfl, fun k u hk => ?_⟩⟩
    have hkl : k < l.length := by rw [← hvl]; exact (List.getElem?_eq_some_iff.1 hk).1
    obtain ⟨u', q1, _, q3⟩ := hvs k _ (List.getElem?_eq_getElem hkl)
    rw [hk] at q1
    injection q1 with q1
    subst q1
    exact q3
theorem VecsIn.sl {w0 w : World} {v : Value} {l : List Vec} (h : VecsIn w0 w v l) (hx : Ext w0 w) : kVec.Sl w v l := by
  obtain ⟨a, c, vs, rfl, h2, h3, h4, h5, h6⟩ := h.out
  by_cases hne : l = []
  · subst hne
    exact Kd.Sl.mk (by simp) (by simp) (Kd.Row.nil _ _ _)
  · obtain ⟨b, off, rfl, h7⟩ := h6 hne
    refine Kd.Sl.mk h2 h3 (Kd.Row.one rfl fun k x hk => ?_)
    obtain ⟨u, q1, q2⟩ := h5 k x hk
    exact ⟨u, kVec.ext hx q2, h7 k u q1⟩
/-- A row of the call's own whose elements stood in w0. -/
structure OwnVecs (base : Nat) (w0 w : World) (v : Value) (l : List Vec) : Prop where mk ::
  (out : ∃ vs, w.ownsRow base 46 1 v l.length vs ∧ ∀ (k : Nat) x, l[k]? = some x → ∃ u, vs[k]? = some u ∧ kVec.K w0 x [u])
theorem OwnVecs.ext {base : Nat} {w0 w w' : World} {v : Value} {l : List Vec} (h : OwnVecs base w0 w v l) (hx : Ext w w') : OwnVecs base w0 w' v l := by
  obtain ⟨vs, h1, h2⟩ := h.out
  exact ⟨vs, own_ext h1 hx, h2⟩
theorem OwnVecs.set {base : Nat} {w0 w : World} {v : Value} {l : List Vec} (h : OwnVecs base w0 w v l) {p : Addr} (hp : p.block < base) (u : Value) : OwnVecs base w0 (w.setCell p u) v l := by
  obtain ⟨vs, h1, h2⟩ := h.out
  exact ⟨vs, ownsRow_setCell_below h1 hp u, h2⟩
theorem OwnVecs.kept {base : Nat} {w0 w w' : World} {v : Value} {l : List Vec} {row : Option Nat} (h : OwnVecs base w0 w v l) (hg : w.grownBy w' row) (hne : v.ownBlock = none ∨ v.ownBlock ≠ row) : OwnVecs base w0 w' v l := by
  obtain ⟨vs, h1, h2⟩ := h.out
  exact ⟨vs, h1.kept hg hne, h2⟩
theorem OwnVecs.form {base : Nat} {w0 w : World} {v : Value} {l : List Vec} (h : OwnVecs base w0 w v l) : ∃ a c, v = .slice a l.length c := by
  obtain ⟨vs, h1, _⟩ := h.out
  rcases h1.2 with ⟨rfl, h0⟩ | ⟨g, cap, cur, rfl, _⟩
  · exact ⟨none, 0, by rw [h0]⟩
  · exact ⟨_, _, rfl⟩
theorem OwnVecs.vin {base : Nat} {w0 w : World} {v : Value} {l : List Vec} (h : OwnVecs base w0 w v l) (hl : l.length ≤ 140737488351232) : VecsIn w0 w v l := by
  obtain ⟨vs, h1, h2⟩ := h.out
  have hvl : vs.length = l.length := by have := h1.1; omega
  rcases h1.2 with ⟨rfl, h0⟩ | ⟨g, cap, cur, rfl, _, _, hc, _⟩
  · have : l = [] := List.length_eq_zero_iff.1 h0
    subst this
    exact ⟨none, 0, vs, rfl, by simp, by simp, hvl, h2, fun h => absurd rfl h⟩
  · refine ⟨_, cap, vs, rfl, hc, hl, hvl, h2, fun _ => ⟨g, 0, rfl, fun k u hk => ?_⟩⟩
    have := h1.cells (g := g) rfl k u hk
    have e : (⟨g, 0, none⟩ : Addr).add k = ⟨g, 0 + k, none⟩ := by unfold Addr.add; split <;> simp_all
    rwa [e] at this
theorem OwnVecs.sl {base : Nat} {w0 w : World} {v : Value} {l : List Vec} (h : OwnVecs base w0 w v l) (hx : Ext w0 w) (hl : l.length ≤ 140737488351232) : kVec.Sl w v l := by
  obtain ⟨vs, h1, h2⟩ := h.out
  rcases h1.2 with ⟨rfl, h0⟩ | ⟨g, cap, cur, rfl, _⟩
  · have : l = [] := List.length_eq_zero_iff.1 h0
    subst this
    exact Kd.Sl.nil _ _
  · exact Kd.Sl.own1 rfl h1 rfl hl (fun k x hk => by obtain ⟨u, q1, q2⟩ := h2 k x hk; exact ⟨u, q1, kVec.ext hx q2⟩)
set_option maxHeartbeats 1000000 in
theorem clone_vecs (l : List Vec) (v : Value) (w0 w : World) (h : VecsIn w0 w v l) (hn : l.length ≤ 1000000) : Calls Try.prog 40 #[v] w fun e w' => ∃ v', e = .returned v' ∧ OwnVecs w.heap.size w0 w' v' l ∧ Ext w w' := by
  obtain ⟨a, c, vs, rfl, hc, hl, hvl, hvs, hcell⟩ := h.out
  by_cases hne : l = []
  · subst hne
    simp only [List.length_nil] at *
    cases a with
    | none =>
      have heq : ∀ W, (binOp .eql 22 (.slice none 0 c) (.slice none 0 0)).run Try.prog W = .ok (.bool true) W := fun W => by kernel_rfl
      go_enter Try.func40, Try.ntmps40
      go_wp2
      go_ret
      exact ⟨_, rfl, ⟨[], World.ownsRow_nil _ _ _ _, by simp⟩, Ext.refl _⟩
    | some ad =>
      obtain ⟨i0, hinf, hz0, hz1, hz2⟩ := info_parts info_vec
      have hmax : 140737488355328 ≤ maxLen := by decide
      have hown : (w.alloc (.cells #[] 46)).ownsRow w.heap.size 46 1 (.slice (some ⟨w.heap.size, 0, none⟩) 0 0) 0 [] := ⟨by simp, .inr ⟨w.heap.size, 0, #[], rfl, Nat.le_refl _, heap_alloc_new w _, Nat.le_refl _, by simp, by simp, by simp⟩⟩
      have heq : ∀ W, (binOp .eql 22 (.slice (some ad) 0 c) (.slice none 0 0)).run Try.prog W = .ok (.bool false) W := fun W => by kernel_rfl
      go_enter Try.func40, Try.ntmps40
      go_wp2_with (at_builtin; refine wpList_append_own _ rfl _ _ 22 rfl w.heap.size 46 i0 (.slice none 0 0) 1 24 Try.underlying22 hinf hz0 hz1 hz2 rfl (by decide) _ 0 [] rfl hown ad 0 c [] rfl rfl (by simp) (by simp) (by omega) (by omega) (by simp) ?_; intro v' w1 hown' hgrow hnil)
      go_ret
      exact ⟨_, rfl, ⟨[], hown', by simp⟩, ((Ext.refl w).alloc _).append hown (by simp) hgrow⟩
  · have hp : 0 < l.length := List.length_pos_iff.2 hne
    obtain ⟨b, off, rfl, hcl⟩ := hcell hne
    have H := clone_vec b off l.length c vs w (by omega) hcl (fun q hq => by
      obtain ⟨j, hj, rfl⟩ := List.mem_iff_getElem.1 hq
      obtain ⟨q', h1, ⟨a3, c3, h2, _⟩⟩ := hvs j _ (List.getElem?_eq_getElem (by omega : j < l.length))
      rw [List.getElem?_eq_getElem hj] at h1
      injection h1 with h1
      rw [h1]
      simp only [List.cons.injEq, and_true] at h2
      rw [h2]; rfl) (by omega)
    refine H.mono ?_
    rintro e w' ⟨v', rfl, ho, _, hx⟩
    exact ⟨_, rfl, ⟨vs, ho, hvs⟩, hx⟩
theorem info_mask : (Try.prog.info? 31).map (fun i => (i.zero, i.size, i.bytes)) = some (some (.agg #[.int .u64 0, .int .u64 0]), 2, 16) := by kernel_rfl
def maskFlat (ms : List Mask) : List Value := ms.flatMap fun m => [.int .u64 (lo m), .int .u64 (hi m)]
theorem maskFlat_len (ms : List Mask) : (maskFlat ms).length = ms.length * 2 := by
  unfold maskFlat
  induction ms with
  | nil => rfl
  | cons m ms ih => rw [List.flatMap_cons, List.length_append, ih]; simp; omega
theorem maskFlat_snoc (ms : List Mask) (m : Mask) : maskFlat (ms ++ [m]) = maskFlat ms ++ [.int .u64 (lo m), .int .u64 (hi m)] := by unfold maskFlat; simp
theorem maskFlat_at : ∀ (ms : List Mask) (k : Nat) (m : Mask), ms[k]? = some m → ((maskFlat ms).drop (k * 2)).take 2 = [.int .u64 (lo m), .int .u64 (hi m)]
  | [], k, m, h => by simp at h
  | x :: ms, 0, m, h => by
    simp at h; subst h
    simp [maskFlat]
  | x :: ms, k + 1, m, h => by
    have := maskFlat_at ms k m (by simpa using h)
    have e : maskFlat (x :: ms) = [.int .u64 (lo x), .int .u64 (hi x)] ++ maskFlat ms := by simp [maskFlat]
    have e2 : (k + 1) * 2 = 2 + k * 2 := by omega
    rw [e, e2, ← List.drop_drop]
    exact this
theorem own_masks {w : World} {base n : Nat} {v : Value} {ms : List Mask} (h : w.ownsRow base 31 2 v n (maskFlat ms)) (hn : n ≤ 140737488351232) : kMask.Sl w v ms := by
  have hl : ms.length = n := by have := h.1; rw [maskFlat_len] at this; omega
  rcases h.2 with ⟨rfl, h0⟩ | ⟨g, cap, cur, rfl, _, _, h1, _⟩
  · have : ms = [] := List.length_eq_zero_iff.1 (by omega)
    subst this
    exact Kd.Sl.nil _ _
  · have hR : kMask.Row w (some ⟨g, 0, none⟩) ms := Kd.Row.own (d := kMask) h (fun k x hk => maskFlat_at ms k x hk)
    have := Kd.Sl.mk (d := kMask) (a := some ⟨g, 0, none⟩) (c := cap) (xs := ms) (by omega) (by omega) hR
    rw [hl] at this
    exact this
theorem Blk.news {w : World} {g t : Nat} {l : List Value} (h : Blk w g l.toArray t) : ∀ (j : Nat) u, l[j]? = some u → w.cell? ((⟨g, 0, none⟩ : Addr).add j) = some u := fun j u hj => by
  have e : (⟨g, 0, none⟩ : Addr).add j = ⟨g, 0 + j, none⟩ := by unfold Addr.add; split <;> simp_all
  rw [e, Nat.zero_add, h.cell]
  simpa using hj
theorem own_ne {w : World} {base e size n b t : Nat} {cs : Array Value} {v : Value} {xs : List Value} (ho : w.ownsRow base e size v n xs) (k : Blk w b cs t) (ht : e ≠ t) : v.ownBlock ≠ some b := by
  rcases ho.2 with ⟨rfl, _⟩ | ⟨g, cap, cur, rfl, hb, hh, _⟩
  · simp [Value.ownBlock]
  · intro h
    have : g = b := by simpa [Value.ownBlock] using h
    subst this
    have := k.out
    rw [hh] at this
    simp only [Option.some.injEq, Obj.cells.injEq] at this
    exact ht this.2.1
theorem Blk.far2 {w w' : World} {b t : Nat} {cs : Array Value} {base e size n : Nat} {v : Value} {xs : List Value} (k : Blk w b cs t) (ho : w.ownsRow base e size v n xs) (hg : w.grownBy w' v.ownBlock) (ht : b < base) : Blk w' b cs t := by
  refine ⟨(hg.block b k.lt ?_).trans k.out⟩
  intro h
  have := own_base ho b h.symm
  omega
/-- What each mask becomes. -/
def wMap (f : Nat → Mask → Mask) (ms : List Mask) : List Mask := (List.range ms.length).map fun i => f i (ms.getD i 0)
theorem wMap_take (f : Nat → Mask → Mask) (ms : List Mask) (k : Nat) (hk : k < ms.length) : (wMap f ms).take (k + 1) = (wMap f ms).take k ++ [f k ms[k]] := by
  have hl : k < (wMap f ms).length := by simpa [wMap] using hk
  rw [take_snoc _ _ hl]
  congr 2
  simp only [wMap, List.getElem_map, List.getElem_range]
  rw [List.getD_eq_getElem?_getD, List.getElem?_eq_getElem hk]; rfl
theorem wMap_len (f : Nat → Mask → Mask) (ms : List Mask) : (wMap f ms).length = ms.length := by simp [wMap]
theorem own_mono {w : World} {base base' e size n : Nat} {v : Value} {xs : List Value} (h : w.ownsRow base e size v n xs) (hb : base' ≤ base) : w.ownsRow base' e size v n xs :=
  ⟨h.1, h.2.imp id fun ⟨g, cap, cur, h1, h2, h3⟩ => ⟨g, cap, cur, h1, Nat.le_trans hb h2, h3⟩⟩
theorem OwnVecs.mono {base base' : Nat} {w0 w : World} {v : Value} {l : List Vec} (h : OwnVecs base w0 w v l) (hb : base' ≤ base) : OwnVecs base' w0 w v l := by
  obtain ⟨vs, h1, h2⟩ := h.out
  exact ⟨vs, own_mono h1 hb, h2⟩
/-- Lists in memory of the call's own; the vectors stood in w0. -/
structure OwnLists (base : Nat) (w0 w : World) (v : Value) (l : Lists) : Prop where mk ::
  (out : ∃ cv mv, v = .agg #[cv, mv] ∧ OwnVecs base w0 w cv l.cents ∧ w.ownsRow base 31 2 mv l.masks.length (maskFlat l.masks))
theorem OwnLists.ext {base : Nat} {w0 w w' : World} {v : Value} {l : Lists} (h : OwnLists base w0 w v l) (hx : Ext w w') : OwnLists base w0 w' v l := by
  obtain ⟨cv, mv, h0, h1, h2⟩ := h.out
  exact ⟨cv, mv, h0, h1.ext hx, own_ext h2 hx⟩
theorem OwnLists.mono {base base' : Nat} {w0 w : World} {v : Value} {l : Lists} (h : OwnLists base w0 w v l) (hb : base' ≤ base) : OwnLists base' w0 w v l := by
  obtain ⟨cv, mv, h0, h1, h2⟩ := h.out
  exact ⟨cv, mv, h0, h1.mono hb, own_mono h2 hb⟩
theorem OwnLists.set {base : Nat} {w0 w : World} {v : Value} {l : Lists} (h : OwnLists base w0 w v l) {p : Addr} (hp : p.block < base) (u : Value) : OwnLists base w0 (w.setCell p u) v l := by
  obtain ⟨cv, mv, h0, h1, h2⟩ := h.out
  exact ⟨cv, mv, h0, h1.set hp u, ownsRow_setCell_below h2 hp u⟩
theorem own_form' {w : World} {base e size n : Nat} {v : Value} {xs : List Value} (h : w.ownsRow base e size v n xs) : ∃ a c, v = .slice a n c := by
  rcases h.2 with ⟨rfl, h0⟩ | ⟨g, cap, cur, rfl, _⟩
  · exact ⟨none, 0, by rw [h0]⟩
  · exact ⟨_, _, rfl⟩
theorem OwnLists.form {base : Nat} {w0 w : World} {v : Value} {l : Lists} (h : OwnLists base w0 w v l) : ∃ a c a' c', v = .agg #[.slice a l.cents.length c, .slice a' l.masks.length c'] := by
  obtain ⟨cv, mv, rfl, h1, h2⟩ := h.out
  obtain ⟨a, c, rfl⟩ := h1.form
  obtain ⟨a', c', rfl⟩ := own_form' h2
  exact ⟨_, _, _, _, rfl⟩
theorem OwnLists.sl {base : Nat} {w0 w : World} {cv mv : Value} {l : Lists} (h : OwnLists base w0 w (.agg #[cv, mv]) l) (hx : Ext w0 w) (hc : l.cents.length ≤ 140737488351232) (hm : l.masks.length ≤ 140737488351232) : kVec.Sl w cv l.cents ∧ kMask.Sl w mv l.masks := by
  obtain ⟨cv', mv', h0, h1, h2⟩ := h.out
  simp only [Value.agg.injEq, Array.mk.injEq, List.cons.injEq, and_true] at h0
  obtain ⟨rfl, rfl⟩ := h0
  exact ⟨h1.sl hx hc, own_masks h2 hm⟩
theorem OwnLists.nil (base : Nat) (w0 w : World) : OwnLists base w0 w (.agg #[.slice none 0 0, .slice none 0 0]) ⟨[], []⟩ := ⟨_, _, rfl, ⟨[], World.ownsRow_nil _ _ _ _, by simp⟩, World.ownsRow_nil _ _ _ _⟩
/-- Lists are handed back. -/
structure RetLists (l : Lists) (w0 w : World) (e : Ending) (w' : World) : Prop where mk ::
  (out : ∃ v, e = .returned v ∧ OwnLists w.heap.size w0 w' v l ∧ Ext w w')
theorem ret_agg2 {a b c d : Value} (h : a = c) (h' : b = d) : Ending.returned (.agg #[a, b]) = .returned (.agg #[c, d]) := by rw [h, h']
set_option maxHeartbeats 4000000 in
set_option maxRecDepth 100000 in
theorem lwith_any (g : Nat) (lb : Array Value) (eg : ∀ args w, (callFunc g args).run Try.prog w = .ok (.enter g args) w) (f : Nat → Mask → Mask) (l : Lists) (cv mv : Value) (w0 w : World) (hc : VecsIn w0 w cv l.cents) (hx0 : Ext w0 w) (hm : kMask.Sl w mv l.masks) (hcn : l.cents.length ≤ 1000000) (hmn : l.masks.length ≤ 1000000)
    (hf : ∀ W (i : Nat) m, Ext w W → i < l.masks.length → Calls Try.prog g (#[.int .i64 i, .agg #[.int .u64 (lo (m)), .int .u64 (hi (m))]] ++ lb) W fun e W' => e = .returned (.agg #[.int .u64 (lo (f i m)), .int .u64 (hi (f i m))]) ∧ Ext W W') :
    Calls Try.prog 53 #[.agg #[cv, mv], .func (.func g) #[] lb] w (RetLists ⟨l.cents, wMap f l.masks⟩ w0 w) := by
  obtain ⟨cs, ms⟩ := l
  dsimp only at *
  have H := fun W (hx : Ext w W) => clone_vecs cs cv w0 W (hc.ext hx) hcn
  obtain ⟨a1, c1, _, rfl, _⟩ := hc.out
  obtain ⟨a, c, rfl, hcc, hl, hr⟩ := hm.form
  obtain ⟨i0, hinf, hz0, hz1, hz2⟩ := info_parts info_mask
  have hmax : 140737488355328 ≤ maxLen := by decide
  clear hc hm
  go_enter Try.func53, Try.ntmps53
  go_wp2_with (go_at_call 40; refine (H _ (((Ext.refl _).alloc _).alloc _)).mono ?_; rintro e W1 ⟨cv', rfl, hcv, h1⟩; obtain ⟨a2, c2, rfl⟩ := hcv.form; have kr := (Blk.new' (w := w.alloc (.cells #[.slice a1 cs.length c1, .slice a ms.length c] 25)) (b := w.heap.size + 1) (cs := #[.slice none 0 0, .slice none 0 0]) (t := 25) (by simp)).ext h1; have la2 := kr.lt; have ka := ((Blk.new' (w := w) (b := w.heap.size) (cs := #[.slice a1 cs.length c1, .slice a ms.length c]) (t := 25) rfl).alloc _).ext h1; have ca := ka.cell; have la := ka.lt)
  refine named fun W0 hW0 => ?_
  have kb : Blk W0 W1.heap.size #[.slice a2 cs.length c2, .slice none 0 0] 25 := Blk.of_eq hW0 (Blk.new' rfl)
  have hB : Ext W1 W0 := Ext.of_eq hW0 ((Ext.refl _).alloc _)
  have hw1 : Ext w W1 := (((Ext.refl _).alloc _).alloc _).trans h1
  clear hW0 ka ca la h1 H
  go_loopg [15] ms.length (fun gg s8 wr => ∃ (k : Nat) (s : Value), k ≤ ms.length ∧ ms.length - k ≤ gg ∧ s8 = .int .i64 k ∧ Blk wr W1.heap.size #[.slice a2 cs.length c2, s] 25 ∧ wr.ownsRow W1.heap.size 31 2 s k (maskFlat ((wMap f ms).take k)) ∧ Ext W1 wr)
  case atStart => exact ⟨0, _, Nat.zero_le _, by omega, rfl, kb, World.ownsRow_nil _ _ _ _, hB⟩
  case round =>
    clear kb hB
    obtain ⟨k, s, hk, hg, rfl, kb, hown, hB⟩ := hrel
    by_cases hlt : k < ms.length
    · obtain ⟨b, off, cs1, rfl, rfl, hcell⟩ := (hr.ext (hw1.trans hB)).at_ hlt
      have hx := run_at (P := Try.prog) 23 31 2 Try.underlying23 Try.sizeOf31 (c := c) (a := some ⟨b, off, none⟩) rfl hlt
      have c0 : wr.cell? ⟨b, off + k * 2, none⟩ = _ := hcell 0 _ rfl
      have c1' : wr.cell? ⟨b, off + k * 2 + 1, none⟩ = _ := hcell 1 _ rfl
      have hF := fun W (h : Ext w W) => hf W k (ms[k]'hlt) h hlt
      have S : Hid _ := wMap_take f ms k hlt
      clear hcell
      generalize ms[k] = m at *
      generalize f k m = fm at *
      go_wp2
      refine named fun WA hWA => ?_
      have km : Blk WA wr.heap.size #[.int .u64 (lo m), .int .u64 (hi m)] 31 := Blk.of_eq hWA (Blk.new' rfl)
      replace kb : Blk WA W1.heap.size #[.slice a2 cs.length c2, s] 25 := Blk.of_eq hWA (kb.alloc _)
      have hownA : WA.ownsRow W1.heap.size 31 2 s k (maskFlat ((wMap f ms).take k)) := by
        have e : WA = _ := hWA
        rw [e]; exact hown.alloc _
      replace hB : Ext W1 WA := Ext.of_eq hWA (hB.alloc _)
      clear hWA c0 c1' hx hown
      generalize wr.heap.size = B4 at *
      refine cut_reg (fun a' a'' w' => ∃ (g' : Nat) (s' : Value), (Blk w' W1.heap.size #[.slice a2 cs.length c2, s'] 25 ∧ w'.ownsRow W1.heap.size 31 2 s' (k + 1) (maskFlat ((wMap f ms).take (k + 1))) ∧ Ext W1 w') ∧ a'' = (((((((((a'.put (some 20) (.pointer (some ⟨W1.heap.size, 1, none⟩))).put (some 21) (s)).put (some 22) (.func (.func g) #[] lb)).put (some 23) (.int .i64 k)).put (some 24) (.agg #[.int .u64 (lo (m)), .int .u64 (hi (m))])).put (some 25) (.agg #[.int .u64 (lo (fm)), .int .u64 (hi (fm))])).put (some 26) (.slice (some ⟨g', 0, none⟩) 1 1)).put (some 27) (s')).put (some 28) (.pointer (some ⟨W1.heap.size, 1, none⟩)))) ?_ ?_
      · refine region_reg (L0 := #[true, true, true, true, true, true, true, false, false, false]) (by kernel_rfl) (fun WB hWB => ?_)
        replace km := km.ext hWB
        replace kb := kb.ext hWB
        replace hownA := own_ext hownA hWB
        replace hB := hB.trans hWB
        have cm := km.cell
        have cb := kb.cell
        refine regE_op 0 rfl (by kernel_rfl) ?_ ?_
        focus (go_simp; done)
        apply Exists.intro
        refine ⟨fun W hW => ?_, ?_⟩
        focus (have hc := hW.cellR; go_simp; first | exact rfl | (go_at_fn g; refine (hF _ (hw1.trans (hB.trans hW))).mono ?_; rintro e w1 ⟨rfl, hx⟩; exact ⟨rfl, hx⟩))
        simp only [Act.put, List.setIfInBounds_toArray, List.set_cons_succ, List.set_cons_zero]
        refine regE_op 1 rfl (by kernel_rfl) ?_ ?_
        focus (go_simp; done)
        apply Exists.intro
        refine ⟨fun W hW => ?_, ?_⟩
        focus (have hc := hW.cellR; go_simp; first | exact rfl | (go_at_fn g; refine (hF _ (hw1.trans (hB.trans hW))).mono ?_; rintro e w1 ⟨rfl, hx⟩; exact ⟨rfl, hx⟩))
        simp only [Act.put, List.setIfInBounds_toArray, List.set_cons_succ, List.set_cons_zero]
        refine regE_op 2 rfl (by kernel_rfl) ?_ ?_
        focus (go_simp; done)
        apply Exists.intro
        refine ⟨fun W hW => ?_, ?_⟩
        focus (have hc := hW.cellR; go_simp; first | exact rfl | (go_at_fn g; refine (hF _ (hw1.trans (hB.trans hW))).mono ?_; rintro e w1 ⟨rfl, hx⟩; exact ⟨rfl, hx⟩))
        simp only [Act.put, List.setIfInBounds_toArray, List.set_cons_succ, List.set_cons_zero]
        refine regE_op 3 rfl (by kernel_rfl) ?_ ?_
        focus (go_simp; done)
        apply Exists.intro
        refine ⟨fun W hW => ?_, ?_⟩
        focus (have hc := hW.cellR; go_simp; first | exact rfl | (go_at_fn g; refine (hF _ (hw1.trans (hB.trans hW))).mono ?_; rintro e w1 ⟨rfl, hx⟩; exact ⟨rfl, hx⟩))
        simp only [Act.put, List.setIfInBounds_toArray, List.set_cons_succ, List.set_cons_zero]
        refine regE_op 4 rfl (by kernel_rfl) ?_ ?_
        focus (go_simp; done)
        apply Exists.intro
        refine ⟨fun W hW => ?_, ?_⟩
        focus (have hc := hW.cellR; go_simp; first | exact rfl | (go_at_fn g; refine (hF _ (hw1.trans (hB.trans hW))).mono ?_; rintro e w1 ⟨rfl, hx⟩; exact ⟨rfl, hx⟩))
        simp only [Act.put, List.setIfInBounds_toArray, List.set_cons_succ, List.set_cons_zero]
        refine regE_op 5 rfl (by kernel_rfl) ?_ ?_
        focus (go_simp; done)
        apply Exists.intro
        refine ⟨fun W hW => ?_, ?_⟩
        focus (have hc := hW.cellR; go_simp; first | exact rfl | (go_at_fn g; refine (hF _ (hw1.trans (hB.trans hW))).mono ?_; rintro e w1 ⟨rfl, hx⟩; exact ⟨rfl, hx⟩))
        simp only [Act.put, List.setIfInBounds_toArray, List.set_cons_succ, List.set_cons_zero]
        refine regE_all1 6 (by kernel_rfl) rfl (fun W hW => ?_)
        go_wp2
        refine ⟨rfl, (Ext.refl _).alloc _, ?_⟩
        refine regE_named fun W2 hW2 => ?_
        have kg : Blk W2 W.heap.size #[.int .u64 (lo fm), .int .u64 (hi fm)] 31 := Blk.of_eq hW2 (Blk.new' rfl)
        have hE : Ext WB W2 := Ext.of_eq hW2 (hW.alloc _)
        clear hW2 cm cb
        refine regE_tail [7, 8, 9] rfl (by kernel_rfl) rfl rfl (fun W3 hW3 => ?_)
        have kg3 := kg.ext hW3
        have kb3 := (kb.ext hE).ext hW3
        have hown3 := own_ext (own_ext hownA hE) hW3
        have hE3 := (hB.trans hE).trans hW3
        clear kg kb hownA km
        refine wpList_append_own _ rfl _ _ 23 rfl W1.heap.size 31 i0 (.agg #[.int .u64 0, .int .u64 0]) 2 16 Try.underlying23 hinf hz0 hz1 hz2 rfl (by decide) s k (maskFlat ((wMap f ms).take k)) rfl hown3 ⟨W.heap.size, 0, none⟩ 1 1 [.int .u64 (lo fm), .int .u64 (hi fm)] rfl rfl kg3.news (by simp [Value.oneCell']) (by omega) (by omega) hE3.le ?_
        intro v' w1 hown' hgrow _
        have kb4 := kb3.append hown3 hgrow (by decide)
        have hE4 := hE3.append hown3 (Nat.le_refl _) hgrow
        have f4 := kb4.frozen; have c4 := kb4.cell
        obtain ⟨gx, cap, rfl, _, _, _⟩ := own_form hown' (by omega)
        go_wp2
        refine ⟨rfl, W.heap.size, _, ⟨kb4.set_ 1 _, ownsRow_setCell_other (by rw [S.out, maskFlat_snoc]; exact hown') (own_ne hown' kb4 (by decide)) _, hE4.set (Nat.le_refl _) _⟩, ?_⟩
        simp only [Act.put, List.setIfInBounds_toArray, List.set_cons_succ, List.set_cons_zero]
      · intro a' W2 hR
        obtain ⟨g', s', ⟨kb2, hown2, hB2⟩, rfl⟩ := hR
        simp only [Act.put, List.setIfInBounds_toArray, List.set_cons_succ, List.set_cons_zero]
        clear hF S
        go_wp2
        go_roundg (ms.length - (k + 1))
        case measure => omega
        case rel => exact ⟨k + 1, s', by omega, by omega, by go_num, kb2, hown2, hB2⟩
    · obtain rfl : k = ms.length := by omega
      rw [List.take_of_length_le (by rw [wMap_len]; exact Nat.le_refl _)] at hown
      have hS := own_masks hown (by omega)
      have hcv' := hcv.ext hB
      obtain ⟨a3, c3, hs3, _, _, _⟩ := hS.form
      rw [wMap_len] at hs3
      subst hs3
      have cb := kb.cell
      have lb' : w.heap.size + 1 < W1.heap.size := la2
      have kr := kr.ext hB
      have cr := kr.cell; have fr := kr.frozen
      go_wp2
      have cr2 := ((kr.set_ 0 (.slice a2 cs.length c2)).set_ 1 (.slice a3 ms.length c3)).cell
      have q1 := (hcv'.set (p := ⟨w.heap.size + 1, 0, none⟩) (by simp) (.slice a2 cs.length c2)).set (p := ⟨w.heap.size + 1, 1, none⟩) (by simp) (.slice a3 ms.length c3)
      have q2 := ownsRow_setCell_below (ownsRow_setCell_below hown (a := ⟨w.heap.size + 1, 0, none⟩) la2 (.slice a2 cs.length c2)) (a := ⟨w.heap.size + 1, 1, none⟩) la2 (.slice a3 ms.length c3)
      exact bodyPost_ret (v := .agg #[.slice a2 cs.length c2, .slice a3 ms.length c3]) (by simp [results, Try.results53, go_sem, cr2]) rfl ⟨_, rfl, ⟨_, _, rfl, q1.mono (by simp; omega), by rw [wMap_len]; exact own_mono q2 (by omega)⟩, ((hw1.trans hB).set (by simp) _).set (by simp) _⟩

end Go.Proofs.Ytiolpknfdabijaa
