/- Arenas of the reference: New, With. -/
import Derived.Test.YtiolpknfdabijaaProg
import Derived.Test.YtiolpknfdabijaaLib
import Derived.Test.YtiolpknfdabijaaPure
import Derived.Test.YtiolpknfdabijaaMask
import Derived.Test.YtiolpknfdabijaaMask2
import Derived.Test.YtiolpknfdabijaaVec
import Derived.Test.YtiolpknfdabijaaVec2
import Derived.Test.YtiolpknfdabijaaVec3
import Derived.Test.YtiolpknfdabijaaIter
import Derived.Test.YtiolpknfdabijaaArena
import Derived.Test.YtiolpknfdabijaaArena2
import Derived.Test.YtiolpknfdabijaaArena3
import Derived.Test.YtiolpknfdabijaaArena6
import Derived.Test.YtiolpknfdabijaaArena7
import Derived.Test.YtiolpknfdabijaaClone
import Derived.Test.YtiolpknfdabijaaLib2
import Derived.Test.YtiolpknfdabijaaLists
import Derived.Test.YtiolpknfdabijaaLists3
import Derived.Test.YtiolpknfdabijaaLists5
set_option linter.unusedVariables false
set_option maxRecDepth 4000
set_option linter.unusedSimpArgs false
namespace Go.Proofs.Ytiolpknfdabijaa
open Go.RowKit


def czeros (n : Nat) : Array Value := madeCells (Value.cells (.agg #[.bool false, .int .u64 0, .int .u64 0, .int .u64 0, .slice none 0 0])) (n * 5)
theorem czeros_eq (n : Nat) : (czeros n).toList = rowsOf (List.replicate n cellNone) (List.replicate n (.slice none 0 0)) := by
  apply List.ext_getElem?
  intro j
  have hz : (czeros n).size = n * 5 := by simp [czeros, madeCells]
  have hl : (rowsOf (List.replicate n cellNone) (List.replicate n (.slice none 0 0))).length = n * 5 := by rw [rowsOf_len, List.length_replicate]
  rcases Nat.lt_or_ge j (n * 5) with h | h
  · obtain ⟨k, i, hk, hi2, rfl⟩ : ∃ k i, k < n ∧ i < 5 ∧ j = k * 5 + i := ⟨j / 5, j % 5, by omega, by omega, by omega⟩
    rw [rowsOf_at _ _ k i (by simpa using hk) hi2, Array.getElem?_toList, Array.getElem?_eq_getElem (by omega)]
    simp only [czeros, madeCells, Value.cells, Array.getElem_map, Array.getElem_range]
    have e : (k * 5 + i) % 5 = i := by omega
    have e1 : (List.replicate n cellNone).getD k cellNone = cellNone := by simp [List.getD_eq_getElem?_getD, hk]
    have e2 : (List.replicate n (Value.slice none 0 0)).getD k undef = .slice none 0 0 := by simp [List.getD_eq_getElem?_getD, hk]
    rw [e1, e2]
    match i, hi2, e with
    | 0, _, e => simp [Value.cells, e, rowOfCell, cellNone]
    | 1, _, e => simp [Value.cells, e, rowOfCell, cellNone]
    | 2, _, e => simp [Value.cells, e, rowOfCell, cellNone]
    | 3, _, e => simp [Value.cells, e, rowOfCell, cellNone]
    | 4, _, e => simp [Value.cells, e, rowOfCell, cellNone]
  · rw [List.getElem?_eq_none (by simp; omega), List.getElem?_eq_none (by omega)]
/-- An arena in memory of the call's own: its cells, with the values of their vectors. -/
structure OwnAr (base : Nat) (w : World) (v : Value) (a : Arena) (ss : List Value) : Prop where mk ::
  (out : ∃ g c, v = .agg #[.slice (some ⟨g, 0, none⟩) a.length c] ∧ w.ownsRow base 50 5 (.slice (some ⟨g, 0, none⟩) a.length c) a.length (rowsOf a ss))
theorem OwnAr.ext {base : Nat} {w w' : World} {v : Value} {a : Arena} {ss : List Value} (h : OwnAr base w v a ss) (hx : Ext w w') : OwnAr base w' v a ss := by
  obtain ⟨g, c, h0, h1⟩ := h.out
  exact ⟨g, c, h0, own_ext h1 hx⟩
theorem OwnAr.mono {base base' : Nat} {w : World} {v : Value} {a : Arena} {ss : List Value} (h : OwnAr base w v a ss) (hb : base' ≤ base) : OwnAr base' w v a ss := by
  obtain ⟨g, c, h0, h1⟩ := h.out
  exact ⟨g, c, h0, own_mono h1 hb⟩
theorem OwnAr.set {base : Nat} {w : World} {v : Value} {a : Arena} {ss : List Value} (h : OwnAr base w v a ss) {p : Addr} (hp : p.block < base) (u : Value) : OwnAr base (w.setCell p u) v a ss := by
  obtain ⟨g, c, h0, h1⟩ := h.out
  exact ⟨g, c, h0, ownsRow_setCell_below h1 hp u⟩
theorem OwnAr.cells {base : Nat} {w : World} {g c : Nat} {a : Arena} {ss : List Value} (h : OwnAr base w (.agg #[.slice (some ⟨g, 0, none⟩) a.length c]) a ss) : ∀ (j : Nat) u, (rowsOf a ss)[j]? = some u → w.cell? ⟨g, j, none⟩ = some u := fun j u hj => by
  obtain ⟨g', c', h0, h1⟩ := h.out
  simp only [Value.agg.injEq, Array.mk.injEq, List.cons.injEq, Value.slice.injEq, Option.some.injEq, Addr.mk.injEq, and_true, true_and] at h0
  obtain ⟨rfl, rfl⟩ := h0
  have := h1.cells (g := g) rfl j u hj
  have e : (⟨g, 0, none⟩ : Addr).add j = ⟨g, 0 + j, none⟩ := by unfold Addr.add; split <;> simp_all
  rw [e, Nat.zero_add] at this
  exact this
theorem OwnAr.sl {base : Nat} {w : World} {v : Value} {a : Arena} {ss : List Value} (h : OwnAr base w (.agg #[v]) a ss) (hl : a.length ≤ 140737488351232) (hs : ∀ k, k < a.length → kI32.Sl w (ss.getD k undef) (a.getD k cellNone).ver.vec) : kCell.Sl w v a := by
  obtain ⟨g, c, h0, h1⟩ := h.out
  simp only [Value.agg.injEq, Array.mk.injEq, List.cons.injEq, and_true] at h0
  subst h0
  have hc : a.length ≤ c := by
    rcases h1.2 with ⟨h, _⟩ | ⟨g', cap', cur, h, _, _, h2, _⟩
    · cases h
    · injection h with _ _ h; omega
  refine Kd.Sl.mk hc hl (fun k x hk => ?_)
  have hk' : k < a.length := (List.getElem?_eq_some_iff.1 hk).1
  have ex : a.getD k cellNone = x := by rw [List.getD_eq_getElem?_getD, hk]; rfl
  have hsk := hs k hk'
  rw [ex] at hsk
  refine ⟨g, 0, [.bool x.used, .int .u64 x.id, .int .u64 x.ver.b, .int .u64 x.ver.e, ss.getD k undef], rfl, ⟨_, rfl, hsk⟩, fun i v hv => ?_⟩
  have hi : i < 5 := by
    have := (List.getElem?_eq_some_iff.1 hv).1
    simpa using this
  have hr := rowsOf_at a ss k i hk' hi
  rw [ex] at hr
  have := OwnAr.cells (base := base) (a := a) (ss := ss) ⟨g, c, rfl, h1⟩ (k * 5 + i) v (hr.trans hv)
  have e : 0 + k * kCell.sz + i = k * 5 + i := by simp [kCell]
  rw [e]; exact this
/-- The row with another cell. -/
theorem rowsOf_set (a : Arena) (ss : List Value) (k : Nat) (x : Cell) (s : Value) (hk : k < a.length) (hs : ss.length = a.length) :
    rowsOf (a.set k x) (ss.set k s) = ((((((rowsOf a ss).set (k * 5) (.bool x.used)).set (k * 5 + 1) (.int .u64 x.id)).set (k * 5 + 2) (.int .u64 x.ver.b)).set (k * 5 + 3) (.int .u64 x.ver.e)).set (k * 5 + 4) s) := by
  apply List.ext_getElem?
  intro j
  have hl := rowsOf_len a ss
  have hl2 := rowsOf_len (a.set k x) (ss.set k s)
  rw [List.length_set] at hl2
  rcases Nat.lt_or_ge j (a.length * 5) with h | h
  · obtain ⟨m, i, hm, hi, rfl⟩ : ∃ m i, m < a.length ∧ i < 5 ∧ j = m * 5 + i := ⟨j / 5, j % 5, by omega, by omega, by omega⟩
    rw [rowsOf_at _ _ m i (by simpa using hm) hi]
    simp only [List.getElem?_set, List.length_set, hl]
    by_cases e : m = k
    · subst e
      have e1 : (a.set m x).getD m cellNone = x := by simp [List.getD_eq_getElem?_getD, hm]
      have e2 : (ss.set m s).getD m undef = s := by simp [List.getD_eq_getElem?_getD, hs, hm]
      rw [e1, e2]
      match i, hi with
      | 0, _ => simp [rowOfCell]; omega
      | 1, _ => simp [rowOfCell]; omega
      | 2, _ => simp [rowOfCell]; omega
      | 3, _ => simp [rowOfCell]; omega
      | 4, _ => simp [rowOfCell]; omega
    · have e1 : (a.set k x).getD m cellNone = a.getD m cellNone := by simp [List.getD_eq_getElem?_getD, List.getElem?_set_ne (Ne.symm e)]
      have e2 : (ss.set k s).getD m undef = ss.getD m undef := by simp [List.getD_eq_getElem?_getD, List.getElem?_set_ne (Ne.symm e)]
      rw [e1, e2, ← rowsOf_at a ss m i hm hi]
      have n0 : ¬ k * 5 = m * 5 + i := by omega
      have n1 : ¬ k * 5 + 1 = m * 5 + i := by omega
      have n2 : ¬ k * 5 + 2 = m * 5 + i := by omega
      have n3 : ¬ k * 5 + 3 = m * 5 + i := by omega
      have n4 : ¬ k * 5 + 4 = m * 5 + i := by omega
      simp only [n0, n1, n2, n3, n4, if_false]
  · rw [List.getElem?_eq_none (by omega), List.getElem?_eq_none (by simp; omega)]
set_option maxHeartbeats 1000000 in
theorem new09_any (w : World) : Calls Try.prog 73 #[] w fun e w' => ∃ v, e = .returned v ∧ OwnAr w.heap.size w' v (List.replicate 96 cellNone) (List.replicate 96 (.slice none 0 0)) ∧ Ext w w' := by
  obtain ⟨i0, hinf, hz0, hz1, hz2⟩ := info_parts info_cell
  have hmax : 1000 ≤ maxLen := by decide
  have hmk : ∀ W, (Instr.makeSlice 37 (.int .i64 96) (.int .i64 96)).run Try.prog W = .ok (.slice (some ⟨W.heap.size, 0, none⟩) 96 96) (W.alloc (.cells (czeros 96) 50)) := fun W => by
    have := run_make (P := Try.prog) W 37 50 i0 (.agg #[.bool false, .int .u64 0, .int .u64 0, .int .u64 0, .slice none 0 0]) Try.underlying37 hinf hz0 .i64 .i64 96 96 (by omega) (Int.le_refl _) (by rw [hz2]; omega) (by omega)
    rw [hz1] at this
    simpa [czeros] using this
  have hown : ∀ (W : World) (base : Nat), base ≤ W.heap.size → (W.alloc (.cells (czeros 96) 50)).ownsRow base 50 5 (.slice (some ⟨W.heap.size, 0, none⟩) 96 96) 96 (rowsOf (List.replicate 96 cellNone) (List.replicate 96 (.slice none 0 0))) := fun W base hb => by
    have hs : (czeros 96).size = 96 * 5 := by simp [czeros, madeCells]
    refine ⟨by rw [rowsOf_len, List.length_replicate], .inr ⟨W.heap.size, 96, czeros 96, rfl, hb, heap_alloc_new W _, Nat.le_refl _, by omega, hs, ?_⟩⟩
    rw [czeros_eq, List.take_of_length_le (by rw [rowsOf_len, List.length_replicate]; exact Nat.le_refl _)]
  clear hinf hz0 hz1 hz2
  generalize czeros 96 = cz at *
  go_enter Try.func73, Try.ntmps73
  go_wp2
  refine bodyPost_ret (v := .agg #[.slice (some ⟨w.heap.size + 1, 0, none⟩) 96 96]) (by simp [results, Try.results73, go_sem]) rfl ⟨_, rfl, ⟨w.heap.size + 1, 96, by rw [List.length_replicate], ?_⟩, ((Ext.refl w).alloc _).alloc _⟩
  rw [List.length_replicate]
  have := hown (w.alloc (.cells #[.slice (some ⟨w.heap.size + 1, 0, none⟩) 96 96] 39)) w.heap.size (by simp)
  simpa using this
theorem rows_one {a : Arena} {ss : List Value} (h : ∀ k, k < a.length → (ss.getD k undef).oneCell' = true) : ∀ u ∈ rowsOf a ss, u.oneCell' = true := fun u hu => by
  unfold rowsOf at hu
  obtain ⟨k, hk, hu⟩ := List.mem_flatMap.1 hu
  have hk : k < a.length := by simpa using hk
  simp [rowOfCell] at hu
  rcases hu with rfl | rfl | rfl | rfl | rfl
  · rfl
  · rfl
  · rfl
  · rfl
  · exact h k hk
set_option maxHeartbeats 2000000 in
theorem with09_any (a : Arena) (ss : List Value) (k : Nat) (x : Cell) (a3 : Option Addr) (n3 c3 g c : Nat) (w : World) (hrow : ∀ (j : Nat) u, (rowsOf a ss)[j]? = some u → w.cell? ⟨g, j, none⟩ = some u) (hone : ∀ k, k < a.length → (ss.getD k undef).oneCell' = true)
    (hk : k < a.length) (hn : a.length ≤ 1000) (hss : ss.length = a.length) :
    Calls Try.prog 72 #[.agg #[.slice (some ⟨g, 0, none⟩) a.length c], .int .i64 k, .agg #[.bool x.used, .int .u64 x.id, .int .u64 x.ver.b, .int .u64 x.ver.e, .slice a3 n3 c3]] w fun e w' => ∃ v, e = .returned v ∧ OwnAr w.heap.size w' v (a.set k x) (ss.set k (.slice a3 n3 c3)) ∧ Ext w w' := by
  have RS := rowsOf_set a ss k x (.slice a3 n3 c3) hk hss
  have HOA : ∀ base W g' c', W.ownsRow base 50 5 (.slice (some ⟨g', 0, none⟩) a.length c') a.length (rowsOf (a.set k x) (ss.set k (.slice a3 n3 c3))) → OwnAr base W (.agg #[.slice (some ⟨g', 0, none⟩) a.length c']) (a.set k x) (ss.set k (.slice a3 n3 c3)) := fun base W g' c' h => by
    have e : (a.set k x).length = a.length := List.length_set
    exact ⟨g', c', by rw [e], by rw [e]; exact h⟩
  rw [RS] at HOA
  have hl := rowsOf_len a ss
  have h1 := rows_one hone
  obtain ⟨i0, hinf, hz0, hz1, hz2⟩ := info_parts info_cell
  have hmax : 140737488355328 ≤ maxLen := by decide
  obtain ⟨u, i, b, e, v⟩ := x
  dsimp only at *
  generalize OwnAr = OA at *
  generalize rowsOf a ss = xs at *
  have hz : Hid _ := hz0
  have hy1 : Hid _ := hz1
  have hy2 : Hid _ := hz2
  clear RS hone hss hz0 hz1 hz2
  generalize hm : a.length = n at *
  clear hm
  have kx0 := (Blk.new' (w := w.alloc (.cells #[.slice (some ⟨g, 0, none⟩) n c] 39)) (b := w.heap.size + 1) (cs := #[.bool u, .int .u64 i, .int .u64 b, .int .u64 e, .slice a3 n3 c3]) (t := 50) (by simp)).alloc (.cells #[.slice none 0 0] 39)
  have kr0 := Blk.new' (w := (w.alloc (.cells #[.slice (some ⟨g, 0, none⟩) n c] 39)).alloc (.cells #[.bool u, .int .u64 i, .int .u64 b, .int .u64 e, .slice a3 n3 c3] 50)) (b := w.heap.size + 1 + 1) (cs := #[.slice none 0 0]) (t := 39) (by simp)
  have hext : ∀ cs, Ext w (((w.alloc (.cells #[.slice (some ⟨g, 0, none⟩) n c] 39)).alloc (.cells #[.bool u, .int .u64 i, .int .u64 b, .int .u64 e, .slice a3 n3 c3] 50)).alloc (.cells cs 39)) := fun cs => (((Ext.refl w).alloc _).alloc _).alloc _
  have hown := World.ownsRow_lit (base := w.heap.size + 1 + 1 + 1) (e := 50) (size := 5) (((w.alloc (.cells #[.slice (some ⟨g, 0, none⟩) n c] 39)).alloc (.cells #[.bool u, .int .u64 i, .int .u64 b, .int .u64 e, .slice a3 n3 c3] 50)).alloc (.cells #[.slice none 0 0] 39)) #[] 0 (by simp) (by omega) rfl
  have hnews : ∀ (j : Nat) q, xs[j]? = some q → ((((w.alloc (.cells #[.slice (some ⟨g, 0, none⟩) n c] 39)).alloc (.cells #[.bool u, .int .u64 i, .int .u64 b, .int .u64 e, .slice a3 n3 c3] 50)).alloc (.cells #[.slice none 0 0] 39)).alloc (.cells #[] 50)).cell? ((⟨g, 0, none⟩ : Addr).add j) = some q := fun j q hj => by
    have e : (⟨g, 0, none⟩ : Addr).add j = ⟨g, j, none⟩ := by unfold Addr.add; split <;> simp_all
    rw [e]
    exact ((hext _).alloc _).cellS (hrow j q hj)
  clear hrow
  simp only [World.size_alloc] at hown
  go_enter Try.func72, Try.ntmps72
  go_wp2_with (at_builtin; refine wpList_append_own _ rfl _ _ 37 rfl (w.heap.size + 1 + 1 + 1) 50 i0 (.agg #[.bool false, .int .u64 0, .int .u64 0, .int .u64 0, .slice none 0 0]) 5 56 Try.underlying37 hinf hz.out hy1.out hy2.out rfl (by decide) _ 0 [] rfl hown ⟨g, 0, none⟩ n c xs rfl hl hnews h1 (by omega) (by omega) (by simp) ?_; intro v' w1 hown' hgrow _; rw [Nat.zero_add, List.nil_append] at hown'; obtain ⟨gg, cap, rfl, _, hgb, hgl⟩ := own_form hown' (by omega); have hx : ∀ W, (Instr.indexAt 37 (.slice (some ⟨gg, 0, none⟩) n cap) (.int .i64 (k : Int))).run Try.prog W = .ok (.pointer (some ⟨gg, k * 5, none⟩)) W := (by have := run_at (P := Try.prog) 37 50 5 Try.underlying37 Try.sizeOf50 (n := n) (c := cap) (a := some ⟨gg, 0, none⟩) rfl hk; intro W; have h := this W; rwa [Nat.zero_add] at h); have hfz := fun j => hown'.frozenAt j; have y0 : w1.cell? ⟨gg, k * 5, none⟩ = some (xs[k * 5]'(by omega)) := (by rw [hown'.cellAt _ (by omega), List.getElem?_eq_getElem]); have y1 : w1.cell? ⟨gg, k * 5 + 1, none⟩ = some (xs[k * 5 + 1]'(by omega)) := (by rw [hown'.cellAt _ (by omega), List.getElem?_eq_getElem]); have y2 : w1.cell? ⟨gg, k * 5 + 2, none⟩ = some (xs[k * 5 + 2]'(by omega)) := (by rw [hown'.cellAt _ (by omega), List.getElem?_eq_getElem]); have y3 : w1.cell? ⟨gg, k * 5 + 3, none⟩ = some (xs[k * 5 + 3]'(by omega)) := (by rw [hown'.cellAt _ (by omega), List.getElem?_eq_getElem]); have y4 : w1.cell? ⟨gg, k * 5 + 4, none⟩ = some (xs[k * 5 + 4]'(by omega)) := (by rw [hown'.cellAt _ (by omega), List.getElem?_eq_getElem]); have kx := (kx0.alloc (.cells #[] 50)).far2 hown hgrow (by omega); have kr := (kr0.alloc (.cells #[] 50)).far2 hown hgrow (by omega); have cx := kx.cell; have cr := kr.cell; have fr := kr.frozen; have lr := kr.lt)
  have hE1 : Ext w w1 := (((hext _).alloc (.cells #[] 50))).append hown (by omega) hgrow
  have o0 := (hown'.stored (k * 5) (.bool u)).1
  have o1 := (o0.stored (k * 5 + 1) (.int .u64 i)).1
  have o2 := (o1.stored (k * 5 + 2) (.int .u64 b)).1
  have o3 := (o2.stored (k * 5 + 3) (.int .u64 e)).1
  have o4 := (o3.stored (k * 5 + 4) (.slice a3 n3 c3)).1
  have o5 := ownsRow_setCell_below o4 (a := ⟨w.heap.size + 1 + 1, 0, none⟩) (by simp) (.slice (some ⟨gg, 0, none⟩) n cap)
  have hg2 : w.heap.size ≤ gg := by omega
  have kr5 := ((((((kr.far (p := ⟨gg, k * 5, none⟩) (by simp; omega) (.bool u)).far (p := ⟨gg, k * 5 + 1, none⟩) (by simp; omega) (.int .u64 i)).far (p := ⟨gg, k * 5 + 2, none⟩) (by simp; omega) (.int .u64 b)).far (p := ⟨gg, k * 5 + 3, none⟩) (by simp; omega) (.int .u64 e)).far (p := ⟨gg, k * 5 + 4, none⟩) (by simp; omega) (.slice a3 n3 c3)).set_ 0 (.slice (some ⟨gg, 0, none⟩) n cap)).cell
  exact bodyPost_ret (v := .agg #[.slice (some ⟨gg, 0, none⟩) n cap]) (by simp [results, Try.results72, go_sem, kr5]) rfl ⟨_, rfl, HOA _ _ _ _ (own_mono o5 (by omega)), (((((hE1.set hg2 _).set hg2 _).set hg2 _).set hg2 _).set hg2 _).set (by simp; omega) _⟩

end Go.Proofs.Ytiolpknfdabijaa
