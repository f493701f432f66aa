/- Arenas: the cells in use, an iterator. -/
import Derived.Test.YtiolpknfdabijaaProg
import Derived.Test.YtiolpknfdabijaaLib
import Derived.Test.YtiolpknfdabijaaPure
import Derived.Test.YtiolpknfdabijaaPop
import Derived.Test.YtiolpknfdabijaaMask
import Derived.Test.YtiolpknfdabijaaMask2
import Derived.Test.YtiolpknfdabijaaVec
import Derived.Test.YtiolpknfdabijaaVec2
import Derived.Test.YtiolpknfdabijaaIter
import Derived.Test.YtiolpknfdabijaaVec3
import Derived.Test.YtiolpknfdabijaaArena
import Derived.Test.YtiolpknfdabijaaArena2
import Derived.Test.YtiolpknfdabijaaLib2
set_option linter.unusedVariables false
set_option maxRecDepth 4000
set_option linter.unusedSimpArgs false
namespace Go.Proofs.Ytiolpknfdabijaa
open Go.RowKit

attribute [local go_sem] Oper.semAt_some

/-- The row of an arena, with the values of its vectors. -/
def URow (w : World) (ad : Option Addr) (a : Arena) (ss : List Value) : Prop :=
  ∀ k, k < a.length → ∃ b off, ad = some ⟨b, off, none⟩ ∧ kI32.Sl w (ss.getD k undef) (a.getD k cellNone).ver.vec ∧
    (w.cell? ⟨b, off + k * 5, none⟩ = some (.bool (a.getD k cellNone).used) ∧ w.cell? ⟨b, off + k * 5 + 1, none⟩ = some (.int .u64 (a.getD k cellNone).id) ∧ w.cell? ⟨b, off + k * 5 + 2, none⟩ = some (.int .u64 (a.getD k cellNone).ver.b) ∧
     w.cell? ⟨b, off + k * 5 + 3, none⟩ = some (.int .u64 (a.getD k cellNone).ver.e) ∧ w.cell? ⟨b, off + k * 5 + 4, none⟩ = some (ss.getD k undef))
theorem URow.of {w : World} {ad : Option Addr} {a : Arena} (h : kCell.Row w ad a) : ∃ ss : List Value, URow w ad a ss := by
  have one : ∀ k, ∃ s, k < a.length → ∃ b off, ad = some ⟨b, off, none⟩ ∧ kI32.Sl w s (a.getD k cellNone).ver.vec ∧
    (w.cell? ⟨b, off + k * 5, none⟩ = some (.bool (a.getD k cellNone).used) ∧ w.cell? ⟨b, off + k * 5 + 1, none⟩ = some (.int .u64 (a.getD k cellNone).id) ∧ w.cell? ⟨b, off + k * 5 + 2, none⟩ = some (.int .u64 (a.getD k cellNone).ver.b) ∧
     w.cell? ⟨b, off + k * 5 + 3, none⟩ = some (.int .u64 (a.getD k cellNone).ver.e) ∧ w.cell? ⟨b, off + k * 5 + 4, none⟩ = some s) := fun k => by
    rcases Nat.lt_or_ge k a.length with hk | hk
    · obtain ⟨b, off, cs, ha, ⟨s, rfl, hs⟩, hcell⟩ := h.at_ hk
      have e : a.getD k cellNone = a[k] := by rw [List.getD_eq_getElem?_getD, List.getElem?_eq_getElem hk]; rfl
      rw [e]
      exact ⟨s, fun _ => ⟨b, off, ha, hs, hcell 0 _ rfl, hcell 1 _ rfl, hcell 2 _ rfl, hcell 3 _ rfl, hcell 4 _ rfl⟩⟩
    · exact ⟨undef, fun h => by omega⟩
  refine ⟨(List.range a.length).map fun k => Classical.choose (one k), fun k hk => ?_⟩
  have e : ((List.range a.length).map fun k => Classical.choose (one k)).getD k undef = Classical.choose (one k) := by simp [List.getD_eq_getElem?_getD, hk]
  rw [e]
  exact Classical.choose_spec (one k) hk
theorem URow.ext {w w' : World} {ad : Option Addr} {a : Arena} {ss : List Value} (h : URow w ad a ss) (e : Ext w w') : URow w' ad a ss := fun k hk => by
  obtain ⟨b, off, h1, h2, c0, c1, c2, c3, c4⟩ := h k hk
  exact ⟨b, off, h1, h2.ext e, e.cellS c0, e.cellS c1, e.cellS c2, e.cellS c3, e.cellS c4⟩
abbrev UItem := Nat × Cell × Value
def uItems (a : Arena) (ss : List Value) (k : Nat) : List UItem := ((List.range k).filter fun i => (a.getD i cellNone).used).map fun i => (i, a.getD i cellNone, ss.getD i undef)
theorem uItems_hit {a : Arena} {k : Nat} (ss : List Value) (h : (a.getD k cellNone).used = true) : uItems a ss (k + 1) = uItems a ss k ++ [(k, a.getD k cellNone, ss.getD k undef)] := by
  unfold uItems; rw [List.range_succ, List.filter_append, List.map_append]; simp only [List.filter_cons, h, List.filter_nil, if_true]; rfl
theorem uItems_miss {a : Arena} {k : Nat} (ss : List Value) (h : (a.getD k cellNone).used = false) : uItems a ss (k + 1) = uItems a ss k := by
  unfold uItems; rw [List.range_succ, List.filter_append, List.map_append]; simp only [List.filter_cons, h, List.filter_nil, Bool.false_eq_true, if_false, List.map_nil, List.append_nil]
theorem uItems_pre (a : Arena) (ss : List Value) {k n : Nat} (h : k ≤ n) : uItems a ss k <+: uItems a ss n := by
  obtain ⟨m, rfl⟩ : ∃ m, n = k + m := ⟨n - k, by omega⟩
  unfold uItems
  rw [List.range_add, List.filter_append, List.map_append]
  exact List.prefix_append _ _
theorem uItems_lt {a : Arena} {k n : Nat} (ss : List Value) (hk : k < n) (h : (a.getD k cellNone).used = true) : (uItems a ss k).length < (uItems a ss n).length := by
  have := (uItems_pre a ss (show k + 1 ≤ n by omega)).length_le
  rw [uItems_hit ss h, List.length_append] at this
  simp at this
  omega
def uEnc (x : UItem) : Array Value := #[.int .i64 x.1, .agg #[.bool x.2.1.used, .int .u64 x.2.1.id, .int .u64 x.2.1.ver.b, .int .u64 x.2.1.ver.e, x.2.2]]
theorem used_fn (v : Value) (w : World) : Calls Try.prog 44 #[.agg #[v]] w fun e w' => e = .returned (.func (.func 89) #[] #[.pointer (some ⟨w.heap.size, 0, none⟩)]) ∧ w.alloc (.cells #[v] 39) = w' := by
  go_enter Try.func44, Try.ntmps44
  go_wp2
  go_ret
  exact ⟨rfl, rfl⟩
set_option maxRecDepth 100000 in
set_option maxHeartbeats 2000000 in
theorem used1_in (n : Nat) (hn : 1 ≤ n) (l B n₀ : Nat) (a : Arena) (ss : List Value) (ad : Option Addr) (c : Nat) (J Jx : List UItem → World → Prop) (W : World)
    (hJ : ∀ s A A', J s A → Ext A A' → J s A')
    (hY : ∀ pre x W1, J pre W1 → pre.length < (uItems a ss a.length).length → YieldAt Fence.wide (n - 1) Try.prog l (uEnc x) W1 fun e W' =>
      (e = .returned (.bool true) ∧ J (pre ++ [x]) W' ∧ Below n₀ W1 W') ∨ (e = .returned (.bool false) ∧ Jx (pre ++ [x]) W'))
    (hn₀ : ∃ w0 : World, w0.heap.size = n₀ ∧ Ext w0 W ∧ URow w0 ad a ss) (hl : a.length ≤ 140737488351232) (hb : Blk W B #[.slice ad a.length c] 39) (h0 : J [] W) :
    CallsIn Fence.wide n Try.prog 89 #[.func (.yield l) #[] #[], .pointer (some ⟨B, 0, none⟩)] W fun e W' => (∃ v, e = .returned v) ∧
      ((∃ zs, zs = uItems a ss a.length ∧ J zs W') ∨ (∃ pre, pre <+: uItems a ss a.length ∧ Jx pre W')) := by
  obtain ⟨w0, rfl, hE, hU⟩ := hn₀
  have cb := hb.cell
  refine callsIn_of_wp Try.func89 rfl trivial ?_ rfl
  simp only [Try.ntmps89, List.size_toArray, List.length_cons, List.length_nil, Nat.reduceAdd, Nat.reduceSub, Array.replicate_succ, Array.replicate_zero, List.push_toArray, List.append_toArray, List.nil_append, List.cons_append]
  gi_wp2
  clear cb hb
  gi_loopw [8] (fun i wr => ∃ k : Nat, k ≤ a.length ∧ i = .int .i64 k ∧ J (uItems a ss k) wr ∧ Ext w0 wr)
    (fun i _ => a.length - (intOf i).toNat)
  case atStart => exact ⟨0, by omega, rfl, h0, hE⟩
  case round =>
    clear h0 hE
    obtain ⟨k, hk, rfl, hJ0, hE⟩ := hrel
    by_cases hlt : k < a.length
    · obtain ⟨b, off, rfl, hS, c0, c1, c2, c3, c4⟩ := hU.ext hE k hlt
      obtain ⟨a3, cc3, hs, _, _, _⟩ := hS.form
      clear hS
      have hx := run_at (P := Try.prog) 37 50 5 Try.underlying37 Try.sizeOf50 (c := c) (a := some ⟨b, off, none⟩) rfl hlt
      have H1 := @uItems_hit a k ss
      have H0 := @uItems_miss a k ss
      have HL := @uItems_lt a k a.length ss hlt
      have HP := uItems_pre a ss (show k + 1 ≤ a.length by omega)
      have hY1 := hY (uItems a ss k) (k, a.getD k cellNone, ss.getD k undef)
      clear hU hY
      rw [hs] at H1 hY1 c4
      clear hs
      generalize (a.getD k cellNone).ver.vec.length = n3 at *
      generalize a.getD k cellNone = x at *
      obtain ⟨u, i, b1, e1, v1⟩ := x
      dsimp only at c0 c1 c2 c3 H1 H0 HL
      cases u with
      | false =>
        have E : Hid _ := H0 rfl
        clear H1 H0 HL HP hY1
        gi_wp2
        refine ⟨fun f hf => (by cases hf), ?_⟩
        gi_wp2
        go_roundw
        case rel => exact ⟨k + 1, by omega, by go_num, by rw [E.out]; exact hJ _ _ _ hJ0 ((Ext.refl _).alloc _), hE.alloc _⟩
        case measure => simp [intOf]; omega
      | true =>
        have E : Hid _ := H1 rfl
        have hR0 := fun W1 (h : J (uItems a ss k) W1) => hY1 W1 h (HL rfl)
        have PF : Hid _ := HP
        clear H1 H0 HL HP hY1
        obtain ⟨fn, tmps, assign, body, hy', hR⟩ := hR0 _ (hJ _ _ _ hJ0 ((Ext.refl wr).alloc (.cells #[.bool true, .int .u64 i, .int .u64 b1, .int .u64 e1, .slice a3 n3 cc3] 50)))
        clear hR0
        unfold uEnc at hy'
        dsimp only at hy'
        gi_wp2
        refine hR.mono ?_
        rintro e W3 (⟨rfl, hJ3, hk3⟩ | ⟨rfl, hJx3⟩)
        · gi_wp2
          go_roundw
          case rel => exact ⟨k + 1, by omega, by go_num, by rw [E.out]; exact hJ3, Below.trans (hE.alloc _) hk3⟩
          case measure => simp [intOf]; omega
        · gi_wp2
          refine bodyPost_ret (results_none rfl _ _ _) rfl ?_
          exact ⟨⟨_, rfl⟩, .inr ⟨_, PF.out, by rw [E.out]; exact hJx3⟩⟩
    · obtain rfl : k = a.length := by omega
      gi_wp2
      go_end0
      exact ⟨⟨_, rfl⟩, .inl ⟨_, rfl, hJ0⟩⟩

end Go.Proofs.Ytiolpknfdabijaa
