/- Lists: Where. -/
import Derived.Test.YtiolpknfdabijaaProg
import Derived.Test.YtiolpknfdabijaaLib
import Derived.Test.YtiolpknfdabijaaPure
import Derived.Test.YtiolpknfdabijaaPop
import Derived.Test.YtiolpknfdabijaaMask
import Derived.Test.YtiolpknfdabijaaMask2
import Derived.Test.YtiolpknfdabijaaVec
import Derived.Test.YtiolpknfdabijaaVec2
import Derived.Test.YtiolpknfdabijaaIter
import Derived.Test.YtiolpknfdabijaaVec3
import Derived.Test.YtiolpknfdabijaaLib2
import Derived.Test.YtiolpknfdabijaaLists
import Derived.Test.YtiolpknfdabijaaLists2
set_option linter.unusedVariables false
set_option maxRecDepth 4000
set_option linter.unusedSimpArgs false
namespace Go.Proofs.Ytiolpknfdabijaa
open Go.RowKit

attribute [local go_sem] Oper.semAt_some

theorem ext_grown' {w w' : World} (h : Ext w w') : w.grownBy w' none := ⟨h.os, h.tape, h.output, h.size, fun i hi _ => h.block i hi⟩
theorem Blk.putObj' {W : World} {b D : Nat} {cs : Array Value} {t : TypeId} (h : Blk W b cs t) (o : Obj) (hne : b ≠ D) : Blk (W.putObj D o) b cs t := ⟨(World.putObj_heap_other hne).trans h.out⟩
def hItems (ms : List Mask) (slot : Int) (k : Nat) : List Int := ((List.range k).filter fun i => mHas (ms.getD i 0) slot).map fun (i : Nat) => (i : Int)
theorem hItems_hit {ms : List Mask} {slot : Int} {k : Nat} (h : mHas (ms.getD k 0) slot = true) : hItems ms slot (k + 1) = hItems ms slot k ++ [(k : Int)] := by
  unfold hItems; rw [List.range_succ, List.filter_append, List.map_append]; simp only [List.filter_cons, h, List.filter_nil, if_true]; rfl
theorem hItems_miss {ms : List Mask} {slot : Int} {k : Nat} (h : mHas (ms.getD k 0) slot = false) : hItems ms slot (k + 1) = hItems ms slot k := by
  unfold hItems; rw [List.range_succ, List.filter_append, List.map_append]; simp only [List.filter_cons, h, List.filter_nil, Bool.false_eq_true, if_false, List.map_nil, List.append_nil]
theorem hItems_pre (ms : List Mask) (slot : Int) {k n : Nat} (h : k ≤ n) : hItems ms slot k <+: hItems ms slot n := by
  obtain ⟨m, rfl⟩ : ∃ m, n = k + m := ⟨n - k, by omega⟩
  unfold hItems
  rw [List.range_add, List.filter_append, List.map_append]
  exact List.prefix_append _ _
theorem hItems_lt {ms : List Mask} {slot : Int} {k n : Nat} (hk : k < n) (h : mHas (ms.getD k 0) slot = true) : (hItems ms slot k).length < (hItems ms slot n).length := by
  have := (hItems_pre ms slot (show k + 1 ≤ n by omega)).length_le
  rw [hItems_hit h, List.length_append] at this
  simp at this
  omega
theorem having_fn (v : Value) (slot : Int) (w : World) (hv : ∃ a n c a' n' c', v = .agg #[.slice a n c, .slice a' n' c']) : Calls Try.prog 45 #[v, .int .i64 slot] w fun e w' => e = .returned (.func (.func 90) #[] #[.pointer (some ⟨w.heap.size, 0, none⟩), .pointer (some ⟨w.heap.size + 1, 0, none⟩)]) ∧ (w.alloc (.cells v.cells 25)).alloc (.cells #[.int .i64 slot] 3) = w' := by
  obtain ⟨a, n, c, a', n', c', rfl⟩ := hv
  go_enter Try.func45, Try.ntmps45
  go_wp2
  go_ret
  exact ⟨rfl, rfl⟩
set_option maxRecDepth 100000 in
set_option maxHeartbeats 2000000 in
theorem having1_in (n : Nat) (hn : 1 ≤ n) (l B1 B2 n₀ : Nat) (ms : List Mask) (slot : Int) (cv mv : Value) (J Jx : List Int → World → Prop) (W : World)
    (hY : ∀ pre x W1, J pre W1 → pre.length < (hItems ms slot ms.length).length → YieldAt Fence.wide (n - 1) Try.prog l #[.int .i64 x] W1 fun e W' =>
      (e = .returned (.bool true) ∧ J (pre ++ [x]) W' ∧ KpB n₀ [B2] W1 W') ∨ (e = .returned (.bool false) ∧ Jx (pre ++ [x]) W'))
    (hJ : ∀ s A A', J s A → Ext A A' → J s A')
    (hn₀ : ∃ w0 : World, w0.heap.size = n₀ ∧ Ext w0 W ∧ kMask.Sl w0 mv ms) (hb1 : Blk W B1 #[cv, mv] 25) (hb2 : Blk W B2 #[.int .i64 slot] 3) (h0 : J [] W) :
    CallsIn Fence.wide n Try.prog 90 #[.func (.yield l) #[] #[], .pointer (some ⟨B1, 0, none⟩), .pointer (some ⟨B2, 0, none⟩)] W fun e W' => (∃ v, e = .returned v) ∧
      ((∃ zs, zs = hItems ms slot ms.length ∧ J zs W') ∨ (∃ pre, pre <+: hItems ms slot ms.length ∧ Jx pre W')) := by
  obtain ⟨w0, rfl, hE, hv⟩ := hn₀
  obtain ⟨a, c, rfl, hc, hl, hr⟩ := hv.form
  have hbb1 := hb1.cell
  have lb1 := hb1.lt
  clear hv
  have fh : Fence.wide.fn 17 := trivial
  refine callsIn_of_wp Try.func90 rfl trivial ?_ rfl
  simp only [Try.ntmps90, List.size_toArray, List.length_cons, List.length_nil, Nat.reduceAdd, Nat.reduceSub, Array.replicate_succ, Array.replicate_zero, List.push_toArray, List.append_toArray, List.nil_append, List.cons_append]
  gi_wp2
  clear hbb1 lb1
  gi_loopw [9] (fun i wr => ∃ k : Nat, k ≤ ms.length ∧ i = .int .i64 k ∧ J (hItems ms slot k) wr ∧ Ext w0 wr ∧ Blk wr B2 #[.int .i64 slot] 3)
    (fun i _ => ms.length - (intOf i).toNat)
  case atStart => exact ⟨0, Nat.zero_le _, rfl, h0, hE, hb2⟩
  case round =>
    clear hb1 hb2 h0 hE
    obtain ⟨k, hk, rfl, hJ0, hE, hb2⟩ := hrel
    by_cases hlt : k < ms.length
    · obtain ⟨b, off, cs1, rfl, rfl, hcell⟩ := (hr.ext hE).at_ hlt
      have hx := run_at (P := Try.prog) 23 31 2 Try.underlying23 Try.sizeOf31 (c := c) (a := some ⟨b, off, none⟩) rfl hlt
      have c0 : wr.cell? ⟨b, off + k * 2, none⟩ = _ := hcell 0 _ rfl
      have c1' : wr.cell? ⟨b, off + k * 2 + 1, none⟩ = _ := hcell 1 _ rfl
      have eg : ms.getD k 0 = ms[k] := by rw [List.getD_eq_getElem?_getD, List.getElem?_eq_getElem hlt]; rfl
      have H1 := @hItems_hit ms slot k
      have H0 := @hItems_miss ms slot k
      have HL := @hItems_lt ms slot k ms.length hlt
      have HP := hItems_pre ms slot (show k + 1 ≤ ms.length by omega)
      have hY1 := hY (hItems ms slot k) k
      rw [eg] at H1 H0 HL
      clear hcell eg hY
      have HH := fun W => has_any ms[k] slot W
      generalize ms[k] = m at *
      have cb2 := hb2.cell
      have lb2 := hb2.lt
      cases hm : mHas m slot with
      | false =>
        have E : Hid _ := H0 hm
        rw [hm] at HH
        clear H1 H0 HL HP hY1 hm
        gi_wp2_with (gi_at_call 17; refine ((callsIn_wide (n := n - 1)).2 (HH _)).mono ?_; rintro e W2 ⟨rfl, hx2⟩)
        refine ⟨fun f hf => (by cases hf), ?_⟩
        gi_wp2
        go_roundw
        case rel => exact ⟨k + 1, by omega, by go_num, by rw [E.out]; exact hJ _ _ _ hJ0 (((Ext.refl _).alloc _).trans hx2), (hE.alloc _).trans hx2, (hb2.alloc _).ext hx2⟩
        case measure => simp [intOf]; omega
      | true =>
        have E : Hid _ := H1 hm
        rw [hm] at HH
        have PF : Hid _ := HP
        have hR0 := fun W1 (h : J (hItems ms slot k) W1) => hY1 W1 h (HL hm)
        clear H1 H0 HL HP hY1 hm
        gi_wp2_with (gi_at_call 17; refine ((callsIn_wide (n := n - 1)).2 (HH _)).mono ?_; rintro e W2 ⟨rfl, hx2⟩; obtain ⟨fn, tmps, assign, body, hy', hR⟩ := hR0 W2 (hJ _ _ _ hJ0 (((Ext.refl _).alloc _).trans hx2)))
        refine hR.mono ?_
        rintro e W3 (⟨rfl, hJ3, hk3⟩ | ⟨rfl, hJx3⟩)
        · gi_wp2
          go_roundw
          case rel => exact ⟨k + 1, by omega, by go_num, by rw [E.out]; exact hJ3, hk3.ext ((hE.alloc _).trans hx2), hk3.blk ((hb2.alloc _).ext hx2) (by simp)⟩
          case measure => simp [intOf]; omega
        · gi_wp2
          refine bodyPost_ret (results_none rfl _ _ _) rfl ?_
          exact ⟨⟨_, rfl⟩, .inr ⟨_, PF.out, by rw [E.out]; exact hJx3⟩⟩
    · obtain rfl : k = ms.length := by omega
      gi_wp2
      go_end0
      exact ⟨⟨_, rfl⟩, .inl ⟨_, rfl, hJ0⟩⟩

def lsWhereB (l : Lists) (slot : Int) : Bool := (lsWhere l slot).isSome
def lsWhereN (l : Lists) (slot : Int) : Int := match lsWhere l slot with | some i => (i : Int) | none => 0
theorem where_from (slot : Int) : ∀ (ms : List Mask) (i : Nat), lsWhereFrom slot ms i = ((List.range ms.length).find? fun j => mHas (ms.getD j 0) slot).map (i + ·)
  | [], i => rfl
  | m :: ms, i => by
    unfold lsWhereFrom
    rw [List.length_cons, List.range_succ_eq_map, List.find?_cons]
    cases h : mHas m slot with
    | true => simp [h]
    | false =>
      simp only [Bool.false_eq_true, if_false, List.getD_cons_zero, h]
      rw [where_from slot ms (i + 1), List.find?_map, Option.map_map]
      congr 1
      funext j
      simp; omega
theorem hItems_head (ms : List Mask) (slot : Int) (n : Nat) : (hItems ms slot n).head? = ((List.range n).find? fun j => mHas (ms.getD j 0) slot).map fun (i : Nat) => (i : Int) := by
  unfold hItems
  rw [List.head?_map, List.head?_filter]
theorem where_cases {l : Lists} {slot : Int} (h : lsOk l = true) : (hItems l.masks slot l.masks.length = [] → lsWhereB l slot = false ∧ lsWhereN l slot = 0) ∧ (∀ x, [x] <+: hItems l.masks slot l.masks.length → lsWhereB l slot = true ∧ lsWhereN l slot = x) := by
  have hh := hItems_head l.masks slot l.masks.length
  have hw : lsWhere l slot = (List.range l.masks.length).find? fun j => mHas (l.masks.getD j 0) slot := by
    unfold lsWhere
    rw [if_pos h, where_from]
    simp
  unfold lsWhereB lsWhereN
  rw [hw]
  refine ⟨fun h0 => ?_, fun x hx => ?_⟩
  · rw [h0] at hh
    cases hf : (List.range l.masks.length).find? fun j => mHas (l.masks.getD j 0) slot with
    | none => exact ⟨rfl, rfl⟩
    | some i => rw [hf] at hh; cases hh
  · obtain ⟨t, ht⟩ := hx
    rw [← ht] at hh
    cases hf : (List.range l.masks.length).find? fun j => mHas (l.masks.getD j 0) slot with
    | none => rw [hf] at hh; cases hh
    | some i =>
      rw [hf] at hh
      simp at hh
      exact ⟨rfl, hh.symm⟩
theorem ret_ib {a c : Int} {b d : Bool} (h : a = c) (h' : b = d) : Ending.returned (.tuple #[.int .i64 a, .bool b]) = .returned (.tuple #[.int .i64 c, .bool d]) := by rw [h, h']

end Go.Proofs.Ytiolpknfdabijaa
