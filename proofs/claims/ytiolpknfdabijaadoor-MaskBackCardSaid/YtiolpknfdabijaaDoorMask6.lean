/- Rows of numbers in order; what wakes the law. -/
import Derived.Test.YtiolpknfdabijaaDoorProg
import Derived.Test.YtiolpknfdabijaaDoorLib
import Derived.Lib.OwnBridge
import Derived.Sort.Grow
import Derived.Test.YtiolpknfdabijaaDoorShelf
import Derived.Test.YtiolpknfdabijaaDoorPure
import Derived.Test.YtiolpknfdabijaaDoorPop
import Derived.Test.YtiolpknfdabijaaDoorMask
import Derived.Test.YtiolpknfdabijaaDoorMask2
import Derived.Test.YtiolpknfdabijaaDoorSlots
import Derived.Test.YtiolpknfdabijaaDoorMask3
import Derived.Test.YtiolpknfdabijaaDoorMask4
import Derived.Test.YtiolpknfdabijaaDoorMask5
import Derived.Test.YtiolpknfdabijaaDoorLib2
set_option linter.unusedVariables false
set_option linter.unusedSimpArgs false
namespace Go.Proofs.YtiolpknfdabijaaDoor
open Go.RowKit

open Go.Sort Go.Shelf

set_option maxHeartbeats 1000000 in
/-- slices.Equal. -/
theorem equal_int (xs ys : List Int) (v u : Value) (w : World) (h : kInt.Sl w v xs) (h' : kInt.Sl w u ys) :
    Calls Tryd.prog 7 #[v, u] w fun e w' => e = .returned (.bool (decide (xs = ys))) ∧ Ext w w' := by
  obtain ⟨a, c, rfl, hc, hl, hr⟩ := h.form
  obtain ⟨a2, c2, rfl, hc2, hl2, hr2⟩ := h'.form
  by_cases hn : xs.length = ys.length
  · have V : Hid (∀ r, r = decide (xs = ys) → (r = true ↔ xs = ys)) := fun r e => by rw [e]; simp
    generalize hR : decide (xs = ys) = R
    have V := V.out R hR.symm
    have V : Hid _ := V
    clear hR h h'
    have hn' : Hid _ := hn
    have dl : ((xs.length : Int) != (ys.length : Int)) = false := by simp [hn]
    generalize hm : ys.length = m at *
    have hm' : Hid _ := hm
    clear hm hn
    go_enter Tryd.func7, Tryd.ntmps7
    go_wp2
    go_loopg [13] xs.length (fun gg s8 wr => ∃ k : Nat, k ≤ xs.length ∧ xs.length - k ≤ gg ∧ s8 = .int .i64 k ∧ Hid (xs.take k = ys.take k) ∧ Ext w wr)
    case atStart => exact ⟨0, Nat.zero_le _, by omega, rfl, by simp [Hid], Ext.refl _⟩
    case round =>
      obtain ⟨k, hk, hg, rfl, hno, hB⟩ := hrel
      by_cases hlt : k < xs.length
      · have hlt2 : k < ys.length := by rw [hm'.out, ← hn'.out]; exact hlt
        have hlt3 : k < m := by rw [← hm'.out]; exact hlt2
        obtain ⟨b, off, cs, ha, rfl, hcell⟩ := (hr.ext hB).at_ hlt
        obtain ⟨b2, off2, cs2, ha2, rfl, hcell2⟩ := (hr2.ext hB).at_ hlt2
        have hx := run_at (P := Tryd.prog) 22 3 1 Tryd.underlying22 Tryd.sizeOf3 (c := c) ha hlt
        have hy := run_at (P := Tryd.prog) 22 3 1 Tryd.underlying22 Tryd.sizeOf3 (c := c2) ha2 hlt3
        have x0 : wr.cell? ⟨b, off + k * 1, none⟩ = _ := hcell 0 _ rfl
        have y0 : wr.cell? ⟨b2, off2 + k * 1, none⟩ = _ := hcell2 0 _ rfl
        rw [Nat.mul_one] at hx hy x0 y0
        clear hcell hcell2 ha ha2
        have N : Hid (xs[k] = ys[k] → xs.take (k + 1) = ys.take (k + 1)) := fun e => by rw [take_snoc _ _ hlt, take_snoc _ _ hlt2, hno.out, e]
        have N2 : Hid (xs[k] ≠ ys[k] → R = false) := fun e => by
          cases hR : R with
          | false => rfl
          | true => exact absurd (List.getElem_of_eq (V.out.1 hR) hlt) e
        generalize xs[k] = p at *
        generalize ys[k] = q at *
        by_cases hpq : p = q
        · have E : Hid _ := N.out hpq
          have d : (p != q) = false := by simpa using hpq
          clear hpq N N2
          go_wp2
          refine region_all (Ext _) (by kernel_rfl) (by kernel_rfl) (Ext.drew' (Below.refl _ _)) ?_
          repeat (first | (refine quiet_op ?_ ?_; (focus (go_simp; done)); apply Exists.intro; refine ⟨fun W hW => ?_, ?_⟩; (focus (have hc := hW.cellR; go_simp; first | exact rfl)); simp only [Act.put, List.setIfInBounds_toArray, List.set_cons_succ, List.set_cons_zero]) | (refine quiet_skip ?_ ?_; (focus (go_simp; done)); simp only [Act.put, List.setIfInBounds_toArray, List.set_cons_succ, List.set_cons_zero]))
          refine wpQuiet_nil ?_
          intro W1 hW1
          go_wp2
          go_roundg (xs.length - (k + 1))
          case measure => omega
          case rel => exact ⟨k + 1, by omega, by omega, by go_num, E, hB.trans hW1⟩
        · have E : Hid _ := N2.out hpq
          have d : (p != q) = true := by simpa using hpq
          clear hpq N N2
          go_wp2
          refine region_all (Ext _) (by kernel_rfl) (by kernel_rfl) (Ext.drew' (Below.refl _ _)) ?_
          repeat (first | (refine quiet_op ?_ ?_; (focus (go_simp; done)); apply Exists.intro; refine ⟨fun W hW => ?_, ?_⟩; (focus (have hc := hW.cellR; go_simp; first | exact rfl)); simp only [Act.put, List.setIfInBounds_toArray, List.set_cons_succ, List.set_cons_zero]) | (refine quiet_skip ?_ ?_; (focus (go_simp; done)); simp only [Act.put, List.setIfInBounds_toArray, List.set_cons_succ, List.set_cons_zero]))
          refine wpQuiet_nil ?_
          intro W1 hW1
          go_wp2
          go_ret
          exact ⟨ret_bool E.out.symm, hB.trans hW1⟩
      · have hkk : k = xs.length := by omega
        have E : Hid (R = true) := by
          have h1 := hno.out
          rw [hkk, List.take_length, hn'.out, ← hm'.out, List.take_length] at h1
          exact V.out.2 h1
        go_wp2
        go_ret
        exact ⟨ret_bool E.out.symm, hB⟩
  · have E : Hid (decide (xs = ys) = false) := by
      have : xs ≠ ys := fun e => hn (by rw [e])
      simpa [Hid] using this
    have dl : ((xs.length : Int) != (ys.length : Int)) = true := by
      have : (xs.length : Int) ≠ (ys.length : Int) := by omega
      simpa using this
    generalize decide (xs = ys) = R at *
    clear hr hr2 h h' hn
    go_enter Tryd.func7, Tryd.ntmps7
    go_wp2
    go_ret
    exact ⟨ret_bool E.out.symm, Ext.refl _⟩

theorem Blk.keep {w w' : World} {b t : Nat} {cs : Array Value} {base e n : Nat} {v : Value} {xs : List Value} (k : Blk w b cs t) (ho : w.ownsRow base e 1 v n xs) (hg : w.grownBy w' v.ownBlock) (ht : b < base) : Blk w' b cs t := by
  refine ⟨(hg.block b k.lt ?_).trans k.out⟩
  intro h
  have := own_base ho b h.symm
  omega
theorem ext_grow (w : World) (os : Array Obj) : Ext w (grow w os) := ⟨rfl, rfl, rfl, by simp, fun k hk => heap_grow_old _ _ hk⟩
theorem putRow_grown {w : World} {g n : Nat} (d : Array Int) : w.grownBy (putRow (Value.int .i64) (Sort.ahead w n) g 0 d) (some g) := by
  refine ⟨rfl, rfl, rfl, by simp [putRow, mapBlock, Sort.ahead], fun k hk hne => ?_⟩
  have : g ≠ k := fun e => hne (by rw [e])
  simp [putRow, mapBlock, Sort.ahead, Array.getElem?_modify, this]
def msort (xs : List Int) : List Int := xs.mergeSort fun x y => decide (x ≤ y)
/-- slices.Sort of a row of the call's own. -/
theorem sort_own (base n : Nat) (v : Value) (xs : List Int) (w : World) (h : w.ownsRow base 3 1 v n (xs.map (Value.int .i64))) (hn : n < 4611686018427387904) :
    Calls Tryd.prog 6 #[v] w fun e w' => e = .returned (.tuple #[]) ∧ w'.ownsRow base 3 1 v n ((msort xs).map (Value.int .i64)) ∧ w.grownBy w' v.ownBlock := by
  rcases h.2 with ⟨rfl, h0⟩ | hx
  · have hl := h.1
    rw [h0] at hl h
    obtain rfl : xs = [] := by simpa using hl
    refine (Tryd.slices_Sort_int_none none 0 w).mono ?_
    rintro e w' ⟨rfl, rfl⟩
    rw [h0]
    have e0 : msort [] = [] := by simp [msort]
    rw [e0]
    exact ⟨rfl, h, ext_grown (Ext.refl _)⟩
  · obtain ⟨g, cap, rfl, hb, hg, hc, hm, hl, hH⟩ := Lib.holds_of_ownsRow h (by obtain ⟨g, cap, cur, rfl, _⟩ := hx; simp)
    have hc := Tryd.slices_Sort_int g 0 cap xs w hH hg (by omega)
    rw [hl] at hc
    refine hc.mono ?_
    rintro e w' ⟨rfl, q, os, rfl⟩
    have hr := Lib.ownsRow_putRow (q := q) (ys := msort xs) (k := n) h (by unfold msort; rw [List.length_mergeSort]; exact hl) (Nat.le_refl _)
    rw [List.take_of_length_le (by unfold msort; rw [List.length_mergeSort]; omega)] at hr
    refine ⟨rfl, own_ext hr (ext_grow _ _), ?_⟩
    have hg1 := putRow_grown (w := w) (g := g) (n := q) (msort xs).toArray
    have hg2 := ext_grow (putRow (Value.int .i64) (Sort.ahead w q) g 0 (msort xs).toArray) os
    exact ⟨rfl, rfl, rfl, Nat.le_trans hg1.size hg2.size, fun k hk hne => (hg2.block k (Nat.lt_of_lt_of_le hk hg1.size)).trans (hg1.block k hk hne)⟩
/-- slices.Compact of a row of the call's own. -/
theorem compact_own (base n : Nat) (v : Value) (xs : List Int) (w : World) (h : w.ownsRow base 3 1 v n (xs.map (Value.int .i64))) (hn : n < 140737488351232) :
    Calls Tryd.prog 9 #[v] w fun e w' => ∃ v', e = .returned v' ∧ kInt.Sl w' v' (Lib.compact xs) ∧ w.grownBy w' v.ownBlock := by
  rcases h.2 with ⟨rfl, h0⟩ | hx
  · have hl := h.1
    rw [h0] at hl h
    obtain rfl : xs = [] := by simpa using hl
    refine (Tryd.slices_Compact_int_empty none 0 w).mono ?_
    rintro e w' ⟨rfl, rfl⟩
    exact ⟨_, rfl, Kd.Sl.nil _ _, ext_grown (Ext.refl _)⟩
  · obtain ⟨g, cap, rfl, hb, hg, hc, hm, hl, hH⟩ := Lib.holds_of_ownsRow h (by obtain ⟨g, cap, cur, rfl, _⟩ := hx; simp)
    have hcc := Tryd.slices_Compact_int g 0 cap xs w hH (by omega) (by omega)
    rw [hl] at hcc
    refine hcc.mono ?_
    have hle := Lib.compact_length_le xs
    rintro e w' ⟨rfl, q, rfl⟩
    have hr := Lib.ownsRow_putRow (q := q) (ys := Lib.compact xs ++ List.replicate (n - (Lib.compact xs).length) 0) (k := (Lib.compact xs).length) h (by simp; omega) (by omega)
    rw [List.take_left] at hr
    refine ⟨_, rfl, Kd.Sl.own1 rfl hr rfl (by omega) (fun k x hx => ⟨.int .i64 x, by simp [hx], rfl⟩), putRow_grown _⟩
/-- A row of the call's own, as a slice. -/
theorem own_sl {w : World} {base n : Nat} {v : Value} {xs : List Int} (h : w.ownsRow base 3 1 v n (xs.map (Value.int .i64))) (hn : n ≤ 140737488351232) : kInt.Sl w v xs := by
  have hl : xs.length = n := by simpa using h.1
  rcases h.2 with ⟨rfl, h0⟩ | ⟨g, cap, cur, rfl, _⟩
  · have : xs = [] := List.length_eq_zero_iff.1 (by omega)
    subst this
    exact Kd.Sl.nil _ _
  · exact Kd.Sl.own1 rfl h hl hn (fun k x hx => ⟨.int .i64 x, by simp [hx], rfl⟩)
theorem lit_sl {w : World} {g t : Nat} (xs : List Int) (hn : xs.length ≤ 140737488351232) (h : Blk w g (xs.map (Value.int .i64)).toArray t) : kInt.Sl w (.slice (some ⟨g, 0, none⟩) xs.length xs.length) xs := by
  refine Kd.Sl.mk (Nat.le_refl _) hn (Kd.Row.one rfl fun k x hk => ⟨.int .i64 x, rfl, ?_⟩)
  rw [Nat.zero_add, h.cell]
  simp [hk]

theorem wk1 : lo (mOfM [0, 64, 3]) = 9 ∧ hi (mOfM [0, 64, 3]) = 1 ∧ mOfE [0, 64, 3] = 0 := by decide +kernel
theorem wk2 : lo (mOfM [96]) = 0 ∧ hi (mOfM [96]) = 0 ∧ mOfE [96] = 2 := by decide +kernel
theorem wk3 : mCount (mOfM [0, 64, 3]) = 3 ∧ mCount (mAll &&& ~~~0) = 96 := by decide +kernel
theorem wk4 : lo (mAll &&& ~~~0) = 18446744073709551615 ∧ hi (mAll &&& ~~~0) = 4294967295 := by decide +kernel
set_option maxHeartbeats 1000000 in
theorem wakes_any (w : World) : Calls Tryd.prog 4 #[] w fun e w' => e = .returned (.bool true) ∧ Ext w w' := by
  have o1 : ∀ (g : Nat) (w : World), Blk w g #[.int .i64 0, .int .i64 64, .int .i64 3] 3 → Calls Tryd.prog 5 #[.slice (some ⟨g, 0, none⟩) 3 3] w fun e w' => e = .returned (.tuple #[.agg #[.int .u64 9, .int .u64 1], .int .i64 0]) ∧ Ext w w' := fun g w h => by have := of_any [0, 64, 3] _ w (lit_sl [0, 64, 3] (by simp) h); rw [wk1.1, wk1.2.1, wk1.2.2] at this; exact this
  have o2 : ∀ (g : Nat) (w : World), Blk w g #[.int .i64 96] 3 → Calls Tryd.prog 5 #[.slice (some ⟨g, 0, none⟩) 1 1] w fun e w' => e = .returned (.tuple #[.agg #[.int .u64 0, .int .u64 0], .int .i64 2]) ∧ Ext w w' := fun g w h => by have := of_any [96] _ w (lit_sl [96] (by simp) h); rw [wk2.1, wk2.2.1, wk2.2.2] at this; exact this
  have c1 : ∀ w, Calls Tryd.prog 14 #[.agg #[.int .u64 9, .int .u64 1]] w fun e w' => e = .returned (.int .i64 3) ∧ Ext w w' := fun w => by have := count_any (mOfM [0, 64, 3]) w; rw [wk1.1, wk1.2.1, wk3.1] at this; exact this
  have n1 : ∀ w, Calls Tryd.prog 15 #[.agg #[.int .u64 0, .int .u64 0]] w fun e w' => e = .returned (.agg #[.int .u64 18446744073709551615, .int .u64 4294967295]) ∧ Ext w w' := fun w => by have := Not_any 0 w; rw [wk4.1, wk4.2, lo_zero, hi_zero] at this; exact this
  have c2 : ∀ w, Calls Tryd.prog 14 #[.agg #[.int .u64 18446744073709551615, .int .u64 4294967295]] w fun e w' => e = .returned (.int .i64 96) ∧ Ext w w' := fun w => by have := count_any (mAll &&& ~~~0) w; rw [wk4.1, wk4.2, wk3.2] at this; exact this
  have q1 : ∀ w, (binOp .eql 25 (.agg #[.int .u64 9, .int .u64 1]) (.agg #[.int .u64 9, .int .u64 1])).run Tryd.prog w = .ok (.bool true) w := fun w => by simp only [binOp, Sem.run_bind, mask_equal, Result.andThen_ok]; rfl
  have hg := mask_guard
  go_enter Tryd.func4, Tryd.ntmps4
  go_wp2_with (first
    | (go_at_call 5; (with_reducible refine Calls.mono (o1 _ _ (Blk.new' (by simp))) ?_); rintro e W1 ⟨rfl, h1⟩; clear o1)
    | (go_at_call 5; (with_reducible refine Calls.mono (o2 _ _ (Blk.new' (by simp))) ?_); rintro e W2 ⟨rfl, h2⟩; have kr := ((Blk.new' (b := W1.heap.size) (cs := #[.int .u64 9, .int .u64 1]) (t := 25) rfl).alloc (.cells #[.int .i64 96] 3)).ext h2; have cr := kr.cell; have hlt := kr.lt; clear o2)
    | (go_at_call 14; (with_reducible refine Calls.mono (c1 _) ?_); rintro e W3 ⟨rfl, h3⟩)
    | (go_at_call 14; (with_reducible refine Calls.mono (c2 _) ?_); rintro e W4 ⟨rfl, h4⟩)
    | (go_at_call 15; refine (n1 _).mono ?_; rintro e W5 ⟨rfl, h5⟩))
  go_ret
  exact ⟨rfl, ((((((((Ext.refl _).alloc _).trans h1).alloc _).alloc _).trans h2).alloc _).trans h3 |>.trans h5).trans h4⟩

end Go.Proofs.YtiolpknfdabijaaDoor
