/- The law MaskBack: the walk. -/
import Derived.Test.YtiolpknfdabijaaDoorProg
import Derived.Test.YtiolpknfdabijaaDoorLib
import Derived.Lib.OwnBridge
import Derived.Sort.Grow
import Derived.Test.YtiolpknfdabijaaDoorShelf
import Derived.Test.YtiolpknfdabijaaDoorPure
import Derived.Test.YtiolpknfdabijaaDoorPop
import Derived.Test.YtiolpknfdabijaaDoorMask
import Derived.Test.YtiolpknfdabijaaDoorMask2
import Derived.Test.YtiolpknfdabijaaDoorSlots
import Derived.Test.YtiolpknfdabijaaDoorMask3
import Derived.Test.YtiolpknfdabijaaDoorMask4
import Derived.Test.YtiolpknfdabijaaDoorMask5
import Derived.Test.YtiolpknfdabijaaDoorMask6
import Derived.Test.YtiolpknfdabijaaDoorMbPure
import Derived.Test.YtiolpknfdabijaaDoorOrd
import Derived.Test.YtiolpknfdabijaaDoorLib2
set_option linter.unusedVariables false
set_option linter.unusedSimpArgs false
namespace Go.Proofs.YtiolpknfdabijaaDoor
open Go.RowKit

open Go.Sort Go.Shelf

def ownOf (l : List Int) : List Int := (l.take 60).filter mSlot
theorem own_hit {l : List Int} {k : Nat} (hk : k < l.length) (h60 : k < 60) (hs : mSlot l[k] = true) : ownOf (l.take (k + 1)) = ownOf (l.take k) ++ [l[k]] := by
  unfold ownOf
  have e1 : (l.take (k + 1)).take 60 = l.take (k + 1) := List.take_of_length_le (by simp; omega)
  have e2 : (l.take k).take 60 = l.take k := List.take_of_length_le (by simp; omega)
  rw [e1, e2, take_snoc _ _ hk, List.filter_append]
  simp [hs]
theorem own_bad {l : List Int} {k : Nat} (hk : k < l.length) (hs : mSlot l[k] = false) : ownOf (l.take (k + 1)) = ownOf (l.take k) := by
  unfold ownOf
  rcases Nat.lt_or_ge k 60 with h | h
  · have e1 : (l.take (k + 1)).take 60 = l.take (k + 1) := List.take_of_length_le (by simp; omega)
    have e2 : (l.take k).take 60 = l.take k := List.take_of_length_le (by simp; omega)
    rw [e1, e2, take_snoc _ _ hk, List.filter_append]
    simp [hs]
  · rw [List.take_take, List.take_take, Nat.min_eq_left (by omega), Nat.min_eq_left (by omega)]
theorem own_late {l : List Int} {k : Nat} (h : 60 ≤ k) : ownOf (l.take (k + 1)) = ownOf (l.take k) := by
  unfold ownOf
  rw [List.take_take, List.take_take, Nat.min_eq_left (by omega), Nat.min_eq_left (by omega)]
theorem own_len (l : List Int) : (ownOf l).length ≤ 60 := by
  unfold ownOf
  exact Nat.le_trans (List.length_filter_le _ _) (by simp; omega)
theorem own_slots (l : List Int) : (ownOf l).all mSlot = true := by
  unfold ownOf
  rw [List.all_eq_true]
  intro x hx
  exact (List.mem_filter.1 hx).2
theorem slot_no {n : Int} (h : ¬ (0 ≤ n ∧ n < 96)) : mSlot n = false := by
  unfold mSlot
  by_cases h0 : 0 ≤ n <;> by_cases h1 : n < 96 <;> simp_all
theorem slot_yes {n : Int} (h0 : 0 ≤ n) (h1 : n < 96) : mSlot n = true := by simp [mSlot, h0, h1]
theorem cut_region {P : Program} {c : Code} {Q : Exit → Act → World → Prop} {a : Act} {w : World} (R : Act → Act → World → Prop) (h : ∀ Q0 : Exit → Act → World → Prop, (∀ a' w', R a a' w' → Q0 .normal a' w') → c.wp P Q0 a w) (hR : ∀ a' w', R a a' w' → Q .normal a' w') : c.wp P Q a w := h Q hR
theorem litm_sl {w : World} {g t : Nat} (m : Mask) (h : Blk w g #[.int .u64 (lo m), .int .u64 (hi m)] t) : kMask.Sl w (.slice (some ⟨g, 0, none⟩) 1 1) [m] := by
  refine Kd.Sl.mk (Nat.le_refl _) (by simp) (fun k x hk => ?_)
  match k, hk with
  | 0, hk =>
    simp at hk
    subst hk
    refine ⟨g, 0, _, rfl, rfl, fun i v hv => ?_⟩
    have e : (⟨g, 0 + 0 * kMask.sz + i, none⟩ : Addr) = ⟨g, i, none⟩ := by simp
    rw [e, h.cell]
    simpa using hv
theorem own_far {w w' : World} {base e size n base' e' size' n' : Nat} {v v' : Value} {xs xs' : List Value} (h : w.ownsRow base e size v n xs) (h' : w'.ownsRow base' e' size' v' n' xs') (hb : w.heap.size ≤ base') : v'.ownBlock = none ∨ v'.ownBlock ≠ v.ownBlock := by
  rcases h.2 with ⟨rfl, _⟩ | ⟨g, cap, cur, rfl, _, hh, _⟩
  · cases hv : v'.ownBlock with
    | none => exact .inl rfl
    | some k => exact .inr (by simp [Value.ownBlock])
  · have hl := (Array.getElem?_eq_some_iff.1 hh).1
    cases hv : v'.ownBlock with
    | none => exact .inl rfl
    | some k =>
      have := own_base h' k hv
      exact .inr (by simp [Value.ownBlock]; omega)
set_option maxRecDepth 100000 in
set_option maxHeartbeats 4000000 in
theorem mb_any (l : List Int) (m : Mask) (v : Value) (w : World) (h : kInt.Sl w v l) (hT : Tab w) : Calls Tryd.prog 3 #[v, .agg #[.int .u64 (lo (m)), .int .u64 (hi (m))]] w fun e w' => e = .returned (.bool true) ∧ Ext w w' := by
  obtain ⟨a, c, rfl, hc, hl, hr⟩ := h.form
  obtain ⟨i0, hinf, hz0, hz1, hz2⟩ := info_parts int_info
  have hmax : 1000 ≤ maxLen := by decide
  go_enter Tryd.func3, Tryd.ntmps3
  go_wp2_with (go_at_call 4; refine (wakes_any _).mono ?_; rintro e W1 ⟨rfl, h1⟩)
  have km : Blk W1 w.heap.size #[.int .u64 (lo m), .int .u64 (hi m)] 25 := (Blk.new' (by simp)).ext h1
  have hB : Ext w W1 := ((Ext.refl _).alloc _).trans h1
  have hsz : w.heap.size < W1.heap.size := km.lt
  clear h h1
  go_loopg [5, 23] l.length (fun gg s5 s23 wr => ∃ k : Nat, k ≤ l.length ∧ l.length - k ≤ gg ∧ s23 = .int .i64 k ∧ wr.ownsRow W1.heap.size 3 1 s5 (ownOf (l.take k)).length ((ownOf (l.take k)).map (Value.int .i64)) ∧
    Blk wr w.heap.size #[.int .u64 (lo m), .int .u64 (hi m)] 25 ∧ W1.heap.size ≤ wr.heap.size ∧ Ext w wr)
  case atStart => exact ⟨0, Nat.zero_le _, by omega, rfl, World.ownsRow_nil _ _ _ _, km, Nat.le_refl _, hB⟩
  case round =>
    clear km hB
    obtain ⟨k, hk, hg, rfl, hown, km, hw1, hB⟩ := hrel
    by_cases hlt : k < l.length
    · obtain ⟨b, off, cs, ha, rfl, hcell⟩ := (hr.ext hB).at_ hlt
      have hx := run_at (P := Tryd.prog) 22 3 1 Tryd.underlying22 Tryd.sizeOf3 (c := c) ha hlt
      have c0 : wr.cell? ⟨b, off + k * 1, none⟩ = _ := hcell 0 _ rfl
      rw [Nat.mul_one] at hx c0
      clear hcell ha
      have e60 := @own_late l k
      have eh := @own_hit l k hlt
      have eb := @own_bad l k hlt
      have hlen := own_len (l.take k)
      generalize l[k] = p at *
      generalize ownOf (l.take k) = own at *
      by_cases p0 : 0 ≤ p
      · have d0 : decide (0 ≤ p) = true := by simpa using p0
        by_cases p1 : p < 96
        · have d1 : decide (p < 96) = true := by simpa using p1
          by_cases p2 : k < 60
          · have d2 : decide ((k : Int) < 60) = true := by simp; omega
            have E : Hid _ := eh p2 (slot_yes p0 p1)
            clear eh eb e60
            go_wp2_with (at_builtin; refine wpList_append_own _ rfl _ _ 22 rfl W1.heap.size 3 i0 (.int .i64 0) 1 8 Tryd.underlying22 hinf hz0 hz1 hz2 rfl (by decide) _ _ _ rfl (hown.alloc _) ⟨wr.heap.size, 0, none⟩ 1 1 [.int .i64 p] rfl rfl (cell_one_new _ _ _) (by simp [Value.oneCell']) (by omega) (by omega) (by simp; omega) ?_; intro v' w1 hown' hgrow _)
            have hown0 := hown.alloc (.cells #[.int .i64 p] 3)
            have km' := (km.alloc (.cells #[.int .i64 p] 3)).keep hown0 hgrow hsz
            have hB' := (hB.alloc (.cells #[.int .i64 p] 3)).append hown0 (by omega) hgrow
            go_roundg (l.length - (k + 1))
            case measure => omega
            case rel => exact ⟨k + 1, by omega, by omega, by go_num, by rw [E.out]; simpa using hown', km', by have := hgrow.size; simp at this; omega, hB'⟩
          · have d2 : decide ((k : Int) < 60) = false := by simp; omega
            have E : Hid _ := e60 (by omega)
            clear eh eb e60
            go_wp2
            go_roundg (l.length - (k + 1))
            case measure => omega
            case rel => exact ⟨k + 1, by omega, by omega, by go_num, by rw [E.out]; exact hown, km, hw1, hB⟩
        · have d1 : decide (p < 96) = false := by simpa using p1
          have E : Hid _ := eb (slot_no (by omega))
          clear eh eb e60
          go_wp2
          go_roundg (l.length - (k + 1))
          case measure => omega
          case rel => exact ⟨k + 1, by omega, by omega, by go_num, by rw [E.out]; exact hown, km, hw1, hB⟩
      · have d0 : decide (0 ≤ p) = false := by simpa using p0
        have E : Hid _ := eb (slot_no (by omega))
        clear eh eb e60
        go_wp2
        go_roundg (l.length - (k + 1))
        case measure => omega
        case rel => exact ⟨k + 1, by omega, by omega, by go_num, by rw [E.out]; exact hown, km, hw1, hB⟩
    · obtain rfl : k = l.length := by omega
      rw [List.take_length] at hown
      have hol := own_len l
      have hos := own_slots l
      have P2 : Hid _ := back_sorted (ownOf l) hos
      have H := fun v w h => of_any (ownOf l) v w h
      rw [(mOf_all hos).2] at H
      clear hos hr hc hl
      generalize ownOf l = own at *
      generalize mOfM own = x at *
      have hlm := slots_len m
      have hlx := slots_len x
      have H2 := fun v w h => of_any (mSlots m) v w h
      rw [(back_of m).1, (back_of m).2] at H2
      have hs1 := own_sl hown (by omega)
      go_wp2_with (first
        | (go_at_call 5; (with_reducible refine Calls.mono (H _ _ hs1) ?_); rintro e W2 ⟨rfl, h2⟩; clear H hs1; have hown2 := (own_ext hown h2).alloc (.cells #[.int .u64 (lo x), .int .u64 (hi x)] 25); have kx := Blk.new' (w := W2) (b := W2.heap.size) (cs := #[.int .u64 (lo x), .int .u64 (hi x)]) (t := 25) rfl; have km2 := (km.ext h2).alloc (.cells #[.int .u64 (lo x), .int .u64 (hi x)] 25); have hB2 := (hB.trans h2).alloc (.cells #[.int .u64 (lo x), .int .u64 (hi x)] 25))
        | (go_at_call 6; (with_reducible refine Calls.mono (sort_own W1.heap.size own.length _ own _ hown2 (by omega)) ?_); rintro e W3 ⟨rfl, hown3, hg3⟩; have kx3 := kx.append hown2 hg3 (by decide); have km3 := km2.keep hown2 hg3 hsz; have hB3 := hB2.append hown2 (by omega) hg3; have cx := kx3.cell)
        | (go_at_call 8; (with_reducible refine Calls.mono (Slots_any x _ (hT.ext hB3)) ?_); rintro e W4 ⟨v2, rfl, hs2, _, h4⟩; have hown4 := own_ext hown3 h4)
        | (go_at_call 9; (with_reducible refine Calls.mono (compact_own W1.heap.size own.length _ (msort own) _ hown4 (by omega)) ?_); rintro e W5 ⟨v3, rfl, hs3, hg5⟩; have hs5 := own_sl (hs2.kept hg5 (own_far hown3 hs2 (Nat.le_refl _))) (by omega); have km5 := (km3.ext h4).keep hown4 hg5 hsz; have hB5 := (hB3.trans h4).append hown4 (by omega) hg5; have He := equal_int _ _ _ _ _ hs5 hs3; rw [P2.out, decide_eq_true (rfl : Lib.compact (msort own) = Lib.compact (msort own))] at He)
        | (go_at_call 7; (with_reducible refine Calls.mono He ?_); rintro e W6 ⟨rfl, h6⟩; have km6 := km5.ext h6; have cm := km6.cell; have hB6 := hB5.trans h6; clear He kx kx3 hs5 hs3)
        | (go_at_call 8; (with_reducible refine Calls.mono (Slots_any m _ (hT.ext hB6)) ?_); rintro e W7 ⟨v7, rfl, hs7, _, h7⟩; have km7 := km6.ext h7; have hB7 := hB6.trans h7; have hS7 := own_sl hs7 (by omega))
        | (go_at_call 5; (with_reducible refine Calls.mono (H2 _ _ hS7) ?_); rintro e W8 ⟨rfl, h8⟩; have km8 := km7.ext h8; have cm8 := km8.cell; have hB8 := hB7.trans h8; have hS8 := hS7.ext h8; clear H2))
      have kq8 := Blk.new' (w := W8) (b := W8.heap.size) (cs := #[.int .u64 (lo (mAnds [m])), .int .u64 (hi (mAnds [m]))]) (t := 25) rfl
      refine named fun WA hWA => ?_
      have kq := Blk.of_eq hWA kq8
      have km9 := Blk.of_eq hWA (km8.alloc (.cells #[.int .u64 (lo (mAnds [m])), .int .u64 (hi (mAnds [m]))] 25))
      have hB9 := Ext.of_eq hWA (hB8.alloc (.cells #[.int .u64 (lo (mAnds [m])), .int .u64 (hi (mAnds [m]))] 25))
      have hS9 : kInt.Sl WA v7 (mSlots m) := by
        have e : WA = _ := hWA
        rw [e]; exact hS8.ext ((Ext.refl _).alloc _)
      have HA := fun v w h => ands_any [m] v w h
      have hq : ∀ w, (binOp .neq 25 (.agg #[.int .u64 (lo (mAnds [m])), .int .u64 (hi (mAnds [m]))]) (.agg #[.int .u64 (lo (mAnds [m])), .int .u64 (hi (mAnds [m]))])).run Tryd.prog w = .ok (.bool false) w := fun w => by rw [mask_neq]; simp
      have hg := mask_guard
      have cq := kq.cell
      have cm9 := km9.cell
      clear hWA kq8 km8 cm8 hB8 hS8 hS7 km7 hB7 h7 hs7 h8 cm km6 hB6 h6 km5 hB5 hs2 hown4 hg5 h4 cx km3 hB3 hown3 hg3 hown2 h2 hB km hown hlx P2
      generalize mAnds [m] = q at *
      refine cut_region (fun a a' w' => Ext WA w' ∧ ∃ g : Nat, a' = ((((((((a.put (some 67) (.int .i64 0)).put (some 68) (.bool false)).put (some 69) (.bool false)).put (some 70) (.agg #[.int .u64 (lo (q)), .int .u64 (hi (q))])).put (some 71) (.agg #[.int .u64 (lo (m)), .int .u64 (hi (m))])).put (some 72) (.slice (some ⟨g, 0, none⟩) 1 1)).put (some 73) (.agg #[.int .u64 (lo (q)), .int .u64 (hi (q))])).put (some 74) (.bool false)).put (some 75) (.bool false)) ?_ ?_
      · intro Q0 hQ0
        refine region_orders [ [0, 1, 2, 3, 4, 5, 6, 7, 8], [0, 1, 2, 4, 3, 5, 6, 7, 8], [0, 1, 2, 4, 5, 3, 6, 7, 8], [0, 1, 2, 4, 5, 6, 3, 7, 8] ] (by kernel_rfl) (by kernel_rfl) ?_
        intro o ho
        simp only [List.mem_cons, List.not_mem_nil, or_false] at ho
        have hd : Ext WA WA.drew := Ext.drew' (Below.refl _ _)
        generalize WA.drew = WD at *
        have cq2 := (kq.ext hd).cell
        have cm2 := (km9.ext hd).cell
        have l1 := (kq.ext hd).lt
        have l2 := (km9.ext hd).lt
        clear cq cm9
        rcases ho with rfl | rfl | rfl | rfl
        all_goals simp only [List.filterMap_cons, List.filterMap_nil, List.getElem?_cons_succ, List.getElem?_cons_zero]
        all_goals go_wp2_with (go_at_call 10; refine (HA _ _ (litm_sl m (Blk.new' (by simp)))).mono ?_; rintro e w' ⟨rfl, hx⟩; have cq3 := ((kq.ext hd).alloc _).ext hx |>.cell)
        all_goals refine ⟨(hd.trans ((Ext.refl _).alloc _)).trans hx, WD.heap.size, ?_⟩
        all_goals simp only [Act.put, List.setIfInBounds_toArray, List.set_cons_succ, List.set_cons_zero]
      · intro a' WC hR
        obtain ⟨hx, g, rfl⟩ := hR
        simp only [Act.put, List.setIfInBounds_toArray, List.set_cons_succ, List.set_cons_zero]
        have km := km9.ext hx
        have hB := hB9.trans hx
        have hS := hS9.ext hx
        clear hq HA cq cm9 km9 hB9 hS9 hx kq
        obtain ⟨a7, c7, rfl, hc7, hl7, hr7⟩ := hS.form
        clear hS hc7
        go_wp2
        go_loopg [12, 78] (mSlots m).length (fun gg s12 s78 wr => ∃ k : Nat, k ≤ (mSlots m).length ∧ (mSlots m).length - k ≤ gg ∧ s78 = .int .i64 k ∧ s12 = .int .i64 (atOf m k) ∧ Blk wr w.heap.size #[.int .u64 (lo m), .int .u64 (hi m)] 25 ∧ Ext w wr ∧ Ext WC wr)
        case atStart => exact ⟨0, Nat.zero_le _, by omega, rfl, rfl, km, hB, Ext.refl _⟩
        case round =>
          clear km hB
          obtain ⟨k, hk, hg, rfl, rfl, km, hB, hC⟩ := hrel
          by_cases hlt : k < (mSlots m).length
          · obtain ⟨p0, p1, nb, nn, pl, hs, q0, q1, nx⟩ := back_at m k hlt
            obtain ⟨b, off, cs, ha, rfl, hcell⟩ := (hr7.ext hC).at_ hlt
            have hx := run_at (P := Tryd.prog) 22 3 1 Tryd.underlying22 Tryd.sizeOf3 (c := c7) ha hlt
            have c0 : wr.cell? ⟨b, off + k * 1, none⟩ = _ := hcell 0 _ rfl
            rw [Nat.mul_one] at hx c0
            clear hcell ha
            have HN := fun W h => Next_any m (atOf m k) p0 p1 W h
            rw [nb, nn] at HN
            have HP := fun W => place_any m (mSlots m)[k] q0 (by omega) W
            rw [pl] at HP
            have HH := fun W => has_any m (mSlots m)[k] W
            rw [hs] at HH
            have NX : Hid _ := nx
            clear nb nn pl hs nx
            generalize (mSlots m)[k] = p at *
            generalize atOf m k = at0 at *
            have cm := km.cell
            go_wp2_with (first
              | (go_at_call 11; refine (HN _ (hT.ext hB)).mono ?_; rintro e V1 ⟨rfl, n1⟩; have k1 := km.ext n1; have c1 := k1.cell)
              | (go_at_call 12; refine (HP _).mono ?_; rintro e V2 ⟨rfl, n2⟩; have k2 := k1.ext n2; have c2 := k2.cell)
              | (go_at_call 13; refine (HH _).mono ?_; rintro e V3 ⟨rfl, n3⟩))
            go_roundg ((mSlots m).length - (k + 1))
            case measure => omega
            case rel => exact ⟨k + 1, by omega, by omega, by go_num, by rw [NX.out], k2.ext n3, ((hB.trans n1).trans n2).trans n3, ((hC.trans n1).trans n2).trans n3⟩
          · obtain rfl : k = (mSlots m).length := by omega
            obtain ⟨p0, p1, nb, pl⟩ := back_end m
            have HN := fun W h => Next_any m (atOf m (mSlots m).length) p0 p1 W h
            rw [nb] at HN
            have HP := fun W => place_any m 96 (by omega) (by omega) W
            rw [pl] at HP
            clear nb pl
            generalize mNextN m (atOf m (mSlots m).length) = nx at *
            generalize atOf m (mSlots m).length = at0 at *
            generalize (mSlots m).length = n at *
            have cm := km.cell
            go_wp2_with (first
              | (go_at_call 11; refine (HN _ (hT.ext hB)).mono ?_; rintro e V1 ⟨rfl, n1⟩; have k1 := km.ext n1; have c1 := k1.cell)
              | (go_at_call 12; refine (HP _).mono ?_; rintro e V2 ⟨rfl, n2⟩))
            go_ret
            exact ⟨rfl, (hB.trans n1).trans n2⟩

end Go.Proofs.YtiolpknfdabijaaDoor
