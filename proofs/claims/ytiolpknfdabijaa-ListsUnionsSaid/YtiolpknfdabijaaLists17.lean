/- The law ListsUnions: the walk. -/
import Derived.Test.YtiolpknfdabijaaProg
import Derived.Test.YtiolpknfdabijaaLib
import Derived.Test.YtiolpknfdabijaaPure
import Derived.Test.YtiolpknfdabijaaMask
import Derived.Test.YtiolpknfdabijaaMask2
import Derived.Test.YtiolpknfdabijaaVec
import Derived.Test.YtiolpknfdabijaaVec2
import Derived.Test.YtiolpknfdabijaaLib2
import Derived.Test.YtiolpknfdabijaaLists
import Derived.Test.YtiolpknfdabijaaLists2
import Derived.Test.YtiolpknfdabijaaLists3
import Derived.Test.YtiolpknfdabijaaLists11
import Derived.Test.YtiolpknfdabijaaLists12
import Derived.Test.YtiolpknfdabijaaLists15
import Derived.Test.YtiolpknfdabijaaLists16
import Derived.Test.YtiolpknfdabijaaApp
import Derived.Test.YtiolpknfdabijaaReg
set_option linter.unusedVariables false
set_option maxRecDepth 4000
set_option linter.unusedSimpArgs false
namespace Go.Proofs.Ytiolpknfdabijaa
open Go.RowKit


set_option maxRecDepth 100000 in
set_option maxHeartbeats 8000000 in
theorem lunions_any (l : Lists) (xs ys : List Int) (cv mv xv yv : Value) (w : World) (hc : kVec.Sl w cv l.cents) (hm : kMask.Sl w mv l.masks) (hx : kInt.Sl w xv xs) (hy : kInt.Sl w yv ys) :
    Calls Try.prog 3 #[.agg #[cv, mv], xv, yv] w fun e w' => e = .returned (.bool true) ∧ Ext w w' := by
  have HO := fun W (h : Ext w W) => over_any l cv mv W (hc.ext h) (hm.ext h)
  have HU := fun (zs : List Int) W pv (h : Ext w W) (hz : zs.length ≤ 1000000) (hp : kInt.Sl W pv zs) => lunion_any l zs cv mv pv W (hc.ext h) (hm.ext h) hp hz
  have PB := @union_bad l xs ys
  have PG := @union_good l xs ys
  have hx0 := hx
  have hy0 := hy
  obtain ⟨a1, c1, rfl, _, hcl, _⟩ := hc.form
  obtain ⟨a2, c2, rfl, _, hml, hmr⟩ := hm.form
  obtain ⟨a3, c3, rfl, _, hxl, hxr⟩ := hx.form
  obtain ⟨a4, c4, rfl, _, hyl, hyr⟩ := hy.form
  have hsx := Src.of (d := kInt) (enc := Value.int .i64) rfl (fun w x v h => by simpa [kInt, Kd.plain] using h) (fun _ => rfl) hxr
  have hsy := Src.of (d := kInt) (enc := Value.int .i64) rfl (fun w x v h => by simpa [kInt, Kd.plain] using h) (fun _ => rfl) hyr
  obtain ⟨i0, hinf, hz0, hz1, hz2⟩ := info_parts int_info
  have hmax : 140737488355328 ≤ maxLen := by decide
  have hz : Hid _ := hz0
  have hy1 : Hid _ := hz1
  have hy2 : Hid _ := hz2
  clear hc hm hx hy hz0 hz1 hz2 hmr hxr hyr
  generalize l.cents.length = n1 at *
  generalize l.masks.length = n2 at *
  have kl0 := Blk.new' (w := w) (b := w.heap.size) (cs := #[.slice a1 n1 c1, .slice a2 n2 c2]) (t := 25) rfl
  have HK := wakes13_any
  generalize ovL l = ov at *
  cases ov with
  | true =>
    clear PB PG HU
    generalize xs.length = n3 at *
    generalize ys.length = n4 at *
    go_enter Try.func3, Try.ntmps3
    go_wp2_with (first | (go_at_call 7; refine (HK _).mono ?_; rintro e W1 ⟨rfl, h1⟩; have cl := (kl0.ext h1).cell; have ll := (kl0.ext h1).lt) | (go_at_call 8; refine (HO _ (((Ext.refl _).alloc _).trans h1)).mono ?_; rintro e W2 ⟨rfl, h2⟩))
    go_ret
    exact ⟨rfl, (((Ext.refl _).alloc _).trans h1).trans h2⟩
  | false =>
    by_cases hn3 : 40 < xs.length
    · have d3 : decide ((40 : Int) < (xs.length : Int)) = true := by simp; omega
      clear PB PG HU hn3
      generalize xs.length = n3 at *
      generalize ys.length = n4 at *
      go_enter Try.func3, Try.ntmps3
      go_wp2_with (first | (go_at_call 7; refine (HK _).mono ?_; rintro e W1 ⟨rfl, h1⟩; have cl := (kl0.ext h1).cell; have ll := (kl0.ext h1).lt) | (go_at_call 8; refine (HO _ (((Ext.refl _).alloc _).trans h1)).mono ?_; rintro e W2 ⟨rfl, h2⟩))
      go_ret
      exact ⟨rfl, (((Ext.refl _).alloc _).trans h1).trans h2⟩
    · have d3 : decide ((40 : Int) < (xs.length : Int)) = false := by simp; omega
      by_cases hn4 : 40 < ys.length
      · have d4 : decide ((40 : Int) < (ys.length : Int)) = true := by simp; omega
        clear PB PG HU hn3 hn4
        generalize xs.length = n3 at *
        generalize ys.length = n4 at *
        go_enter Try.func3, Try.ntmps3
        go_wp2_with (first | (go_at_call 7; refine (HK _).mono ?_; rintro e W1 ⟨rfl, h1⟩; have cl := (kl0.ext h1).cell; have ll := (kl0.ext h1).lt) | (go_at_call 8; refine (HO _ (((Ext.refl _).alloc _).trans h1)).mono ?_; rintro e W2 ⟨rfl, h2⟩))
        go_ret
        exact ⟨rfl, (((Ext.refl _).alloc _).trans h1).trans h2⟩
      · have d4 : decide ((40 : Int) < (ys.length : Int)) = false := by simp; omega
        have HUb := fun W pv (h : Ext w W) (hp : kInt.Sl W pv (xs ++ ys)) => HU (xs ++ ys) W pv h (by rw [List.length_append]; omega) hp
        have HUx := fun W (h : Ext w W) => HU xs W _ h (by omega) (hx0.ext h)
        have HUy := fun W (h : Ext w W) => HU ys W _ h (by omega) (hy0.ext h)
        have HUt := fun W pv (h : Ext w W) (hp : kInt.Sl W pv (xs ++ xs)) => HU (xs ++ xs) W pv h (by rw [List.length_append]; omega) hp
        have PB : Hid _ := PB
        have PG : Hid _ := PG
        clear HU
        generalize lsUnionM l (xs ++ ys) = mb at *
        generalize lsUnionE l (xs ++ ys) = eb at *
        generalize lsUnionM l (xs ++ xs) = mt at *
        generalize lsUnionE l (xs ++ xs) = et at *
        generalize lsUnionM l xs = mx at *
        generalize lsUnionE l xs = ex at *
        generalize lsUnionM l ys = my at *
        generalize lsUnionE l ys = ey at *
        go_enter Try.func3, Try.ntmps3
        go_wp2_with (first | (go_at_call 7; refine (HK _).mono ?_; rintro e W1 ⟨rfl, h1⟩; have cl := (kl0.ext h1).cell; have ll := (kl0.ext h1).lt) | (go_at_call 8; refine (HO _ (((Ext.refl _).alloc _).trans h1)).mono ?_; rintro e WA ⟨rfl, h2⟩))
        have hA : Ext w WA := (((Ext.refl _).alloc _).trans h1).trans h2
        have kl := (kl0.ext h1).ext h2
        clear kl0 h1 h2 cl ll HK HO d3 d4
        have cl := kl.cell
        have ll := kl.lt
        have hsxA := hsx.ext hA
        have hsyA := hsy.ext hA
        have HUbA := fun W pv (h : Ext WA W) hp => HUb W pv (hA.trans h) hp
        have HUtA := fun W pv (h : Ext WA W) hp => HUt W pv (hA.trans h) hp
        refine cut_reg (fun a' a'' w' => ∃ (g : Nat) (v1 v2 : Value) (B : Nat), (Blk w' B #[.int .u64 (lo mb), .int .u64 (hi mb)] 31 ∧ Ext WA w') ∧ a'' = ((((((((((((a'.put (some 30) (.agg #[.slice a1 n1 c1, .slice a2 n2 c2])).put (some 32) (.slice a3 xs.length c3)).put (some 34) (.slice a4 ys.length c4)).put (some 31) (.slice (some ⟨g, 0, none⟩) 0 0)).put (some 33) (v1)).put (some 35) (v2)).put (some 36) (.tuple #[.agg #[.int .u64 (lo (mb)), .int .u64 (hi (mb))], .int .i64 eb])).put (some 29) (.tuple #[.agg #[.int .u64 (lo (mb)), .int .u64 (hi (mb))], .int .i64 eb])).put (some 37) (.agg #[.int .u64 (lo (mb)), .int .u64 (hi (mb))])).put (some 38) (.int .i64 eb)).put (some 7) (.pointer (some ⟨B, 0, none⟩))).put (some 8) (.int .i64 eb))) ?_ ?_
        · refine region_regH (S := Ext WA) (by kernel_rfl) (fun WB hWB => ?_)
          have hS := hWB
          refine regH_op 0 rfl (by kernel_rfl) ?_ hS ?_
          focus (go_simp; done)
          apply Exists.intro
          refine ⟨fun W hW => ?_, ?_⟩
          focus (have hc := Ext.cellR hW; go_simp; exact rfl)
          simp only [Act.put, List.setIfInBounds_toArray, List.set_cons_succ, List.set_cons_zero]
          refine regH_op 2 rfl (by kernel_rfl) ?_ hS ?_
          focus (go_simp; done)
          apply Exists.intro
          refine ⟨fun W hW => ?_, ?_⟩
          focus (have hc := Ext.cellR hW; go_simp; exact rfl)
          simp only [Act.put, List.setIfInBounds_toArray, List.set_cons_succ, List.set_cons_zero]
          refine regH_op 4 rfl (by kernel_rfl) ?_ hS ?_
          focus (go_simp; done)
          apply Exists.intro
          refine ⟨fun W hW => ?_, ?_⟩
          focus (have hc := Ext.cellR hW; go_simp; exact rfl)
          simp only [Act.put, List.setIfInBounds_toArray, List.set_cons_succ, List.set_cons_zero]
          refine regH_all2 1 10 (by kernel_rfl) rfl rfl ?_ ?_
          · go_wp2
            refine ⟨rfl, hS.alloc _, ?_⟩
            refine regH_named fun X1 hNew => ?_
            have ho : (X1).ownsRow WA.heap.size 3 1 (.slice (some ⟨WB.heap.size, 0, none⟩) 0 0) 0 [] := by
              have e : X1 = _ := hNew
              rw [e]; exact World.ownsRow_lit WB #[] 0 hS.le (by omega) rfl
            skip
            replace hS : Ext WA X1 := Ext.of_eq hNew (hS.alloc _)
            clear hNew
            refine regH_all2 3 10 (by kernel_rfl) rfl rfl ?_ ?_
            · refine wpList_append_src rfl _ _ _ rfl WA.heap.size 3 i0 (.int .i64 0) 1 8 Try.underlying26 hinf hz.out hy1.out hy2.out rfl (by decide) _ 0 [] rfl ho _ _ _ (xs.map (Value.int .i64)) rfl (hsxA.ext hS) (by omega) (by omega) hS.le ?_
              intro v1 X2 ho1 hg1
              rw [Nat.zero_add, List.nil_append] at ho1
              refine ⟨rfl, hS.append ho (Nat.le_refl _) hg1, ?_⟩
              skip
              replace hS := hS.append ho (Nat.le_refl _) hg1
              clear ho hg1
              simp only [Act.put, List.setIfInBounds_toArray, List.set_cons_succ, List.set_cons_zero]
              refine regH_all2 5 10 (by kernel_rfl) rfl rfl ?_ ?_
              · refine wpList_append_src rfl _ _ _ rfl WA.heap.size 3 i0 (.int .i64 0) 1 8 Try.underlying26 hinf hz.out hy1.out hy2.out rfl (by decide) _ _ _ rfl ho1 _ _ _ (ys.map (Value.int .i64)) rfl (hsyA.ext hS) (by omega) (by omega) hS.le ?_
                intro v2 X3 ho2 hg2
                refine ⟨rfl, hS.append ho1 (Nat.le_refl _) hg2, ?_⟩
                skip
                replace hS := hS.append ho1 (Nat.le_refl _) hg2
                clear ho1 hg2
                simp only [Act.put, List.setIfInBounds_toArray, List.set_cons_succ, List.set_cons_zero]
                refine regH_all2 6 10 (by kernel_rfl) rfl rfl ?_ ?_
                · go_wp2_with (go_at_call 9; refine (HUbA _ _ hS (own_ints (by rw [List.map_append]; exact ho2) (by omega))).mono ?_; rintro e X4 ⟨rfl, hx⟩)
                  refine ⟨rfl, hS.trans hx, ?_⟩
                  skip
                  replace hS := hS.trans hx
                  clear hx ho2
                  refine regH_op 7 rfl (by kernel_rfl) ?_ hS ?_
                  focus (go_simp; done)
                  apply Exists.intro
                  refine ⟨fun W hW => ?_, ?_⟩
                  focus (have hc := Ext.cellR hW; go_simp; exact rfl)
                  simp only [Act.put, List.setIfInBounds_toArray, List.set_cons_succ, List.set_cons_zero]
                  refine regH_op 8 rfl (by kernel_rfl) ?_ hS ?_
                  focus (go_simp; done)
                  apply Exists.intro
                  refine ⟨fun W hW => ?_, ?_⟩
                  focus (have hc := Ext.cellR hW; go_simp; exact rfl)
                  simp only [Act.put, List.setIfInBounds_toArray, List.set_cons_succ, List.set_cons_zero]
                  refine regH_op 9 rfl (by kernel_rfl) ?_ hS ?_
                  focus (go_simp; done)
                  apply Exists.intro
                  refine ⟨fun W hW => ?_, ?_⟩
                  focus (have hc := Ext.cellR hW; go_simp; exact rfl)
                  simp only [Act.put, List.setIfInBounds_toArray, List.set_cons_succ, List.set_cons_zero]
                  refine regH_all1 10 (by kernel_rfl) rfl ?_
                  go_wp2
                  refine ⟨rfl, hS.alloc _, ?_⟩
                  refine regH_named fun X5 hNew => ?_
                  have kB : Blk X5 X4.heap.size #[.int .u64 0, .int .u64 0] 31 := Blk.of_eq hNew (Blk.new' rfl)
                  have lB : WA.heap.size ≤ X4.heap.size := hS.le
                  replace hS : Ext WA X5 := Ext.of_eq hNew (hS.alloc _)
                  clear hNew
                  refine regH_all1 11 (by kernel_rfl) rfl ?_
                  have cB := kB.cell; have fB := kB.frozen
                  go_wp2
                  have hS2 := (hS.set (p := ⟨X4.heap.size, 0, none⟩) lB (.int .u64 (lo mb))).set (p := ⟨X4.heap.size, 1, none⟩) lB (.int .u64 (hi mb))
                  refine ⟨rfl, hS2, ?_⟩
                  have kB2 := (kB.set_ 0 (.int .u64 (lo mb))).set_ 1 (.int .u64 (hi mb))
                  refine regH_named fun X6 hNew => ?_
                  replace kB : Blk X6 _ _ _ := Blk.of_eq hNew kB2
                  replace hS : Ext WA X6 := Ext.of_eq hNew hS2
                  clear hNew cB fB hS2 kB2
                  refine regH_op 12 rfl (by kernel_rfl) ?_ hS ?_
                  focus (go_simp; done)
                  apply Exists.intro
                  refine ⟨fun W hW => ?_, ?_⟩
                  focus (have hc := Ext.cellR hW; go_simp; exact rfl)
                  simp only [Act.put, List.setIfInBounds_toArray, List.set_cons_succ, List.set_cons_zero]
                  refine regH_done (by kernel_rfl) ⟨WB.heap.size, v1, v2, X4.heap.size, ⟨kB, hS⟩, ?_⟩
                  simp only [Act.put, List.setIfInBounds_toArray, List.set_cons_succ, List.set_cons_zero]
                · go_wp2
                  refine ⟨rfl, hS.alloc _, ?_⟩
                  refine regH_named fun X4 hNew => ?_
                  have kB : Blk X4 X3.heap.size #[.int .u64 0, .int .u64 0] 31 := Blk.of_eq hNew (Blk.new' rfl)
                  have lB : WA.heap.size ≤ X3.heap.size := hS.le
                  replace ho2 := ho2.alloc (.cells #[.int .u64 0, .int .u64 0] 31)
                  rw [← (show X4 = _ from hNew)] at ho2
                  replace hS : Ext WA X4 := Ext.of_eq hNew (hS.alloc _)
                  clear hNew
                  refine regH_all1 6 (by kernel_rfl) rfl ?_
                  go_wp2_with (go_at_call 9; refine (HUbA _ _ hS (own_ints (by rw [List.map_append]; exact ho2) (by omega))).mono ?_; rintro e X5 ⟨rfl, hx⟩)
                  refine ⟨rfl, hS.trans hx, ?_⟩
                  replace kB := kB.ext hx
                  replace hS := hS.trans hx
                  clear hx ho2
                  refine regH_op 7 rfl (by kernel_rfl) ?_ hS ?_
                  focus (go_simp; done)
                  apply Exists.intro
                  refine ⟨fun W hW => ?_, ?_⟩
                  focus (have hc := Ext.cellR hW; go_simp; exact rfl)
                  simp only [Act.put, List.setIfInBounds_toArray, List.set_cons_succ, List.set_cons_zero]
                  refine regH_op 8 rfl (by kernel_rfl) ?_ hS ?_
                  focus (go_simp; done)
                  apply Exists.intro
                  refine ⟨fun W hW => ?_, ?_⟩
                  focus (have hc := Ext.cellR hW; go_simp; exact rfl)
                  simp only [Act.put, List.setIfInBounds_toArray, List.set_cons_succ, List.set_cons_zero]
                  refine regH_op 9 rfl (by kernel_rfl) ?_ hS ?_
                  focus (go_simp; done)
                  apply Exists.intro
                  refine ⟨fun W hW => ?_, ?_⟩
                  focus (have hc := Ext.cellR hW; go_simp; exact rfl)
                  simp only [Act.put, List.setIfInBounds_toArray, List.set_cons_succ, List.set_cons_zero]
                  refine regH_all1 11 (by kernel_rfl) rfl ?_
                  have cB := kB.cell; have fB := kB.frozen
                  go_wp2
                  have hS2 := (hS.set (p := ⟨X3.heap.size, 0, none⟩) lB (.int .u64 (lo mb))).set (p := ⟨X3.heap.size, 1, none⟩) lB (.int .u64 (hi mb))
                  refine ⟨rfl, hS2, ?_⟩
                  have kB2 := (kB.set_ 0 (.int .u64 (lo mb))).set_ 1 (.int .u64 (hi mb))
                  refine regH_named fun X6 hNew => ?_
                  replace kB : Blk X6 _ _ _ := Blk.of_eq hNew kB2
                  replace hS : Ext WA X6 := Ext.of_eq hNew hS2
                  clear hNew cB fB hS2 kB2
                  refine regH_op 12 rfl (by kernel_rfl) ?_ hS ?_
                  focus (go_simp; done)
                  apply Exists.intro
                  refine ⟨fun W hW => ?_, ?_⟩
                  focus (have hc := Ext.cellR hW; go_simp; exact rfl)
                  simp only [Act.put, List.setIfInBounds_toArray, List.set_cons_succ, List.set_cons_zero]
                  refine regH_done (by kernel_rfl) ⟨WB.heap.size, v1, v2, X3.heap.size, ⟨kB, hS⟩, ?_⟩
                  simp only [Act.put, List.setIfInBounds_toArray, List.set_cons_succ, List.set_cons_zero]
              · go_wp2
                refine ⟨rfl, hS.alloc _, ?_⟩
                refine regH_named fun X3 hNew => ?_
                have kB : Blk X3 X2.heap.size #[.int .u64 0, .int .u64 0] 31 := Blk.of_eq hNew (Blk.new' rfl)
                have lB : WA.heap.size ≤ X2.heap.size := hS.le
                replace ho1 := ho1.alloc (.cells #[.int .u64 0, .int .u64 0] 31)
                rw [← (show X3 = _ from hNew)] at ho1
                replace hS : Ext WA X3 := Ext.of_eq hNew (hS.alloc _)
                clear hNew
                refine regH_all1 5 (by kernel_rfl) rfl ?_
                refine wpList_append_src rfl _ _ _ rfl WA.heap.size 3 i0 (.int .i64 0) 1 8 Try.underlying26 hinf hz.out hy1.out hy2.out rfl (by decide) _ _ _ rfl ho1 _ _ _ (ys.map (Value.int .i64)) rfl (hsyA.ext hS) (by omega) (by omega) hS.le ?_
                intro v2 X4 ho2 hg2
                refine ⟨rfl, hS.append ho1 (Nat.le_refl _) hg2, ?_⟩
                replace kB := kB.append ho1 hg2 (by decide)
                replace hS := hS.append ho1 (Nat.le_refl _) hg2
                clear ho1 hg2
                simp only [Act.put, List.setIfInBounds_toArray, List.set_cons_succ, List.set_cons_zero]
                refine regH_all1 6 (by kernel_rfl) rfl ?_
                go_wp2_with (go_at_call 9; refine (HUbA _ _ hS (own_ints (by rw [List.map_append]; exact ho2) (by omega))).mono ?_; rintro e X5 ⟨rfl, hx⟩)
                refine ⟨rfl, hS.trans hx, ?_⟩
                replace kB := kB.ext hx
                replace hS := hS.trans hx
                clear hx ho2
                refine regH_op 7 rfl (by kernel_rfl) ?_ hS ?_
                focus (go_simp; done)
                apply Exists.intro
                refine ⟨fun W hW => ?_, ?_⟩
                focus (have hc := Ext.cellR hW; go_simp; exact rfl)
                simp only [Act.put, List.setIfInBounds_toArray, List.set_cons_succ, List.set_cons_zero]
                refine regH_op 8 rfl (by kernel_rfl) ?_ hS ?_
                focus (go_simp; done)
                apply Exists.intro
                refine ⟨fun W hW => ?_, ?_⟩
                focus (have hc := Ext.cellR hW; go_simp; exact rfl)
                simp only [Act.put, List.setIfInBounds_toArray, List.set_cons_succ, List.set_cons_zero]
                refine regH_op 9 rfl (by kernel_rfl) ?_ hS ?_
                focus (go_simp; done)
                apply Exists.intro
                refine ⟨fun W hW => ?_, ?_⟩
                focus (have hc := Ext.cellR hW; go_simp; exact rfl)
                simp only [Act.put, List.setIfInBounds_toArray, List.set_cons_succ, List.set_cons_zero]
                refine regH_all1 11 (by kernel_rfl) rfl ?_
                have cB := kB.cell; have fB := kB.frozen
                go_wp2
                have hS2 := (hS.set (p := ⟨X2.heap.size, 0, none⟩) lB (.int .u64 (lo mb))).set (p := ⟨X2.heap.size, 1, none⟩) lB (.int .u64 (hi mb))
                refine ⟨rfl, hS2, ?_⟩
                have kB2 := (kB.set_ 0 (.int .u64 (lo mb))).set_ 1 (.int .u64 (hi mb))
                refine regH_named fun X6 hNew => ?_
                replace kB : Blk X6 _ _ _ := Blk.of_eq hNew kB2
                replace hS : Ext WA X6 := Ext.of_eq hNew hS2
                clear hNew cB fB hS2 kB2
                refine regH_op 12 rfl (by kernel_rfl) ?_ hS ?_
                focus (go_simp; done)
                apply Exists.intro
                refine ⟨fun W hW => ?_, ?_⟩
                focus (have hc := Ext.cellR hW; go_simp; exact rfl)
                simp only [Act.put, List.setIfInBounds_toArray, List.set_cons_succ, List.set_cons_zero]
                refine regH_done (by kernel_rfl) ⟨WB.heap.size, v1, v2, X2.heap.size, ⟨kB, hS⟩, ?_⟩
                simp only [Act.put, List.setIfInBounds_toArray, List.set_cons_succ, List.set_cons_zero]
            · go_wp2
              refine ⟨rfl, hS.alloc _, ?_⟩
              refine regH_named fun X2 hNew => ?_
              have kB : Blk X2 X1.heap.size #[.int .u64 0, .int .u64 0] 31 := Blk.of_eq hNew (Blk.new' rfl)
              have lB : WA.heap.size ≤ X1.heap.size := hS.le
              replace ho := ho.alloc (.cells #[.int .u64 0, .int .u64 0] 31)
              rw [← (show X2 = _ from hNew)] at ho
              replace hS : Ext WA X2 := Ext.of_eq hNew (hS.alloc _)
              clear hNew
              refine regH_all1 3 (by kernel_rfl) rfl ?_
              refine wpList_append_src rfl _ _ _ rfl WA.heap.size 3 i0 (.int .i64 0) 1 8 Try.underlying26 hinf hz.out hy1.out hy2.out rfl (by decide) _ 0 [] rfl ho _ _ _ (xs.map (Value.int .i64)) rfl (hsxA.ext hS) (by omega) (by omega) hS.le ?_
              intro v1 X3 ho1 hg1
              rw [Nat.zero_add, List.nil_append] at ho1
              refine ⟨rfl, hS.append ho (Nat.le_refl _) hg1, ?_⟩
              replace kB := kB.append ho hg1 (by decide)
              replace hS := hS.append ho (Nat.le_refl _) hg1
              clear ho hg1
              simp only [Act.put, List.setIfInBounds_toArray, List.set_cons_succ, List.set_cons_zero]
              refine regH_all1 5 (by kernel_rfl) rfl ?_
              refine wpList_append_src rfl _ _ _ rfl WA.heap.size 3 i0 (.int .i64 0) 1 8 Try.underlying26 hinf hz.out hy1.out hy2.out rfl (by decide) _ _ _ rfl ho1 _ _ _ (ys.map (Value.int .i64)) rfl (hsyA.ext hS) (by omega) (by omega) hS.le ?_
              intro v2 X4 ho2 hg2
              refine ⟨rfl, hS.append ho1 (Nat.le_refl _) hg2, ?_⟩
              replace kB := kB.append ho1 hg2 (by decide)
              replace hS := hS.append ho1 (Nat.le_refl _) hg2
              clear ho1 hg2
              simp only [Act.put, List.setIfInBounds_toArray, List.set_cons_succ, List.set_cons_zero]
              refine regH_all1 6 (by kernel_rfl) rfl ?_
              go_wp2_with (go_at_call 9; refine (HUbA _ _ hS (own_ints (by rw [List.map_append]; exact ho2) (by omega))).mono ?_; rintro e X5 ⟨rfl, hx⟩)
              refine ⟨rfl, hS.trans hx, ?_⟩
              replace kB := kB.ext hx
              replace hS := hS.trans hx
              clear hx ho2
              refine regH_op 7 rfl (by kernel_rfl) ?_ hS ?_
              focus (go_simp; done)
              apply Exists.intro
              refine ⟨fun W hW => ?_, ?_⟩
              focus (have hc := Ext.cellR hW; go_simp; exact rfl)
              simp only [Act.put, List.setIfInBounds_toArray, List.set_cons_succ, List.set_cons_zero]
              refine regH_op 8 rfl (by kernel_rfl) ?_ hS ?_
              focus (go_simp; done)
              apply Exists.intro
              refine ⟨fun W hW => ?_, ?_⟩
              focus (have hc := Ext.cellR hW; go_simp; exact rfl)
              simp only [Act.put, List.setIfInBounds_toArray, List.set_cons_succ, List.set_cons_zero]
              refine regH_op 9 rfl (by kernel_rfl) ?_ hS ?_
              focus (go_simp; done)
              apply Exists.intro
              refine ⟨fun W hW => ?_, ?_⟩
              focus (have hc := Ext.cellR hW; go_simp; exact rfl)
              simp only [Act.put, List.setIfInBounds_toArray, List.set_cons_succ, List.set_cons_zero]
              refine regH_all1 11 (by kernel_rfl) rfl ?_
              have cB := kB.cell; have fB := kB.frozen
              go_wp2
              have hS2 := (hS.set (p := ⟨X1.heap.size, 0, none⟩) lB (.int .u64 (lo mb))).set (p := ⟨X1.heap.size, 1, none⟩) lB (.int .u64 (hi mb))
              refine ⟨rfl, hS2, ?_⟩
              have kB2 := (kB.set_ 0 (.int .u64 (lo mb))).set_ 1 (.int .u64 (hi mb))
              refine regH_named fun X6 hNew => ?_
              replace kB : Blk X6 _ _ _ := Blk.of_eq hNew kB2
              replace hS : Ext WA X6 := Ext.of_eq hNew hS2
              clear hNew cB fB hS2 kB2
              refine regH_op 12 rfl (by kernel_rfl) ?_ hS ?_
              focus (go_simp; done)
              apply Exists.intro
              refine ⟨fun W hW => ?_, ?_⟩
              focus (have hc := Ext.cellR hW; go_simp; exact rfl)
              simp only [Act.put, List.setIfInBounds_toArray, List.set_cons_succ, List.set_cons_zero]
              refine regH_done (by kernel_rfl) ⟨WB.heap.size, v1, v2, X1.heap.size, ⟨kB, hS⟩, ?_⟩
              simp only [Act.put, List.setIfInBounds_toArray, List.set_cons_succ, List.set_cons_zero]
          · go_wp2
            refine ⟨rfl, hS.alloc _, ?_⟩
            refine regH_named fun X1 hNew => ?_
            have kB : Blk X1 WB.heap.size #[.int .u64 0, .int .u64 0] 31 := Blk.of_eq hNew (Blk.new' rfl)
            have lB : WA.heap.size ≤ WB.heap.size := hS.le
            replace hS : Ext WA X1 := Ext.of_eq hNew (hS.alloc _)
            clear hNew
            refine regH_all1 1 (by kernel_rfl) rfl ?_
            go_wp2
            refine ⟨rfl, hS.alloc _, ?_⟩
            refine regH_named fun X2 hNew => ?_
            have ho : (X2).ownsRow WA.heap.size 3 1 (.slice (some ⟨X1.heap.size, 0, none⟩) 0 0) 0 [] := by
              have e : X2 = _ := hNew
              rw [e]; exact World.ownsRow_lit X1 #[] 0 hS.le (by omega) rfl
            replace kB := Blk.of_eq hNew (kB.alloc _)
            replace hS : Ext WA X2 := Ext.of_eq hNew (hS.alloc _)
            clear hNew
            refine regH_all1 3 (by kernel_rfl) rfl ?_
            refine wpList_append_src rfl _ _ _ rfl WA.heap.size 3 i0 (.int .i64 0) 1 8 Try.underlying26 hinf hz.out hy1.out hy2.out rfl (by decide) _ 0 [] rfl ho _ _ _ (xs.map (Value.int .i64)) rfl (hsxA.ext hS) (by omega) (by omega) hS.le ?_
            intro v1 X3 ho1 hg1
            rw [Nat.zero_add, List.nil_append] at ho1
            refine ⟨rfl, hS.append ho (Nat.le_refl _) hg1, ?_⟩
            replace kB := kB.append ho hg1 (by decide)
            replace hS := hS.append ho (Nat.le_refl _) hg1
            clear ho hg1
            simp only [Act.put, List.setIfInBounds_toArray, List.set_cons_succ, List.set_cons_zero]
            refine regH_all1 5 (by kernel_rfl) rfl ?_
            refine wpList_append_src rfl _ _ _ rfl WA.heap.size 3 i0 (.int .i64 0) 1 8 Try.underlying26 hinf hz.out hy1.out hy2.out rfl (by decide) _ _ _ rfl ho1 _ _ _ (ys.map (Value.int .i64)) rfl (hsyA.ext hS) (by omega) (by omega) hS.le ?_
            intro v2 X4 ho2 hg2
            refine ⟨rfl, hS.append ho1 (Nat.le_refl _) hg2, ?_⟩
            replace kB := kB.append ho1 hg2 (by decide)
            replace hS := hS.append ho1 (Nat.le_refl _) hg2
            clear ho1 hg2
            simp only [Act.put, List.setIfInBounds_toArray, List.set_cons_succ, List.set_cons_zero]
            refine regH_all1 6 (by kernel_rfl) rfl ?_
            go_wp2_with (go_at_call 9; refine (HUbA _ _ hS (own_ints (by rw [List.map_append]; exact ho2) (by omega))).mono ?_; rintro e X5 ⟨rfl, hx⟩)
            refine ⟨rfl, hS.trans hx, ?_⟩
            replace kB := kB.ext hx
            replace hS := hS.trans hx
            clear hx ho2
            refine regH_op 7 rfl (by kernel_rfl) ?_ hS ?_
            focus (go_simp; done)
            apply Exists.intro
            refine ⟨fun W hW => ?_, ?_⟩
            focus (have hc := Ext.cellR hW; go_simp; exact rfl)
            simp only [Act.put, List.setIfInBounds_toArray, List.set_cons_succ, List.set_cons_zero]
            refine regH_op 8 rfl (by kernel_rfl) ?_ hS ?_
            focus (go_simp; done)
            apply Exists.intro
            refine ⟨fun W hW => ?_, ?_⟩
            focus (have hc := Ext.cellR hW; go_simp; exact rfl)
            simp only [Act.put, List.setIfInBounds_toArray, List.set_cons_succ, List.set_cons_zero]
            refine regH_op 9 rfl (by kernel_rfl) ?_ hS ?_
            focus (go_simp; done)
            apply Exists.intro
            refine ⟨fun W hW => ?_, ?_⟩
            focus (have hc := Ext.cellR hW; go_simp; exact rfl)
            simp only [Act.put, List.setIfInBounds_toArray, List.set_cons_succ, List.set_cons_zero]
            refine regH_all1 11 (by kernel_rfl) rfl ?_
            have cB := kB.cell; have fB := kB.frozen
            go_wp2
            have hS2 := (hS.set (p := ⟨WB.heap.size, 0, none⟩) lB (.int .u64 (lo mb))).set (p := ⟨WB.heap.size, 1, none⟩) lB (.int .u64 (hi mb))
            refine ⟨rfl, hS2, ?_⟩
            have kB2 := (kB.set_ 0 (.int .u64 (lo mb))).set_ 1 (.int .u64 (hi mb))
            refine regH_named fun X6 hNew => ?_
            replace kB : Blk X6 _ _ _ := Blk.of_eq hNew kB2
            replace hS : Ext WA X6 := Ext.of_eq hNew hS2
            clear hNew cB fB hS2 kB2
            refine regH_op 12 rfl (by kernel_rfl) ?_ hS ?_
            focus (go_simp; done)
            apply Exists.intro
            refine ⟨fun W hW => ?_, ?_⟩
            focus (have hc := Ext.cellR hW; go_simp; exact rfl)
            simp only [Act.put, List.setIfInBounds_toArray, List.set_cons_succ, List.set_cons_zero]
            refine regH_done (by kernel_rfl) ⟨X1.heap.size, v1, v2, WB.heap.size, ⟨kB, hS⟩, ?_⟩
            simp only [Act.put, List.setIfInBounds_toArray, List.set_cons_succ, List.set_cons_zero]
        · intro a' WC hR
          obtain ⟨g, v1, v2, B, ⟨kB, hxC⟩, rfl⟩ := hR
          simp only [Act.put, List.setIfInBounds_toArray, List.set_cons_succ, List.set_cons_zero]
          have klC := kl.ext hxC
          have hC := hA.trans hxC
          have clC := klC.cell
          have llC := klC.lt
          clear cl ll HUbA HUtA hsxA hsyA
          by_cases he : eb = 0
          · subst he
            obtain ⟨ex0, ey0, et0, mb0, mt0⟩ := PG.out rfl
            subst ex0 ey0 et0 mt0 mb0
            clear PB PG
            go_wp2_with (first
              | (go_at_call 9; (with_reducible refine Calls.mono (HUx _ hC) ?_); rintro e WD ⟨rfl, hD⟩; have klD := klC.ext hD; have clD := klD.cell; have llD := klD.lt)
              | (go_at_call 9; (with_reducible refine Calls.mono (HUy _ ((hC.trans hD).alloc _)) ?_); rintro e WE ⟨rfl, hE⟩))
            refine named fun WA hWA => ?_
            have kx : Blk WA WD.heap.size #[.int .u64 (lo mt), .int .u64 (hi mt)] 31 := Blk.of_eq hWA (((Blk.new' rfl).ext hE).alloc _)
            have ky : Blk WA WE.heap.size #[.int .u64 (lo my), .int .u64 (hi my)] 31 := Blk.of_eq hWA (Blk.new' rfl)
            have kb : Blk WA B #[.int .u64 (lo (mOr [mt, my])), .int .u64 (hi (mOr [mt, my]))] 31 := Blk.of_eq hWA ((((kB.ext hD).alloc _).ext hE).alloc _)
            replace kl : Blk WA w.heap.size #[.slice a1 n1 c1, .slice a2 n2 c2] 25 := Blk.of_eq hWA (((klD.alloc _).ext hE).alloc _)
            replace hA : Ext w WA := Ext.of_eq hWA ((((hC.trans hD).alloc _).trans hE).alloc _)
            clear hWA clC llC klC hC kB hxC klD clD llD hD hE HUx HUy HUb
            generalize WD.heap.size = BX at *
            generalize WE.heap.size = BY at *
            have cl := kl.cell
            have ll := kl.lt
            have hsxA := hsx.ext hA
            have HUtA := fun W pv (h : Ext WA W) hp => HUt W pv (hA.trans h) hp
            refine cut_reg (fun a' a'' w' => ∃ (g : Nat) (v1 v2 : Value) (B : Nat), (Blk w' B #[.int .u64 (lo mt), .int .u64 (hi mt)] 31 ∧ Ext WA w') ∧ a'' = ((((((((((((a'.put (some 65) (.agg #[.slice a1 n1 c1, .slice a2 n2 c2])).put (some 67) (.slice a3 xs.length c3)).put (some 69) (.slice a3 xs.length c3)).put (some 66) (.slice (some ⟨g, 0, none⟩) 0 0)).put (some 68) (v1)).put (some 70) (v2)).put (some 71) (.tuple #[.agg #[.int .u64 (lo (mt)), .int .u64 (hi (mt))], .int .i64 0])).put (some 64) (.tuple #[.agg #[.int .u64 (lo (mt)), .int .u64 (hi (mt))], .int .i64 0])).put (some 72) (.agg #[.int .u64 (lo (mt)), .int .u64 (hi (mt))])).put (some 73) (.int .i64 0)).put (some 13) (.pointer (some ⟨B, 0, none⟩))).put (some 14) (.int .i64 0))) ?_ ?_
            · refine region_regH (S := Ext WA) (by kernel_rfl) (fun WB hWB => ?_)
              have hS := hWB
              refine regH_op 0 rfl (by kernel_rfl) ?_ hS ?_
              focus (go_simp; done)
              apply Exists.intro
              refine ⟨fun W hW => ?_, ?_⟩
              focus (have hc := Ext.cellR hW; go_simp; exact rfl)
              simp only [Act.put, List.setIfInBounds_toArray, List.set_cons_succ, List.set_cons_zero]
              refine regH_op 2 rfl (by kernel_rfl) ?_ hS ?_
              focus (go_simp; done)
              apply Exists.intro
              refine ⟨fun W hW => ?_, ?_⟩
              focus (have hc := Ext.cellR hW; go_simp; exact rfl)
              simp only [Act.put, List.setIfInBounds_toArray, List.set_cons_succ, List.set_cons_zero]
              refine regH_op 4 rfl (by kernel_rfl) ?_ hS ?_
              focus (go_simp; done)
              apply Exists.intro
              refine ⟨fun W hW => ?_, ?_⟩
              focus (have hc := Ext.cellR hW; go_simp; exact rfl)
              simp only [Act.put, List.setIfInBounds_toArray, List.set_cons_succ, List.set_cons_zero]
              refine regH_all2 1 10 (by kernel_rfl) rfl rfl ?_ ?_
              · go_wp2
                refine ⟨rfl, hS.alloc _, ?_⟩
                refine regH_named fun X1 hNew => ?_
                have ho : (X1).ownsRow WA.heap.size 3 1 (.slice (some ⟨WB.heap.size, 0, none⟩) 0 0) 0 [] := by
                  have e : X1 = _ := hNew
                  rw [e]; exact World.ownsRow_lit WB #[] 0 hS.le (by omega) rfl
                skip
                replace hS : Ext WA X1 := Ext.of_eq hNew (hS.alloc _)
                clear hNew
                refine regH_all2 3 10 (by kernel_rfl) rfl rfl ?_ ?_
                · refine wpList_append_src rfl _ _ _ rfl WA.heap.size 3 i0 (.int .i64 0) 1 8 Try.underlying26 hinf hz.out hy1.out hy2.out rfl (by decide) _ 0 [] rfl ho _ _ _ (xs.map (Value.int .i64)) rfl (hsxA.ext hS) (by omega) (by omega) hS.le ?_
                  intro v1 X2 ho1 hg1
                  rw [Nat.zero_add, List.nil_append] at ho1
                  refine ⟨rfl, hS.append ho (Nat.le_refl _) hg1, ?_⟩
                  skip
                  replace hS := hS.append ho (Nat.le_refl _) hg1
                  clear ho hg1
                  simp only [Act.put, List.setIfInBounds_toArray, List.set_cons_succ, List.set_cons_zero]
                  refine regH_all2 5 10 (by kernel_rfl) rfl rfl ?_ ?_
                  · refine wpList_append_src rfl _ _ _ rfl WA.heap.size 3 i0 (.int .i64 0) 1 8 Try.underlying26 hinf hz.out hy1.out hy2.out rfl (by decide) _ _ _ rfl ho1 _ _ _ (xs.map (Value.int .i64)) rfl (hsxA.ext hS) (by omega) (by omega) hS.le ?_
                    intro v2 X3 ho2 hg2
                    refine ⟨rfl, hS.append ho1 (Nat.le_refl _) hg2, ?_⟩
                    skip
                    replace hS := hS.append ho1 (Nat.le_refl _) hg2
                    clear ho1 hg2
                    simp only [Act.put, List.setIfInBounds_toArray, List.set_cons_succ, List.set_cons_zero]
                    refine regH_all2 6 10 (by kernel_rfl) rfl rfl ?_ ?_
                    · go_wp2_with (go_at_call 9; refine (HUtA _ _ hS (own_ints (by rw [List.map_append]; exact ho2) (by omega))).mono ?_; rintro e X4 ⟨rfl, hx⟩)
                      refine ⟨rfl, hS.trans hx, ?_⟩
                      skip
                      replace hS := hS.trans hx
                      clear hx ho2
                      refine regH_op 7 rfl (by kernel_rfl) ?_ hS ?_
                      focus (go_simp; done)
                      apply Exists.intro
                      refine ⟨fun W hW => ?_, ?_⟩
                      focus (have hc := Ext.cellR hW; go_simp; exact rfl)
                      simp only [Act.put, List.setIfInBounds_toArray, List.set_cons_succ, List.set_cons_zero]
                      refine regH_op 8 rfl (by kernel_rfl) ?_ hS ?_
                      focus (go_simp; done)
                      apply Exists.intro
                      refine ⟨fun W hW => ?_, ?_⟩
                      focus (have hc := Ext.cellR hW; go_simp; exact rfl)
                      simp only [Act.put, List.setIfInBounds_toArray, List.set_cons_succ, List.set_cons_zero]
                      refine regH_op 9 rfl (by kernel_rfl) ?_ hS ?_
                      focus (go_simp; done)
                      apply Exists.intro
                      refine ⟨fun W hW => ?_, ?_⟩
                      focus (have hc := Ext.cellR hW; go_simp; exact rfl)
                      simp only [Act.put, List.setIfInBounds_toArray, List.set_cons_succ, List.set_cons_zero]
                      refine regH_all1 10 (by kernel_rfl) rfl ?_
                      go_wp2
                      refine ⟨rfl, hS.alloc _, ?_⟩
                      refine regH_named fun X5 hNew => ?_
                      have kB : Blk X5 X4.heap.size #[.int .u64 0, .int .u64 0] 31 := Blk.of_eq hNew (Blk.new' rfl)
                      have lB : WA.heap.size ≤ X4.heap.size := hS.le
                      replace hS : Ext WA X5 := Ext.of_eq hNew (hS.alloc _)
                      clear hNew
                      refine regH_all1 11 (by kernel_rfl) rfl ?_
                      have cB := kB.cell; have fB := kB.frozen
                      go_wp2
                      have hS2 := (hS.set (p := ⟨X4.heap.size, 0, none⟩) lB (.int .u64 (lo mt))).set (p := ⟨X4.heap.size, 1, none⟩) lB (.int .u64 (hi mt))
                      refine ⟨rfl, hS2, ?_⟩
                      have kB2 := (kB.set_ 0 (.int .u64 (lo mt))).set_ 1 (.int .u64 (hi mt))
                      refine regH_named fun X6 hNew => ?_
                      replace kB : Blk X6 _ _ _ := Blk.of_eq hNew kB2
                      replace hS : Ext WA X6 := Ext.of_eq hNew hS2
                      clear hNew cB fB hS2 kB2
                      refine regH_op 12 rfl (by kernel_rfl) ?_ hS ?_
                      focus (go_simp; done)
                      apply Exists.intro
                      refine ⟨fun W hW => ?_, ?_⟩
                      focus (have hc := Ext.cellR hW; go_simp; exact rfl)
                      simp only [Act.put, List.setIfInBounds_toArray, List.set_cons_succ, List.set_cons_zero]
                      refine regH_done (by kernel_rfl) ⟨WB.heap.size, v1, v2, X4.heap.size, ⟨kB, hS⟩, ?_⟩
                      simp only [Act.put, List.setIfInBounds_toArray, List.set_cons_succ, List.set_cons_zero]
                    · go_wp2
                      refine ⟨rfl, hS.alloc _, ?_⟩
                      refine regH_named fun X4 hNew => ?_
                      have kB : Blk X4 X3.heap.size #[.int .u64 0, .int .u64 0] 31 := Blk.of_eq hNew (Blk.new' rfl)
                      have lB : WA.heap.size ≤ X3.heap.size := hS.le
                      replace ho2 := ho2.alloc (.cells #[.int .u64 0, .int .u64 0] 31)
                      rw [← (show X4 = _ from hNew)] at ho2
                      replace hS : Ext WA X4 := Ext.of_eq hNew (hS.alloc _)
                      clear hNew
                      refine regH_all1 6 (by kernel_rfl) rfl ?_
                      go_wp2_with (go_at_call 9; refine (HUtA _ _ hS (own_ints (by rw [List.map_append]; exact ho2) (by omega))).mono ?_; rintro e X5 ⟨rfl, hx⟩)
                      refine ⟨rfl, hS.trans hx, ?_⟩
                      replace kB := kB.ext hx
                      replace hS := hS.trans hx
                      clear hx ho2
                      refine regH_op 7 rfl (by kernel_rfl) ?_ hS ?_
                      focus (go_simp; done)
                      apply Exists.intro
                      refine ⟨fun W hW => ?_, ?_⟩
                      focus (have hc := Ext.cellR hW; go_simp; exact rfl)
                      simp only [Act.put, List.setIfInBounds_toArray, List.set_cons_succ, List.set_cons_zero]
                      refine regH_op 8 rfl (by kernel_rfl) ?_ hS ?_
                      focus (go_simp; done)
                      apply Exists.intro
                      refine ⟨fun W hW => ?_, ?_⟩
                      focus (have hc := Ext.cellR hW; go_simp; exact rfl)
                      simp only [Act.put, List.setIfInBounds_toArray, List.set_cons_succ, List.set_cons_zero]
                      refine regH_op 9 rfl (by kernel_rfl) ?_ hS ?_
                      focus (go_simp; done)
                      apply Exists.intro
                      refine ⟨fun W hW => ?_, ?_⟩
                      focus (have hc := Ext.cellR hW; go_simp; exact rfl)
                      simp only [Act.put, List.setIfInBounds_toArray, List.set_cons_succ, List.set_cons_zero]
                      refine regH_all1 11 (by kernel_rfl) rfl ?_
                      have cB := kB.cell; have fB := kB.frozen
                      go_wp2
                      have hS2 := (hS.set (p := ⟨X3.heap.size, 0, none⟩) lB (.int .u64 (lo mt))).set (p := ⟨X3.heap.size, 1, none⟩) lB (.int .u64 (hi mt))
                      refine ⟨rfl, hS2, ?_⟩
                      have kB2 := (kB.set_ 0 (.int .u64 (lo mt))).set_ 1 (.int .u64 (hi mt))
                      refine regH_named fun X6 hNew => ?_
                      replace kB : Blk X6 _ _ _ := Blk.of_eq hNew kB2
                      replace hS : Ext WA X6 := Ext.of_eq hNew hS2
                      clear hNew cB fB hS2 kB2
                      refine regH_op 12 rfl (by kernel_rfl) ?_ hS ?_
                      focus (go_simp; done)
                      apply Exists.intro
                      refine ⟨fun W hW => ?_, ?_⟩
                      focus (have hc := Ext.cellR hW; go_simp; exact rfl)
                      simp only [Act.put, List.setIfInBounds_toArray, List.set_cons_succ, List.set_cons_zero]
                      refine regH_done (by kernel_rfl) ⟨WB.heap.size, v1, v2, X3.heap.size, ⟨kB, hS⟩, ?_⟩
                      simp only [Act.put, List.setIfInBounds_toArray, List.set_cons_succ, List.set_cons_zero]
                  · go_wp2
                    refine ⟨rfl, hS.alloc _, ?_⟩
                    refine regH_named fun X3 hNew => ?_
                    have kB : Blk X3 X2.heap.size #[.int .u64 0, .int .u64 0] 31 := Blk.of_eq hNew (Blk.new' rfl)
                    have lB : WA.heap.size ≤ X2.heap.size := hS.le
                    replace ho1 := ho1.alloc (.cells #[.int .u64 0, .int .u64 0] 31)
                    rw [← (show X3 = _ from hNew)] at ho1
                    replace hS : Ext WA X3 := Ext.of_eq hNew (hS.alloc _)
                    clear hNew
                    refine regH_all1 5 (by kernel_rfl) rfl ?_
                    refine wpList_append_src rfl _ _ _ rfl WA.heap.size 3 i0 (.int .i64 0) 1 8 Try.underlying26 hinf hz.out hy1.out hy2.out rfl (by decide) _ _ _ rfl ho1 _ _ _ (xs.map (Value.int .i64)) rfl (hsxA.ext hS) (by omega) (by omega) hS.le ?_
                    intro v2 X4 ho2 hg2
                    refine ⟨rfl, hS.append ho1 (Nat.le_refl _) hg2, ?_⟩
                    replace kB := kB.append ho1 hg2 (by decide)
                    replace hS := hS.append ho1 (Nat.le_refl _) hg2
                    clear ho1 hg2
                    simp only [Act.put, List.setIfInBounds_toArray, List.set_cons_succ, List.set_cons_zero]
                    refine regH_all1 6 (by kernel_rfl) rfl ?_
                    go_wp2_with (go_at_call 9; refine (HUtA _ _ hS (own_ints (by rw [List.map_append]; exact ho2) (by omega))).mono ?_; rintro e X5 ⟨rfl, hx⟩)
                    refine ⟨rfl, hS.trans hx, ?_⟩
                    replace kB := kB.ext hx
                    replace hS := hS.trans hx
                    clear hx ho2
                    refine regH_op 7 rfl (by kernel_rfl) ?_ hS ?_
                    focus (go_simp; done)
                    apply Exists.intro
                    refine ⟨fun W hW => ?_, ?_⟩
                    focus (have hc := Ext.cellR hW; go_simp; exact rfl)
                    simp only [Act.put, List.setIfInBounds_toArray, List.set_cons_succ, List.set_cons_zero]
                    refine regH_op 8 rfl (by kernel_rfl) ?_ hS ?_
                    focus (go_simp; done)
                    apply Exists.intro
                    refine ⟨fun W hW => ?_, ?_⟩
                    focus (have hc := Ext.cellR hW; go_simp; exact rfl)
                    simp only [Act.put, List.setIfInBounds_toArray, List.set_cons_succ, List.set_cons_zero]
                    refine regH_op 9 rfl (by kernel_rfl) ?_ hS ?_
                    focus (go_simp; done)
                    apply Exists.intro
                    refine ⟨fun W hW => ?_, ?_⟩
                    focus (have hc := Ext.cellR hW; go_simp; exact rfl)
                    simp only [Act.put, List.setIfInBounds_toArray, List.set_cons_succ, List.set_cons_zero]
                    refine regH_all1 11 (by kernel_rfl) rfl ?_
                    have cB := kB.cell; have fB := kB.frozen
                    go_wp2
                    have hS2 := (hS.set (p := ⟨X2.heap.size, 0, none⟩) lB (.int .u64 (lo mt))).set (p := ⟨X2.heap.size, 1, none⟩) lB (.int .u64 (hi mt))
                    refine ⟨rfl, hS2, ?_⟩
                    have kB2 := (kB.set_ 0 (.int .u64 (lo mt))).set_ 1 (.int .u64 (hi mt))
                    refine regH_named fun X6 hNew => ?_
                    replace kB : Blk X6 _ _ _ := Blk.of_eq hNew kB2
                    replace hS : Ext WA X6 := Ext.of_eq hNew hS2
                    clear hNew cB fB hS2 kB2
                    refine regH_op 12 rfl (by kernel_rfl) ?_ hS ?_
                    focus (go_simp; done)
                    apply Exists.intro
                    refine ⟨fun W hW => ?_, ?_⟩
                    focus (have hc := Ext.cellR hW; go_simp; exact rfl)
                    simp only [Act.put, List.setIfInBounds_toArray, List.set_cons_succ, List.set_cons_zero]
                    refine regH_done (by kernel_rfl) ⟨WB.heap.size, v1, v2, X2.heap.size, ⟨kB, hS⟩, ?_⟩
                    simp only [Act.put, List.setIfInBounds_toArray, List.set_cons_succ, List.set_cons_zero]
                · go_wp2
                  refine ⟨rfl, hS.alloc _, ?_⟩
                  refine regH_named fun X2 hNew => ?_
                  have kB : Blk X2 X1.heap.size #[.int .u64 0, .int .u64 0] 31 := Blk.of_eq hNew (Blk.new' rfl)
                  have lB : WA.heap.size ≤ X1.heap.size := hS.le
                  replace ho := ho.alloc (.cells #[.int .u64 0, .int .u64 0] 31)
                  rw [← (show X2 = _ from hNew)] at ho
                  replace hS : Ext WA X2 := Ext.of_eq hNew (hS.alloc _)
                  clear hNew
                  refine regH_all1 3 (by kernel_rfl) rfl ?_
                  refine wpList_append_src rfl _ _ _ rfl WA.heap.size 3 i0 (.int .i64 0) 1 8 Try.underlying26 hinf hz.out hy1.out hy2.out rfl (by decide) _ 0 [] rfl ho _ _ _ (xs.map (Value.int .i64)) rfl (hsxA.ext hS) (by omega) (by omega) hS.le ?_
                  intro v1 X3 ho1 hg1
                  rw [Nat.zero_add, List.nil_append] at ho1
                  refine ⟨rfl, hS.append ho (Nat.le_refl _) hg1, ?_⟩
                  replace kB := kB.append ho hg1 (by decide)
                  replace hS := hS.append ho (Nat.le_refl _) hg1
                  clear ho hg1
                  simp only [Act.put, List.setIfInBounds_toArray, List.set_cons_succ, List.set_cons_zero]
                  refine regH_all1 5 (by kernel_rfl) rfl ?_
                  refine wpList_append_src rfl _ _ _ rfl WA.heap.size 3 i0 (.int .i64 0) 1 8 Try.underlying26 hinf hz.out hy1.out hy2.out rfl (by decide) _ _ _ rfl ho1 _ _ _ (xs.map (Value.int .i64)) rfl (hsxA.ext hS) (by omega) (by omega) hS.le ?_
                  intro v2 X4 ho2 hg2
                  refine ⟨rfl, hS.append ho1 (Nat.le_refl _) hg2, ?_⟩
                  replace kB := kB.append ho1 hg2 (by decide)
                  replace hS := hS.append ho1 (Nat.le_refl _) hg2
                  clear ho1 hg2
                  simp only [Act.put, List.setIfInBounds_toArray, List.set_cons_succ, List.set_cons_zero]
                  refine regH_all1 6 (by kernel_rfl) rfl ?_
                  go_wp2_with (go_at_call 9; refine (HUtA _ _ hS (own_ints (by rw [List.map_append]; exact ho2) (by omega))).mono ?_; rintro e X5 ⟨rfl, hx⟩)
                  refine ⟨rfl, hS.trans hx, ?_⟩
                  replace kB := kB.ext hx
                  replace hS := hS.trans hx
                  clear hx ho2
                  refine regH_op 7 rfl (by kernel_rfl) ?_ hS ?_
                  focus (go_simp; done)
                  apply Exists.intro
                  refine ⟨fun W hW => ?_, ?_⟩
                  focus (have hc := Ext.cellR hW; go_simp; exact rfl)
                  simp only [Act.put, List.setIfInBounds_toArray, List.set_cons_succ, List.set_cons_zero]
                  refine regH_op 8 rfl (by kernel_rfl) ?_ hS ?_
                  focus (go_simp; done)
                  apply Exists.intro
                  refine ⟨fun W hW => ?_, ?_⟩
                  focus (have hc := Ext.cellR hW; go_simp; exact rfl)
                  simp only [Act.put, List.setIfInBounds_toArray, List.set_cons_succ, List.set_cons_zero]
                  refine regH_op 9 rfl (by kernel_rfl) ?_ hS ?_
                  focus (go_simp; done)
                  apply Exists.intro
                  refine ⟨fun W hW => ?_, ?_⟩
                  focus (have hc := Ext.cellR hW; go_simp; exact rfl)
                  simp only [Act.put, List.setIfInBounds_toArray, List.set_cons_succ, List.set_cons_zero]
                  refine regH_all1 11 (by kernel_rfl) rfl ?_
                  have cB := kB.cell; have fB := kB.frozen
                  go_wp2
                  have hS2 := (hS.set (p := ⟨X1.heap.size, 0, none⟩) lB (.int .u64 (lo mt))).set (p := ⟨X1.heap.size, 1, none⟩) lB (.int .u64 (hi mt))
                  refine ⟨rfl, hS2, ?_⟩
                  have kB2 := (kB.set_ 0 (.int .u64 (lo mt))).set_ 1 (.int .u64 (hi mt))
                  refine regH_named fun X6 hNew => ?_
                  replace kB : Blk X6 _ _ _ := Blk.of_eq hNew kB2
                  replace hS : Ext WA X6 := Ext.of_eq hNew hS2
                  clear hNew cB fB hS2 kB2
                  refine regH_op 12 rfl (by kernel_rfl) ?_ hS ?_
                  focus (go_simp; done)
                  apply Exists.intro
                  refine ⟨fun W hW => ?_, ?_⟩
                  focus (have hc := Ext.cellR hW; go_simp; exact rfl)
                  simp only [Act.put, List.setIfInBounds_toArray, List.set_cons_succ, List.set_cons_zero]
                  refine regH_done (by kernel_rfl) ⟨WB.heap.size, v1, v2, X1.heap.size, ⟨kB, hS⟩, ?_⟩
                  simp only [Act.put, List.setIfInBounds_toArray, List.set_cons_succ, List.set_cons_zero]
              · go_wp2
                refine ⟨rfl, hS.alloc _, ?_⟩
                refine regH_named fun X1 hNew => ?_
                have kB : Blk X1 WB.heap.size #[.int .u64 0, .int .u64 0] 31 := Blk.of_eq hNew (Blk.new' rfl)
                have lB : WA.heap.size ≤ WB.heap.size := hS.le
                replace hS : Ext WA X1 := Ext.of_eq hNew (hS.alloc _)
                clear hNew
                refine regH_all1 1 (by kernel_rfl) rfl ?_
                go_wp2
                refine ⟨rfl, hS.alloc _, ?_⟩
                refine regH_named fun X2 hNew => ?_
                have ho : (X2).ownsRow WA.heap.size 3 1 (.slice (some ⟨X1.heap.size, 0, none⟩) 0 0) 0 [] := by
                  have e : X2 = _ := hNew
                  rw [e]; exact World.ownsRow_lit X1 #[] 0 hS.le (by omega) rfl
                replace kB := Blk.of_eq hNew (kB.alloc _)
                replace hS : Ext WA X2 := Ext.of_eq hNew (hS.alloc _)
                clear hNew
                refine regH_all1 3 (by kernel_rfl) rfl ?_
                refine wpList_append_src rfl _ _ _ rfl WA.heap.size 3 i0 (.int .i64 0) 1 8 Try.underlying26 hinf hz.out hy1.out hy2.out rfl (by decide) _ 0 [] rfl ho _ _ _ (xs.map (Value.int .i64)) rfl (hsxA.ext hS) (by omega) (by omega) hS.le ?_
                intro v1 X3 ho1 hg1
                rw [Nat.zero_add, List.nil_append] at ho1
                refine ⟨rfl, hS.append ho (Nat.le_refl _) hg1, ?_⟩
                replace kB := kB.append ho hg1 (by decide)
                replace hS := hS.append ho (Nat.le_refl _) hg1
                clear ho hg1
                simp only [Act.put, List.setIfInBounds_toArray, List.set_cons_succ, List.set_cons_zero]
                refine regH_all1 5 (by kernel_rfl) rfl ?_
                refine wpList_append_src rfl _ _ _ rfl WA.heap.size 3 i0 (.int .i64 0) 1 8 Try.underlying26 hinf hz.out hy1.out hy2.out rfl (by decide) _ _ _ rfl ho1 _ _ _ (xs.map (Value.int .i64)) rfl (hsxA.ext hS) (by omega) (by omega) hS.le ?_
                intro v2 X4 ho2 hg2
                refine ⟨rfl, hS.append ho1 (Nat.le_refl _) hg2, ?_⟩
                replace kB := kB.append ho1 hg2 (by decide)
                replace hS := hS.append ho1 (Nat.le_refl _) hg2
                clear ho1 hg2
                simp only [Act.put, List.setIfInBounds_toArray, List.set_cons_succ, List.set_cons_zero]
                refine regH_all1 6 (by kernel_rfl) rfl ?_
                go_wp2_with (go_at_call 9; refine (HUtA _ _ hS (own_ints (by rw [List.map_append]; exact ho2) (by omega))).mono ?_; rintro e X5 ⟨rfl, hx⟩)
                refine ⟨rfl, hS.trans hx, ?_⟩
                replace kB := kB.ext hx
                replace hS := hS.trans hx
                clear hx ho2
                refine regH_op 7 rfl (by kernel_rfl) ?_ hS ?_
                focus (go_simp; done)
                apply Exists.intro
                refine ⟨fun W hW => ?_, ?_⟩
                focus (have hc := Ext.cellR hW; go_simp; exact rfl)
                simp only [Act.put, List.setIfInBounds_toArray, List.set_cons_succ, List.set_cons_zero]
                refine regH_op 8 rfl (by kernel_rfl) ?_ hS ?_
                focus (go_simp; done)
                apply Exists.intro
                refine ⟨fun W hW => ?_, ?_⟩
                focus (have hc := Ext.cellR hW; go_simp; exact rfl)
                simp only [Act.put, List.setIfInBounds_toArray, List.set_cons_succ, List.set_cons_zero]
                refine regH_op 9 rfl (by kernel_rfl) ?_ hS ?_
                focus (go_simp; done)
                apply Exists.intro
                refine ⟨fun W hW => ?_, ?_⟩
                focus (have hc := Ext.cellR hW; go_simp; exact rfl)
                simp only [Act.put, List.setIfInBounds_toArray, List.set_cons_succ, List.set_cons_zero]
                refine regH_all1 11 (by kernel_rfl) rfl ?_
                have cB := kB.cell; have fB := kB.frozen
                go_wp2
                have hS2 := (hS.set (p := ⟨WB.heap.size, 0, none⟩) lB (.int .u64 (lo mt))).set (p := ⟨WB.heap.size, 1, none⟩) lB (.int .u64 (hi mt))
                refine ⟨rfl, hS2, ?_⟩
                have kB2 := (kB.set_ 0 (.int .u64 (lo mt))).set_ 1 (.int .u64 (hi mt))
                refine regH_named fun X6 hNew => ?_
                replace kB : Blk X6 _ _ _ := Blk.of_eq hNew kB2
                replace hS : Ext WA X6 := Ext.of_eq hNew hS2
                clear hNew cB fB hS2 kB2
                refine regH_op 12 rfl (by kernel_rfl) ?_ hS ?_
                focus (go_simp; done)
                apply Exists.intro
                refine ⟨fun W hW => ?_, ?_⟩
                focus (have hc := Ext.cellR hW; go_simp; exact rfl)
                simp only [Act.put, List.setIfInBounds_toArray, List.set_cons_succ, List.set_cons_zero]
                refine regH_done (by kernel_rfl) ⟨X1.heap.size, v1, v2, WB.heap.size, ⟨kB, hS⟩, ?_⟩
                simp only [Act.put, List.setIfInBounds_toArray, List.set_cons_succ, List.set_cons_zero]
            · intro a' WC hR
              obtain ⟨g2, v3, v4, BT, ⟨kT, hxC⟩, rfl⟩ := hR
              simp only [Act.put, List.setIfInBounds_toArray, List.set_cons_succ, List.set_cons_zero]
              replace kx := kx.ext hxC
              replace ky := ky.ext hxC
              replace kb := kb.ext hxC
              replace hA := hA.trans hxC
              clear cl ll hsx hsy HUt HUtA hsxA hxC kl
              go_wp2
              have HOr := fun v W h => ors_any [mt, my] v W h
              have hmg := mask_guard
              have hq1 : ∀ m w, (binOp .eql 31 (.agg #[.int .u64 (lo (m)), .int .u64 (hi (m))]) (.agg #[.int .u64 (lo (m)), .int .u64 (hi (m))])).run Try.prog w = .ok (.bool true) w := fun m w => by rw [mask_eql]; simp
              have hqb := hq1 (mOr [mt, my])
              have hqt := hq1 mt
              clear hq1
              generalize mOr [mt, my] = mb at *
              refine cut_reg (fun a' a'' w' => Ext WC w' ∧ a''.tmps.getD 6 undef = .bool true ∧ a''.defers = []) ?_ ?_
              · refine region_reg (L0 := #[true, true, true, true, true, true, true, true, true, true, true, true, true, true, true, true, true, true, true, true, true, true, true, true]) (by kernel_rfl) (fun WB hWB => ?_)
                have cb := (kb.ext hWB).cell
                have cx := (kx.ext hWB).cell
                have cy := (ky.ext hWB).cell
                have ct := (kT.ext hWB).cell
                refine regE_op 0 rfl (by kernel_rfl) ?_ ?_
                focus (go_simp; done)
                apply Exists.intro
                refine ⟨fun W hW => ?_, ?_⟩
                focus (have hc := hW.cellR; go_simp; first | exact rfl)
                simp only [Act.put, List.setIfInBounds_toArray, List.set_cons_succ, List.set_cons_zero]
                refine regE_op 1 rfl (by kernel_rfl) ?_ ?_
                focus (go_simp; done)
                apply Exists.intro
                refine ⟨fun W hW => ?_, ?_⟩
                focus (have hc := hW.cellR; go_simp; first | exact rfl)
                simp only [Act.put, List.setIfInBounds_toArray, List.set_cons_succ, List.set_cons_zero]
                refine regE_op 2 rfl (by kernel_rfl) ?_ ?_
                focus (go_simp; done)
                apply Exists.intro
                refine ⟨fun W hW => ?_, ?_⟩
                focus (have hc := hW.cellR; go_simp; first | exact rfl)
                simp only [Act.put, List.setIfInBounds_toArray, List.set_cons_succ, List.set_cons_zero]
                refine regE_op 3 rfl (by kernel_rfl) ?_ ?_
                focus (go_simp; done)
                apply Exists.intro
                refine ⟨fun W hW => ?_, ?_⟩
                focus (have hc := hW.cellR; go_simp; first | exact rfl)
                simp only [Act.put, List.setIfInBounds_toArray, List.set_cons_succ, List.set_cons_zero]
                refine regE_op 4 rfl (by kernel_rfl) ?_ ?_
                focus (go_simp; done)
                apply Exists.intro
                refine ⟨fun W hW => ?_, ?_⟩
                focus (have hc := hW.cellR; go_simp; first | exact rfl)
                simp only [Act.put, List.setIfInBounds_toArray, List.set_cons_succ, List.set_cons_zero]
                refine regE_op 5 rfl (by kernel_rfl) ?_ ?_
                focus (go_simp; done)
                apply Exists.intro
                refine ⟨fun W hW => ?_, ?_⟩
                focus (have hc := hW.cellR; go_simp; first | exact rfl)
                simp only [Act.put, List.setIfInBounds_toArray, List.set_cons_succ, List.set_cons_zero]
                refine regE_op 6 rfl (by kernel_rfl) ?_ ?_
                focus (go_simp; done)
                apply Exists.intro
                refine ⟨fun W hW => ?_, ?_⟩
                focus (have hc := hW.cellR; go_simp; first | exact rfl)
                simp only [Act.put, List.setIfInBounds_toArray, List.set_cons_succ, List.set_cons_zero]
                refine regE_op 7 rfl (by kernel_rfl) ?_ ?_
                focus (go_simp; done)
                apply Exists.intro
                refine ⟨fun W hW => ?_, ?_⟩
                focus (have hc := hW.cellR; go_simp; first | exact rfl)
                simp only [Act.put, List.setIfInBounds_toArray, List.set_cons_succ, List.set_cons_zero]
                refine regE_op 8 rfl (by kernel_rfl) ?_ ?_
                focus (go_simp; done)
                apply Exists.intro
                refine ⟨fun W hW => ?_, ?_⟩
                focus (have hc := hW.cellR; go_simp; first | exact rfl)
                simp only [Act.put, List.setIfInBounds_toArray, List.set_cons_succ, List.set_cons_zero]
                refine regE_op 9 rfl (by kernel_rfl) ?_ ?_
                focus (go_simp; done)
                apply Exists.intro
                refine ⟨fun W hW => ?_, ?_⟩
                focus (have hc := hW.cellR; go_simp; first | exact rfl)
                simp only [Act.put, List.setIfInBounds_toArray, List.set_cons_succ, List.set_cons_zero]
                refine regE_op 10 rfl (by kernel_rfl) ?_ ?_
                focus (go_simp; done)
                apply Exists.intro
                refine ⟨fun W hW => ?_, ?_⟩
                focus (have hc := hW.cellR; go_simp; first | exact rfl)
                simp only [Act.put, List.setIfInBounds_toArray, List.set_cons_succ, List.set_cons_zero]
                refine regE_op 11 rfl (by kernel_rfl) ?_ ?_
                focus (go_simp; done)
                apply Exists.intro
                refine ⟨fun W hW => ?_, ?_⟩
                focus (have hc := hW.cellR; go_simp; first | exact rfl)
                simp only [Act.put, List.setIfInBounds_toArray, List.set_cons_succ, List.set_cons_zero]
                refine regE_op 12 rfl (by kernel_rfl) ?_ ?_
                focus (go_simp; done)
                apply Exists.intro
                refine ⟨fun W hW => ?_, ?_⟩
                focus (have hc := hW.cellR; go_simp; first | exact rfl)
                simp only [Act.put, List.setIfInBounds_toArray, List.set_cons_succ, List.set_cons_zero]
                refine regE_op 13 rfl (by kernel_rfl) ?_ ?_
                focus (go_simp; done)
                apply Exists.intro
                refine ⟨fun W hW => ?_, ?_⟩
                focus (have hc := hW.cellR; go_simp; first | exact rfl)
                simp only [Act.put, List.setIfInBounds_toArray, List.set_cons_succ, List.set_cons_zero]
                refine regE_all1 14 (by kernel_rfl) rfl (fun W4 hW4 => ?_)
                go_wp2
                refine ⟨rfl, (Ext.refl _).alloc _, ?_⟩
                refine regE_named fun W5 hW5 => ?_
                have kg : Blk W5 W4.heap.size #[.int .u64 (lo mt), .int .u64 (hi mt), .int .u64 (lo my), .int .u64 (hi my)] 31 := Blk.of_eq hW5 (Blk.new' rfl)
                have hE : Ext WC W5 := Ext.of_eq hW5 ((hWB.trans hW4).alloc _)
                clear hW5 cb cx cy ct
                have ct := (kT.ext hE).cell
                have cx := (kx.ext hE).cell
                refine regE_op 15 rfl (by kernel_rfl) ?_ ?_
                focus (go_simp; done)
                apply Exists.intro
                refine ⟨fun W hW => ?_, ?_⟩
                focus (have hc := hW.cellR; go_simp; first | exact rfl | (go_at_call 10; refine (HOr _ _ (litm2_sl mt my (kg.ext hW))).mono ?_; rintro e w1 ⟨rfl, hx⟩; exact ⟨rfl, hx⟩))
                simp only [Act.put, List.setIfInBounds_toArray, List.set_cons_succ, List.set_cons_zero]
                refine regE_op 16 rfl (by kernel_rfl) ?_ ?_
                focus (go_simp; done)
                apply Exists.intro
                refine ⟨fun W hW => ?_, ?_⟩
                focus (have hc := hW.cellR; go_simp; first | exact rfl | (go_at_call 10; refine (HOr _ _ (litm2_sl mt my (kg.ext hW))).mono ?_; rintro e w1 ⟨rfl, hx⟩; exact ⟨rfl, hx⟩))
                simp only [Act.put, List.setIfInBounds_toArray, List.set_cons_succ, List.set_cons_zero]
                refine regE_op 17 rfl (by kernel_rfl) ?_ ?_
                focus (go_simp; done)
                apply Exists.intro
                refine ⟨fun W hW => ?_, ?_⟩
                focus (have hc := hW.cellR; go_simp; first | exact rfl | (go_at_call 10; refine (HOr _ _ (litm2_sl mt my (kg.ext hW))).mono ?_; rintro e w1 ⟨rfl, hx⟩; exact ⟨rfl, hx⟩))
                simp only [Act.put, List.setIfInBounds_toArray, List.set_cons_succ, List.set_cons_zero]
                refine regE_op 18 rfl (by kernel_rfl) ?_ ?_
                focus (go_simp; done)
                apply Exists.intro
                refine ⟨fun W hW => ?_, ?_⟩
                focus (have hc := hW.cellR; go_simp; first | exact rfl | (go_at_call 10; refine (HOr _ _ (litm2_sl mt my (kg.ext hW))).mono ?_; rintro e w1 ⟨rfl, hx⟩; exact ⟨rfl, hx⟩))
                simp only [Act.put, List.setIfInBounds_toArray, List.set_cons_succ, List.set_cons_zero]
                refine regE_op 19 rfl (by kernel_rfl) ?_ ?_
                focus (go_simp; done)
                apply Exists.intro
                refine ⟨fun W hW => ?_, ?_⟩
                focus (have hc := hW.cellR; go_simp; first | exact rfl | (go_at_call 10; refine (HOr _ _ (litm2_sl mt my (kg.ext hW))).mono ?_; rintro e w1 ⟨rfl, hx⟩; exact ⟨rfl, hx⟩))
                simp only [Act.put, List.setIfInBounds_toArray, List.set_cons_succ, List.set_cons_zero]
                refine regE_op 20 rfl (by kernel_rfl) ?_ ?_
                focus (go_simp; done)
                apply Exists.intro
                refine ⟨fun W hW => ?_, ?_⟩
                focus (have hc := hW.cellR; go_simp; first | exact rfl | (go_at_call 10; refine (HOr _ _ (litm2_sl mt my (kg.ext hW))).mono ?_; rintro e w1 ⟨rfl, hx⟩; exact ⟨rfl, hx⟩))
                simp only [Act.put, List.setIfInBounds_toArray, List.set_cons_succ, List.set_cons_zero]
                refine regE_op 21 rfl (by kernel_rfl) ?_ ?_
                focus (go_simp; done)
                apply Exists.intro
                refine ⟨fun W hW => ?_, ?_⟩
                focus (have hc := hW.cellR; go_simp; first | exact rfl | (go_at_call 10; refine (HOr _ _ (litm2_sl mt my (kg.ext hW))).mono ?_; rintro e w1 ⟨rfl, hx⟩; exact ⟨rfl, hx⟩))
                simp only [Act.put, List.setIfInBounds_toArray, List.set_cons_succ, List.set_cons_zero]
                refine regE_op 22 rfl (by kernel_rfl) ?_ ?_
                focus (go_simp; done)
                apply Exists.intro
                refine ⟨fun W hW => ?_, ?_⟩
                focus (have hc := hW.cellR; go_simp; first | exact rfl | (go_at_call 10; refine (HOr _ _ (litm2_sl mt my (kg.ext hW))).mono ?_; rintro e w1 ⟨rfl, hx⟩; exact ⟨rfl, hx⟩))
                simp only [Act.put, List.setIfInBounds_toArray, List.set_cons_succ, List.set_cons_zero]
                refine regE_op 23 rfl (by kernel_rfl) ?_ ?_
                focus (go_simp; done)
                apply Exists.intro
                refine ⟨fun W hW => ?_, ?_⟩
                focus (have hc := hW.cellR; go_simp; first | exact rfl | (go_at_call 10; refine (HOr _ _ (litm2_sl mt my (kg.ext hW))).mono ?_; rintro e w1 ⟨rfl, hx⟩; exact ⟨rfl, hx⟩))
                simp only [Act.put, List.setIfInBounds_toArray, List.set_cons_succ, List.set_cons_zero]
                exact regE_done (by kernel_rfl) fun W hW => ⟨hE.trans hW, rfl, rfl⟩
              · rintro ⟨tmps, defers⟩ W6 ⟨hx, h0, rfl⟩
                dsimp only at h0
                go_wp2
                go_ret
                rw [h0]
                exact ⟨rfl, hA.trans hx⟩
          · have NE : (eb != 0) = true := by simpa using he
            obtain ⟨m0, hor⟩ := PB.out he
            subst m0
            have z0 : lo (0 : Mask) = 0 := lo_zero
            have z1 : hi (0 : Mask) = 0 := hi_zero
            simp only [z0, z1] at kB
            have hq : ∀ w, (binOp .eql 31 (.agg #[.int .u64 0, .int .u64 0]) (.agg #[.int .u64 0, .int .u64 0])).run Try.prog w = .ok (.bool true) w := fun w => by
              have := mask_eql 0 0 w
              rw [lo_zero, hi_zero] at this
              simpa using this
            have hmg := mask_guard
            have hor2 : (ex != 0) = true ∨ ((ex != 0) = false ∧ (ey != 0) = true) := by
              by_cases h : ex = 0
              · exact .inr ⟨by simpa using h, by rcases hor with h' | h'; exact absurd h h'; simpa using h'⟩
              · exact .inl (by simpa using h)
            have cB := kB.cell
            have lB := kB.lt
            clear PB PG he hor z0 z1 HUb
            rcases hor2 with o1 | ⟨o1, o2⟩
            all_goals
              go_wp2_with (first
                | (go_at_call 9; (with_reducible refine Calls.mono (HUx _ hC) ?_); rintro e WD ⟨rfl, hD⟩; have klD := klC.ext hD; have clD := klD.cell; have llD := klD.lt; have kB1 := (kB.ext hD).alloc (.cells #[.int .u64 (lo mx), .int .u64 (hi mx)] 31))
                | (go_at_call 9; (with_reducible refine Calls.mono (HUy _ ((hC.trans hD).alloc _)) ?_); rintro e WE ⟨rfl, hE⟩; have kB2 := kB1.ext hE; have cB2 := kB2.cell; have lB2 := kB2.lt))
              go_ret
              exact ⟨rfl, (((hC.trans hD).alloc _).trans hE).alloc _⟩

end Go.Proofs.Ytiolpknfdabijaa
