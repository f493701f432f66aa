/- Lists: Build. -/
import Derived.Test.YtiolpknfdabijaaProg
import Derived.Test.YtiolpknfdabijaaLib
import Derived.Test.YtiolpknfdabijaaPure
import Derived.Test.YtiolpknfdabijaaMask2
import Derived.Test.YtiolpknfdabijaaVec
import Derived.Test.YtiolpknfdabijaaVec2
import Derived.Test.YtiolpknfdabijaaVec3
import Derived.Test.YtiolpknfdabijaaVec4
import Derived.Test.YtiolpknfdabijaaIter
import Derived.Test.YtiolpknfdabijaaArena
import Derived.Test.YtiolpknfdabijaaArena2
import Derived.Test.YtiolpknfdabijaaArena3
import Derived.Test.YtiolpknfdabijaaLib2
import Derived.Test.YtiolpknfdabijaaClone
import Derived.Test.YtiolpknfdabijaaLists
import Derived.Test.YtiolpknfdabijaaLists3
import Derived.Test.YtiolpknfdabijaaLists4
import Derived.Test.YtiolpknfdabijaaLists5
import Derived.Test.YtiolpknfdabijaaReg
set_option linter.unusedVariables false
set_option maxRecDepth 4000
set_option linter.unusedSimpArgs false
namespace Go.Proofs.Ytiolpknfdabijaa
open Go.RowKit


theorem own_zeros (W : World) (n : Nat) {base : Nat} (hb : base ≤ W.heap.size) (hn : n ≤ 1000) : (W.alloc (.cells (zeros n) 31)).ownsRow base 31 2 (.slice (some ⟨W.heap.size, 0, none⟩) n n) n (maskFlat (List.replicate n 0)) := by
  have hmax : 1000 ≤ maxLen := by decide
  have hs : (zeros n).size = n * 2 := by simp [zeros, madeCells]
  refine ⟨by rw [maskFlat_len, List.length_replicate], .inr ⟨W.heap.size, n, zeros n, rfl, hb, heap_alloc_new W _, Nat.le_refl _, by omega, hs, ?_⟩⟩
  rw [zeros_eq, List.take_of_length_le (by rw [maskFlat_len, List.length_replicate]; exact Nat.le_refl _)]
theorem lsFill_step (c : List Vec) (a : Arena) (k : Nat) (L : Lists) (hk : k < a.length) : lsFill c (a.drop k) k L =
    if (a.getD k cellNone).used then (if (vNearest c (a.getD k cellNone).ver.vec).2 = 0 then lsFill c (a.drop (k + 1)) (k + 1) (lsPut L (vNearest c (a.getD k cellNone).ver.vec).1 k) else (⟨[], []⟩, (vNearest c (a.getD k cellNone).ver.vec).2)) else lsFill c (a.drop (k + 1)) (k + 1) L := by
  have e : a.getD k cellNone = a[k] := by rw [List.getD_eq_getElem?_getD, List.getElem?_eq_getElem hk]; rfl
  rw [e, List.drop_eq_getElem_cons hk]
  rfl
theorem OwnLists.parts {base : Nat} {w0 w : World} {cv mv : Value} {l : Lists} (h : OwnLists base w0 w (.agg #[cv, mv]) l) (hc : l.cents.length ≤ 140737488351232) (hm : l.masks.length ≤ 140737488351232) : VecsIn w0 w cv l.cents ∧ kMask.Sl w mv l.masks := by
  obtain ⟨cv', mv', h0, h1, h2⟩ := h.out
  simp only [Value.agg.injEq, Array.mk.injEq, List.cons.injEq, and_true] at h0
  obtain ⟨rfl, rfl⟩ := h0
  exact ⟨h1.vin hc, own_masks h2 hm⟩
set_option maxHeartbeats 4000000 in
set_option maxRecDepth 100000 in
theorem lbuild_any (a : Arena) (c : List Vec) (av cv : Value) (w : World) (ha : kCell.Sl w av a) (hc : kVec.Sl w cv c) : Calls Try.prog 13 #[.agg #[av], cv] w (RetListsE (lsBuild a c) w w) := by
  have HK := fun W (hx : Ext w W) => arCheck_any a av W (ha.ext hx)
  have HC := fun W (hx : Ext w W) => cents_any c cv W (hc.ext hx)
  have ha0 := ha
  have hc0 := hc
  obtain ⟨ad, ca, rfl, hca, hal, har⟩ := ha.form
  obtain ⟨a1, c1, rfl, hcc, hcl, _⟩ := hc.form
  have V : Hid (lsBuild a c = if arOk a then (if centsOk c then (if c = [] then (⟨[], []⟩, 0) else lsFill c a 0 ⟨c, List.replicate c.length 0⟩) else (⟨[], []⟩, 230)) else (⟨[], []⟩, 190)) := rfl
  generalize lsBuild a c = r at *
  clear ha hc
  have kr0 := Blk.new' (w := w.alloc (.cells #[.slice ad a.length ca] 39)) (b := w.heap.size + 1) (cs := #[.slice none 0 0, .slice none 0 0]) (t := 25) (by simp)
  have ka0 := (Blk.new' (w := w) (b := w.heap.size) (cs := #[.slice ad a.length ca]) (t := 39) rfl).alloc (.cells #[.slice none 0 0, .slice none 0 0] 25)
  cases h0 : arOk a with
  | false =>
    have E : Hid (r = (⟨[], []⟩, 190)) := by unfold Hid; rw [V.out, h0]; rfl
    have e0 : arErr a = 190 := by unfold arErr; rw [h0]; rfl
    rw [e0] at HK
    clear V h0 HC e0 ha0 hc0 har hal hca hcl hcc
    generalize a.length = n1 at *
    generalize c.length = n2 at *
    go_enter Try.func13, Try.ntmps13
    go_wp2_with (go_at_call 38; refine (HK _ (((Ext.refl _).alloc _).alloc _)).mono ?_; rintro y W1 ⟨rfl, hx⟩; have kr := kr0.ext hx; have cr := kr.cell; have fr := kr.frozen)
    have cr2 := ((kr.set_ 0 (.slice none 0 0)).set_ 1 (.slice none 0 0)).cell
    exact bodyPost_ret (v := .tuple #[.agg #[.slice none 0 0, .slice none 0 0], .int .i64 190]) (by simp [results, Try.results13, go_sem, cr2]) rfl ⟨_, by rw [E.out], by rw [E.out]; exact OwnLists.nil _ _ _, (((((Ext.refl w).alloc _).alloc _).trans hx).set (by simp) _).set (by simp) _⟩
  | true =>
    have e0 : arErr a = 0 := by unfold arErr; rw [h0]; rfl
    rw [e0] at HK
    have V2 : Hid (r = if centsOk c then (if c = [] then (⟨[], []⟩, 0) else lsFill c a 0 ⟨c, List.replicate c.length 0⟩) else (⟨[], []⟩, 230)) := by unfold Hid; rw [V.out, h0]; rfl
    clear V e0
    have hal6 : a.length = 96 := by unfold arOk at h0; simp at h0; exact h0.1
    clear h0
    cases h1 : centsOk c with
    | false =>
      have E : Hid (r = (⟨[], []⟩, 230)) := by unfold Hid; rw [V2.out, h1]; rfl
      rw [h1] at HC
      clear V2 h1 ha0 hc0 har hal hca hcl hcc hal6
      generalize a.length = n1 at *
      generalize c.length = n2 at *
      go_enter Try.func13, Try.ntmps13
      go_wp2_with (first | (go_at_call 38; refine (HK _ (((Ext.refl _).alloc _).alloc _)).mono ?_; rintro y W1 ⟨rfl, hx⟩) | (go_at_call 39; refine (HC _ ((((Ext.refl _).alloc _).alloc _).trans hx)).mono ?_; rintro y W2 ⟨rfl, hx2⟩; have kr := (kr0.ext hx).ext hx2; have cr := kr.cell; have fr := kr.frozen))
      have cr2 := ((kr.set_ 0 (.slice none 0 0)).set_ 1 (.slice none 0 0)).cell
      exact bodyPost_ret (v := .tuple #[.agg #[.slice none 0 0, .slice none 0 0], .int .i64 230]) (by simp [results, Try.results13, go_sem, cr2]) rfl ⟨_, by rw [E.out], by rw [E.out]; exact OwnLists.nil _ _ _, ((((((Ext.refl w).alloc _).alloc _).trans hx).trans hx2).set (by simp) _).set (by simp) _⟩
    | true =>
      rw [h1] at HC
      have h6 : c.length ≤ 6 := by unfold centsOk at h1; simp at h1; exact h1.1
      have V3 : Hid (r = if c = [] then (⟨[], []⟩, 0) else lsFill c a 0 ⟨c, List.replicate c.length 0⟩) := by unfold Hid; rw [V2.out, h1]; rfl
      have HCl := fun W (hx : Ext w W) => clone_vecs c _ w W ((VecsIn.of hc0).ext hx) (by omega)
      obtain ⟨i0, hinf, hz0, hz1, hz2⟩ := info_parts info_mask
      have hmk : ∀ W, (Instr.makeSlice 23 (.int .i64 (c.length : Int)) (.int .i64 (c.length : Int))).run Try.prog W = .ok (.slice (some ⟨W.heap.size, 0, none⟩) c.length c.length) (W.alloc (.cells (zeros c.length) 31)) := fun W => by
        have := run_make (P := Try.prog) W 23 31 i0 (.agg #[.int .u64 0, .int .u64 0]) Try.underlying23 hinf hz0 .i64 .i64 c.length c.length (by omega) (Int.le_refl _) (by rw [hz2]; omega) (by omega)
        rw [hz1] at this
        simpa [zeros] using this
      clear V2 h1 hinf hz0 hz1 hz2
      have hal7 : Hid _ := hal6
      clear hal6
      go_enter Try.func13, Try.ntmps13
      go_wp2_with (first | (go_at_call 38; refine (HK _ (((Ext.refl _).alloc _).alloc _)).mono ?_; rintro y W1 ⟨rfl, hx⟩) | (go_at_call 39; refine (HC _ ((((Ext.refl _).alloc _).alloc _).trans hx)).mono ?_; rintro y WC ⟨rfl, hx2⟩; have kr := (kr0.ext hx).ext hx2; have ka := (ka0.ext hx).ext hx2))
      have hB : Ext w WC := ((((Ext.refl w).alloc _).alloc _).trans hx).trans hx2
      have hl : w.heap.size + 2 ≤ WC.heap.size := kr.lt
      clear hx hx2 HK HC kr0 ka0
      refine cut_reg (fun a' a'' w' => ∃ (B g : Nat) (a2 : Option Addr) (c2 : Nat), (Blk w' B #[.slice a2 c.length c2, .slice (some ⟨g, 0, none⟩) c.length c.length] 25 ∧ WC.heap.size ≤ B ∧ OwnLists (w.heap.size + 2) w w' (.agg #[.slice a2 c.length c2, .slice (some ⟨g, 0, none⟩) c.length c.length]) ⟨c, List.replicate c.length 0⟩ ∧ Ext WC w') ∧ a'' = (((((((a'.put (some 22) (.slice a1 c.length c1)).put (some 24) (.slice a1 c.length c1)).put (some 25) (.int .i64 c.length)).put (some 23) (.slice a2 c.length c2)).put (some 26) (.slice (some ⟨g, 0, none⟩) c.length c.length)).put (some 27) (.agg #[.slice a2 c.length c2, .slice (some ⟨g, 0, none⟩) c.length c.length])).put (some 7) (.pointer (some ⟨B, 0, none⟩)))) ?_ ?_
      · refine region_reg (L0 := #[true, true, true, true, true, true, true, false]) (by kernel_rfl) (fun WB hWB => ?_)
        have hE := hWB
        replace HCl := fun W (h : Ext WC W) => HCl W (hB.trans h)
        refine regE_op 0 rfl (by kernel_rfl) ?_ ?_
        focus (go_simp; done)
        apply Exists.intro
        refine ⟨fun W hW => ?_, ?_⟩
        focus (have hc := hW.cellR; go_simp; first | exact rfl)
        simp only [Act.put, List.setIfInBounds_toArray, List.set_cons_succ, List.set_cons_zero]
        refine regE_op 2 rfl (by kernel_rfl) ?_ ?_
        focus (go_simp; done)
        apply Exists.intro
        refine ⟨fun W hW => ?_, ?_⟩
        focus (have hc := hW.cellR; go_simp; first | exact rfl)
        simp only [Act.put, List.setIfInBounds_toArray, List.set_cons_succ, List.set_cons_zero]
        refine regE_op 3 rfl (by kernel_rfl) ?_ ?_
        focus (go_simp; done)
        apply Exists.intro
        refine ⟨fun W hW => ?_, ?_⟩
        focus (have hc := hW.cellR; go_simp; first | exact rfl)
        simp only [Act.put, List.setIfInBounds_toArray, List.set_cons_succ, List.set_cons_zero]
        refine regE_all3 1 4 6 (by kernel_rfl) rfl rfl rfl (fun W2 hW2 => ?_) (fun W2 hW2 => ?_) (fun W2 hW2 => ?_)
        · go_wp2_with (go_at_call 40; refine (HCl _ (hE.trans hW2)).mono ?_; rintro e V2 ⟨vq, rfl, q, hx⟩; obtain ⟨a2, c2, rfl⟩ := q.form)
          refine ⟨rfl, hx, ?_⟩
          replace q := q.mono (Nat.le_trans hl (Nat.le_trans hE.le hW2.le))
          replace hE := hE.trans (hW2.trans hx)
          clear hx
          refine regE_all2 4 6 (by kernel_rfl) rfl rfl (fun W3 hW3 => ?_) (fun W3 hW3 => ?_)
          · go_wp2
            refine ⟨rfl, (Ext.refl _).alloc _, ?_⟩
            refine regE_named fun V3 hV3 => ?_
            have qm : (V3).ownsRow (w.heap.size + 2) 31 2 (.slice (some ⟨W3.heap.size, 0, none⟩) c.length c.length) c.length (maskFlat (List.replicate c.length 0)) := by
              have e : V3 = _ := hV3
              rw [e]; exact own_zeros W3 c.length (Nat.le_trans hl (Nat.le_trans hE.le hW3.le)) (by omega)
            have hx : Ext W3 V3 := Ext.of_eq hV3 ((Ext.refl _).alloc _)
            replace hE := hE.trans (hW3.trans hx)
            replace q := q.ext (hW3.trans hx)
            clear hx
            clear hV3
            generalize W3.heap.size = GM at *
            refine regE_op 5 rfl (by kernel_rfl) ?_ ?_
            focus (go_simp; done)
            apply Exists.intro
            refine ⟨fun W hW => ?_, ?_⟩
            focus (have hc := hW.cellR; go_simp; first | exact rfl)
            simp only [Act.put, List.setIfInBounds_toArray, List.set_cons_succ, List.set_cons_zero]
            refine regE_all1 6 (by kernel_rfl) rfl (fun W4 hW4 => ?_)
            go_wp2
            refine ⟨rfl, (Ext.refl _).alloc _, ?_⟩
            refine regE_named fun V4 hV4 => ?_
            have kB : Blk V4 W4.heap.size #[.slice none 0 0, .slice none 0 0] 25 := Blk.of_eq hV4 (Blk.new' rfl)
            have lB : WC.heap.size ≤ W4.heap.size := Nat.le_trans hE.le hW4.le
            have hx : Ext W4 V4 := Ext.of_eq hV4 ((Ext.refl _).alloc _)
            replace hE := hE.trans (hW4.trans hx)
            replace q := q.ext (hW4.trans hx)
            replace qm := own_ext qm (hW4.trans hx)
            clear hx
            clear hV4
            generalize W4.heap.size = BB at *
            refine regE_tail [7] rfl (by kernel_rfl) rfl rfl (fun WT hWT => ?_)
            replace q := q.ext hWT
            replace qm := own_ext qm hWT
            replace kB := kB.ext hWT
            have cB := kB.cell; have fB := kB.frozen
            go_wp2
            refine ⟨rfl, BB, _, a2, c2, ⟨(kB.set_ 0 _).set_ 1 _, lB, ⟨_, _, rfl, (q.set_ne kB (by decide) 0 _).set_ne (kB.set_ 0 _) (by decide) 1 _, ?_⟩, ((hE.trans hWT).set (by have := lB; simp; omega) _).set (by have := lB; simp; omega) _⟩, ?_⟩
            · have n1 := ownsRow_setCell_other qm (a := ⟨BB, 0, none⟩) (own_ne qm kB (by decide)) (.slice a2 c.length c2)
              have n2 := ownsRow_setCell_other n1 (a := ⟨BB, 1, none⟩) (own_ne n1 (kB.set_ 0 (.slice a2 c.length c2)) (by decide)) (.slice (some ⟨GM, 0, none⟩) c.length c.length)
              rw [List.length_replicate]; exact n2
            · simp only [Act.put, List.setIfInBounds_toArray, List.set_cons_succ, List.set_cons_zero]
          · go_wp2
            refine ⟨rfl, (Ext.refl _).alloc _, ?_⟩
            refine regE_named fun V3 hV3 => ?_
            have kB : Blk V3 W3.heap.size #[.slice none 0 0, .slice none 0 0] 25 := Blk.of_eq hV3 (Blk.new' rfl)
            have lB : WC.heap.size ≤ W3.heap.size := Nat.le_trans hE.le hW3.le
            have hx : Ext W3 V3 := Ext.of_eq hV3 ((Ext.refl _).alloc _)
            replace hE := hE.trans (hW3.trans hx)
            replace q := q.ext (hW3.trans hx)
            clear hx
            clear hV3
            generalize W3.heap.size = BB at *
            refine regE_all1 4 (by kernel_rfl) rfl (fun W4 hW4 => ?_)
            go_wp2
            refine ⟨rfl, (Ext.refl _).alloc _, ?_⟩
            refine regE_named fun V4 hV4 => ?_
            have qm : (V4).ownsRow (w.heap.size + 2) 31 2 (.slice (some ⟨W4.heap.size, 0, none⟩) c.length c.length) c.length (maskFlat (List.replicate c.length 0)) := by
              have e : V4 = _ := hV4
              rw [e]; exact own_zeros W4 c.length (Nat.le_trans hl (Nat.le_trans hE.le hW4.le)) (by omega)
            have hx : Ext W4 V4 := Ext.of_eq hV4 ((Ext.refl _).alloc _)
            replace hE := hE.trans (hW4.trans hx)
            replace q := q.ext (hW4.trans hx)
            replace kB := kB.ext (hW4.trans hx)
            clear hx
            clear hV4
            generalize W4.heap.size = GM at *
            refine regE_op 5 rfl (by kernel_rfl) ?_ ?_
            focus (go_simp; done)
            apply Exists.intro
            refine ⟨fun W hW => ?_, ?_⟩
            focus (have hc := hW.cellR; go_simp; first | exact rfl)
            simp only [Act.put, List.setIfInBounds_toArray, List.set_cons_succ, List.set_cons_zero]
            refine regE_tail [7] rfl (by kernel_rfl) rfl rfl (fun WT hWT => ?_)
            replace q := q.ext hWT
            replace qm := own_ext qm hWT
            replace kB := kB.ext hWT
            have cB := kB.cell; have fB := kB.frozen
            go_wp2
            refine ⟨rfl, BB, _, a2, c2, ⟨(kB.set_ 0 _).set_ 1 _, lB, ⟨_, _, rfl, (q.set_ne kB (by decide) 0 _).set_ne (kB.set_ 0 _) (by decide) 1 _, ?_⟩, ((hE.trans hWT).set (by have := lB; simp; omega) _).set (by have := lB; simp; omega) _⟩, ?_⟩
            · have n1 := ownsRow_setCell_other qm (a := ⟨BB, 0, none⟩) (own_ne qm kB (by decide)) (.slice a2 c.length c2)
              have n2 := ownsRow_setCell_other n1 (a := ⟨BB, 1, none⟩) (own_ne n1 (kB.set_ 0 (.slice a2 c.length c2)) (by decide)) (.slice (some ⟨GM, 0, none⟩) c.length c.length)
              rw [List.length_replicate]; exact n2
            · simp only [Act.put, List.setIfInBounds_toArray, List.set_cons_succ, List.set_cons_zero]
        · go_wp2
          refine ⟨rfl, (Ext.refl _).alloc _, ?_⟩
          refine regE_named fun V2 hV2 => ?_
          have qm : (V2).ownsRow (w.heap.size + 2) 31 2 (.slice (some ⟨W2.heap.size, 0, none⟩) c.length c.length) c.length (maskFlat (List.replicate c.length 0)) := by
            have e : V2 = _ := hV2
            rw [e]; exact own_zeros W2 c.length (Nat.le_trans hl (Nat.le_trans hE.le hW2.le)) (by omega)
          have hx : Ext W2 V2 := Ext.of_eq hV2 ((Ext.refl _).alloc _)
          replace hE := hE.trans (hW2.trans hx)
          clear hx
          clear hV2
          generalize W2.heap.size = GM at *
          refine regE_all2 1 6 (by kernel_rfl) rfl rfl (fun W3 hW3 => ?_) (fun W3 hW3 => ?_)
          · go_wp2_with (go_at_call 40; refine (HCl _ (hE.trans hW3)).mono ?_; rintro e V3 ⟨vq, rfl, q, hx⟩; obtain ⟨a2, c2, rfl⟩ := q.form)
            refine ⟨rfl, hx, ?_⟩
            replace q := q.mono (Nat.le_trans hl (Nat.le_trans hE.le hW3.le))
            replace hE := hE.trans (hW3.trans hx)
            replace qm := own_ext qm (hW3.trans hx)
            clear hx
            refine regE_op 5 rfl (by kernel_rfl) ?_ ?_
            focus (go_simp; done)
            apply Exists.intro
            refine ⟨fun W hW => ?_, ?_⟩
            focus (have hc := hW.cellR; go_simp; first | exact rfl)
            simp only [Act.put, List.setIfInBounds_toArray, List.set_cons_succ, List.set_cons_zero]
            refine regE_all1 6 (by kernel_rfl) rfl (fun W4 hW4 => ?_)
            go_wp2
            refine ⟨rfl, (Ext.refl _).alloc _, ?_⟩
            refine regE_named fun V4 hV4 => ?_
            have kB : Blk V4 W4.heap.size #[.slice none 0 0, .slice none 0 0] 25 := Blk.of_eq hV4 (Blk.new' rfl)
            have lB : WC.heap.size ≤ W4.heap.size := Nat.le_trans hE.le hW4.le
            have hx : Ext W4 V4 := Ext.of_eq hV4 ((Ext.refl _).alloc _)
            replace hE := hE.trans (hW4.trans hx)
            replace q := q.ext (hW4.trans hx)
            replace qm := own_ext qm (hW4.trans hx)
            clear hx
            clear hV4
            generalize W4.heap.size = BB at *
            refine regE_tail [7] rfl (by kernel_rfl) rfl rfl (fun WT hWT => ?_)
            replace q := q.ext hWT
            replace qm := own_ext qm hWT
            replace kB := kB.ext hWT
            have cB := kB.cell; have fB := kB.frozen
            go_wp2
            refine ⟨rfl, BB, _, a2, c2, ⟨(kB.set_ 0 _).set_ 1 _, lB, ⟨_, _, rfl, (q.set_ne kB (by decide) 0 _).set_ne (kB.set_ 0 _) (by decide) 1 _, ?_⟩, ((hE.trans hWT).set (by have := lB; simp; omega) _).set (by have := lB; simp; omega) _⟩, ?_⟩
            · have n1 := ownsRow_setCell_other qm (a := ⟨BB, 0, none⟩) (own_ne qm kB (by decide)) (.slice a2 c.length c2)
              have n2 := ownsRow_setCell_other n1 (a := ⟨BB, 1, none⟩) (own_ne n1 (kB.set_ 0 (.slice a2 c.length c2)) (by decide)) (.slice (some ⟨GM, 0, none⟩) c.length c.length)
              rw [List.length_replicate]; exact n2
            · simp only [Act.put, List.setIfInBounds_toArray, List.set_cons_succ, List.set_cons_zero]
          · go_wp2
            refine ⟨rfl, (Ext.refl _).alloc _, ?_⟩
            refine regE_named fun V3 hV3 => ?_
            have kB : Blk V3 W3.heap.size #[.slice none 0 0, .slice none 0 0] 25 := Blk.of_eq hV3 (Blk.new' rfl)
            have lB : WC.heap.size ≤ W3.heap.size := Nat.le_trans hE.le hW3.le
            have hx : Ext W3 V3 := Ext.of_eq hV3 ((Ext.refl _).alloc _)
            replace hE := hE.trans (hW3.trans hx)
            replace qm := own_ext qm (hW3.trans hx)
            clear hx
            clear hV3
            generalize W3.heap.size = BB at *
            refine regE_all1 1 (by kernel_rfl) rfl (fun W4 hW4 => ?_)
            go_wp2_with (go_at_call 40; refine (HCl _ (hE.trans hW4)).mono ?_; rintro e V4 ⟨vq, rfl, q, hx⟩; obtain ⟨a2, c2, rfl⟩ := q.form)
            refine ⟨rfl, hx, ?_⟩
            replace q := q.mono (Nat.le_trans hl (Nat.le_trans hE.le hW4.le))
            replace hE := hE.trans (hW4.trans hx)
            replace qm := own_ext qm (hW4.trans hx)
            replace kB := kB.ext (hW4.trans hx)
            clear hx
            refine regE_op 5 rfl (by kernel_rfl) ?_ ?_
            focus (go_simp; done)
            apply Exists.intro
            refine ⟨fun W hW => ?_, ?_⟩
            focus (have hc := hW.cellR; go_simp; first | exact rfl)
            simp only [Act.put, List.setIfInBounds_toArray, List.set_cons_succ, List.set_cons_zero]
            refine regE_tail [7] rfl (by kernel_rfl) rfl rfl (fun WT hWT => ?_)
            replace q := q.ext hWT
            replace qm := own_ext qm hWT
            replace kB := kB.ext hWT
            have cB := kB.cell; have fB := kB.frozen
            go_wp2
            refine ⟨rfl, BB, _, a2, c2, ⟨(kB.set_ 0 _).set_ 1 _, lB, ⟨_, _, rfl, (q.set_ne kB (by decide) 0 _).set_ne (kB.set_ 0 _) (by decide) 1 _, ?_⟩, ((hE.trans hWT).set (by have := lB; simp; omega) _).set (by have := lB; simp; omega) _⟩, ?_⟩
            · have n1 := ownsRow_setCell_other qm (a := ⟨BB, 0, none⟩) (own_ne qm kB (by decide)) (.slice a2 c.length c2)
              have n2 := ownsRow_setCell_other n1 (a := ⟨BB, 1, none⟩) (own_ne n1 (kB.set_ 0 (.slice a2 c.length c2)) (by decide)) (.slice (some ⟨GM, 0, none⟩) c.length c.length)
              rw [List.length_replicate]; exact n2
            · simp only [Act.put, List.setIfInBounds_toArray, List.set_cons_succ, List.set_cons_zero]
        · go_wp2
          refine ⟨rfl, (Ext.refl _).alloc _, ?_⟩
          refine regE_named fun V2 hV2 => ?_
          have kB : Blk V2 W2.heap.size #[.slice none 0 0, .slice none 0 0] 25 := Blk.of_eq hV2 (Blk.new' rfl)
          have lB : WC.heap.size ≤ W2.heap.size := Nat.le_trans hE.le hW2.le
          have hx : Ext W2 V2 := Ext.of_eq hV2 ((Ext.refl _).alloc _)
          replace hE := hE.trans (hW2.trans hx)
          clear hx
          clear hV2
          generalize W2.heap.size = BB at *
          refine regE_all2 1 4 (by kernel_rfl) rfl rfl (fun W3 hW3 => ?_) (fun W3 hW3 => ?_)
          · go_wp2_with (go_at_call 40; refine (HCl _ (hE.trans hW3)).mono ?_; rintro e V3 ⟨vq, rfl, q, hx⟩; obtain ⟨a2, c2, rfl⟩ := q.form)
            refine ⟨rfl, hx, ?_⟩
            replace q := q.mono (Nat.le_trans hl (Nat.le_trans hE.le hW3.le))
            replace hE := hE.trans (hW3.trans hx)
            replace kB := kB.ext (hW3.trans hx)
            clear hx
            refine regE_all1 4 (by kernel_rfl) rfl (fun W4 hW4 => ?_)
            go_wp2
            refine ⟨rfl, (Ext.refl _).alloc _, ?_⟩
            refine regE_named fun V4 hV4 => ?_
            have qm : (V4).ownsRow (w.heap.size + 2) 31 2 (.slice (some ⟨W4.heap.size, 0, none⟩) c.length c.length) c.length (maskFlat (List.replicate c.length 0)) := by
              have e : V4 = _ := hV4
              rw [e]; exact own_zeros W4 c.length (Nat.le_trans hl (Nat.le_trans hE.le hW4.le)) (by omega)
            have hx : Ext W4 V4 := Ext.of_eq hV4 ((Ext.refl _).alloc _)
            replace hE := hE.trans (hW4.trans hx)
            replace q := q.ext (hW4.trans hx)
            replace kB := kB.ext (hW4.trans hx)
            clear hx
            clear hV4
            generalize W4.heap.size = GM at *
            refine regE_op 5 rfl (by kernel_rfl) ?_ ?_
            focus (go_simp; done)
            apply Exists.intro
            refine ⟨fun W hW => ?_, ?_⟩
            focus (have hc := hW.cellR; go_simp; first | exact rfl)
            simp only [Act.put, List.setIfInBounds_toArray, List.set_cons_succ, List.set_cons_zero]
            refine regE_tail [7] rfl (by kernel_rfl) rfl rfl (fun WT hWT => ?_)
            replace q := q.ext hWT
            replace qm := own_ext qm hWT
            replace kB := kB.ext hWT
            have cB := kB.cell; have fB := kB.frozen
            go_wp2
            refine ⟨rfl, BB, _, a2, c2, ⟨(kB.set_ 0 _).set_ 1 _, lB, ⟨_, _, rfl, (q.set_ne kB (by decide) 0 _).set_ne (kB.set_ 0 _) (by decide) 1 _, ?_⟩, ((hE.trans hWT).set (by have := lB; simp; omega) _).set (by have := lB; simp; omega) _⟩, ?_⟩
            · have n1 := ownsRow_setCell_other qm (a := ⟨BB, 0, none⟩) (own_ne qm kB (by decide)) (.slice a2 c.length c2)
              have n2 := ownsRow_setCell_other n1 (a := ⟨BB, 1, none⟩) (own_ne n1 (kB.set_ 0 (.slice a2 c.length c2)) (by decide)) (.slice (some ⟨GM, 0, none⟩) c.length c.length)
              rw [List.length_replicate]; exact n2
            · simp only [Act.put, List.setIfInBounds_toArray, List.set_cons_succ, List.set_cons_zero]
          · go_wp2
            refine ⟨rfl, (Ext.refl _).alloc _, ?_⟩
            refine regE_named fun V3 hV3 => ?_
            have qm : (V3).ownsRow (w.heap.size + 2) 31 2 (.slice (some ⟨W3.heap.size, 0, none⟩) c.length c.length) c.length (maskFlat (List.replicate c.length 0)) := by
              have e : V3 = _ := hV3
              rw [e]; exact own_zeros W3 c.length (Nat.le_trans hl (Nat.le_trans hE.le hW3.le)) (by omega)
            have hx : Ext W3 V3 := Ext.of_eq hV3 ((Ext.refl _).alloc _)
            replace hE := hE.trans (hW3.trans hx)
            replace kB := kB.ext (hW3.trans hx)
            clear hx
            clear hV3
            generalize W3.heap.size = GM at *
            refine regE_all1 1 (by kernel_rfl) rfl (fun W4 hW4 => ?_)
            go_wp2_with (go_at_call 40; refine (HCl _ (hE.trans hW4)).mono ?_; rintro e V4 ⟨vq, rfl, q, hx⟩; obtain ⟨a2, c2, rfl⟩ := q.form)
            refine ⟨rfl, hx, ?_⟩
            replace q := q.mono (Nat.le_trans hl (Nat.le_trans hE.le hW4.le))
            replace hE := hE.trans (hW4.trans hx)
            replace qm := own_ext qm (hW4.trans hx)
            replace kB := kB.ext (hW4.trans hx)
            clear hx
            refine regE_op 5 rfl (by kernel_rfl) ?_ ?_
            focus (go_simp; done)
            apply Exists.intro
            refine ⟨fun W hW => ?_, ?_⟩
            focus (have hc := hW.cellR; go_simp; first | exact rfl)
            simp only [Act.put, List.setIfInBounds_toArray, List.set_cons_succ, List.set_cons_zero]
            refine regE_tail [7] rfl (by kernel_rfl) rfl rfl (fun WT hWT => ?_)
            replace q := q.ext hWT
            replace qm := own_ext qm hWT
            replace kB := kB.ext hWT
            have cB := kB.cell; have fB := kB.frozen
            go_wp2
            refine ⟨rfl, BB, _, a2, c2, ⟨(kB.set_ 0 _).set_ 1 _, lB, ⟨_, _, rfl, (q.set_ne kB (by decide) 0 _).set_ne (kB.set_ 0 _) (by decide) 1 _, ?_⟩, ((hE.trans hWT).set (by have := lB; simp; omega) _).set (by have := lB; simp; omega) _⟩, ?_⟩
            · have n1 := ownsRow_setCell_other qm (a := ⟨BB, 0, none⟩) (own_ne qm kB (by decide)) (.slice a2 c.length c2)
              have n2 := ownsRow_setCell_other n1 (a := ⟨BB, 1, none⟩) (own_ne n1 (kB.set_ 0 (.slice a2 c.length c2)) (by decide)) (.slice (some ⟨GM, 0, none⟩) c.length c.length)
              rw [List.length_replicate]; exact n2
            · simp only [Act.put, List.setIfInBounds_toArray, List.set_cons_succ, List.set_cons_zero]
      · intro a' W3 hR
        obtain ⟨B, g, a2, c2, ⟨kB, lB, hq, hx3⟩, rfl⟩ := hR
        simp only [Act.put, List.setIfInBounds_toArray, List.set_cons_succ, List.set_cons_zero]
        replace ka := ka.ext hx3
        replace kr := kr.ext hx3
        replace hB := hB.trans hx3
        clear hx3 hmk HCl
        by_cases hne : c = []
        · have E : Hid (r = (⟨[], []⟩, 0)) := by unfold Hid; rw [V3.out, if_pos hne]
          subst hne
          have cr := kr.cell; have fr := kr.frozen
          simp only [List.length_nil]
          clear V3 hq har ha0 hc0
          generalize a.length = n1 at *
          go_wp2
          have cr2 := ((kr.set_ 0 (.slice none 0 0)).set_ 1 (.slice none 0 0)).cell
          exact bodyPost_ret (v := .tuple #[.agg #[.slice none 0 0, .slice none 0 0], .int .i64 0]) (by simp [results, Try.results13, go_sem, cr2]) rfl ⟨_, by rw [E.out], by rw [E.out]; exact OwnLists.nil _ _ _, (hB.set (by simp) _).set (by simp) _⟩
        · have hd : ((c.length : Int) == 0) = false := by
            have := List.length_pos_iff.2 hne
            simp; omega
          have V4 : Hid (lsFill c (a.drop 0) 0 ⟨c, List.replicate c.length 0⟩ = r) := by unfold Hid; rw [V3.out, if_neg hne, List.drop_zero]
          obtain ⟨ss, hU⟩ := URow.of har
          clear V3 hne har
          have ca := ka.cell
          have hlB : w.heap.size + 2 ≤ B := Nat.le_trans hl lB
          go_wp2
          clear ca hd
          go_loopg [35] a.length (fun gg s8 wr => ∃ (k : Nat) (L : Lists) (v1 v2 : Value), k ≤ a.length ∧ a.length - k ≤ gg ∧ s8 = .int .i64 k ∧ Hid (lsFill c (a.drop k) k L = r) ∧ Hid (L.cents = c ∧ L.masks.length = c.length) ∧ Blk wr B #[v1, v2] 25 ∧ OwnLists (w.heap.size + 2) w wr (.agg #[v1, v2]) L ∧ Blk wr (w.heap.size + 1) #[.slice none 0 0, .slice none 0 0] 25 ∧ Ext w wr)
          case atStart => exact ⟨0, _, _, _, Nat.zero_le _, by omega, rfl, V4, ⟨rfl, List.length_replicate⟩, kB, hq, kr, hB⟩
          case round =>
            clear kB hq kr hB V4 ka
            obtain ⟨k, L, v1, v2, hk, hg, rfl, hF, hL, kB, hq, kr, hB⟩ := hrel
            by_cases hlt : k < a.length
            · obtain ⟨b, off, rfl, hS, c0, c1', c2', c3', c4'⟩ := hU.ext hB k hlt
              obtain ⟨a3, cc3, hs, _, _, _⟩ := hS.form
              have hx := run_at (P := Try.prog) 37 50 5 Try.underlying37 Try.sizeOf50 (c := ca) (a := some ⟨b, off, none⟩) rfl hlt
              have ST : Hid _ := (lsFill_step c a k L hlt).symm.trans hF.out
              have HN := fun W (h : Ext wr W) => Nearest_any c (a.getD k cellNone).ver.vec _ _ W (by omega) (hc0.ext (hB.trans h)) (hS.ext h)
              rw [hs] at c4' HN
              clear hs hS hU hF
              generalize (a.getD k cellNone).ver.vec.length = n3 at *
              have hp := vNearest c (a.getD k cellNone).ver.vec
              generalize hpq : vNearest c (a.getD k cellNone).ver.vec = pq at *
              clear hpq hp
              obtain ⟨p, q⟩ := pq
              generalize a.getD k cellNone = x at *
              obtain ⟨u, i, bg, eg, xv⟩ := x
              dsimp only at *
              have hLc := hL.out.1
              have hLm := hL.out.2
              obtain ⟨hv1, hv2⟩ := hq.parts (by rw [hLc]; omega) (by rw [hLm]; omega)
              have HP := fun W (h : Ext wr W) => lput_any L p k v1 v2 w W (hv1.ext h) (hB.trans h) (hv2.ext h) (by rw [hLc]; omega) (by rw [hLm]; omega)
              have hLp : Hid ((lsPut L p k).cents = c ∧ (lsPut L p k).masks.length = c.length) := by
                rw [lsPut_eq]; exact ⟨hLc, by rw [wMap_len]; exact hLm⟩
              have hL2 : Hid _ := hL.out
              clear hLc hLm hL hv1 hv2 hc0 ha0
              have lB' := kB.lt
              cases u with
              | false =>
                have E : Hid (lsFill c (a.drop (k + 1)) (k + 1) L = r) := ST.out
                clear ST HN HP hLp
                go_wp2
                go_roundg (a.length - (k + 1))
                case measure => omega
                case rel => exact ⟨k + 1, L, v1, v2, by omega, by omega, by go_num, E, hL2, kB.alloc _, hq.ext ((Ext.refl _).alloc _), kr.alloc _, hB.alloc _⟩
              | true =>
                by_cases hq0 : q = 0
                · subst hq0
                  have E : Hid (lsFill c (a.drop (k + 1)) (k + 1) (lsPut L p k) = r) := ST.out
                  clear ST
                  go_wp2_with (first
                    | (go_at_call 41; refine (HN _ ((Ext.refl _).alloc _)).mono ?_; rintro e V ⟨rfl, hx1⟩; have hE1 := ((Ext.refl wr).alloc (.cells #[.bool true, .int .u64 i, .int .u64 bg, .int .u64 eg, .slice a3 n3 cc3] 50)).trans hx1; have kB1 := kB.ext hE1; have cB := kB1.cell; have lB1 := kB1.lt)
                    | (go_at_call 42; refine (HP _ hE1).mono ?_; rintro e V2 ⟨v, rfl, qq, hx2⟩; obtain ⟨a5, c5, a6, c6, rfl⟩ := qq.form; have kB2 := kB1.ext hx2; have fB := kB2.frozen; have cB2 := kB2.cell))
                  go_roundg (a.length - (k + 1))
                  case measure => omega
                  case rel => exact ⟨k + 1, _, _, _, by omega, by omega, by go_num, E, hLp, (kB2.set_ 0 _).set_ 1 _, ((qq.set (by omega) _).set (by omega) _).mono (by omega), (((kr.ext hE1).ext hx2).far (by simp; omega) _).far (by simp; omega) _, (((hB.trans hE1).trans hx2).set (by simp; omega) _).set (by simp; omega) _⟩
                · have E : Hid (r = (⟨[], []⟩, q)) := by
                    have := ST.out
                    rw [if_pos rfl, if_neg hq0] at this
                    exact this.symm
                  have dq : (q != 0) = true := by simpa using hq0
                  clear ST HP hq0
                  go_wp2_with (go_at_call 41; refine (HN _ ((Ext.refl _).alloc _)).mono ?_; rintro e V ⟨rfl, hx1⟩; have hE1 := ((Ext.refl wr).alloc (.cells #[.bool true, .int .u64 i, .int .u64 bg, .int .u64 eg, .slice a3 n3 cc3] 50)).trans hx1; have kr1 := kr.ext hE1; have cr := kr1.cell; have fr := kr1.frozen)
                  have cr2 := ((kr1.set_ 0 (.slice none 0 0)).set_ 1 (.slice none 0 0)).cell
                  exact bodyPost_ret (v := .tuple #[.agg #[.slice none 0 0, .slice none 0 0], .int .i64 q]) (by simp [results, Try.results13, go_sem, cr2]) rfl ⟨_, by rw [E.out], by rw [E.out]; exact OwnLists.nil _ _ _, ((hB.trans hE1).set (by simp) _).set (by simp) _⟩
            · obtain rfl : k = a.length := by omega
              have E : Hid (r = (L, 0)) := by
                unfold Hid
                rw [← hF.out, List.drop_length]; rfl
              obtain ⟨a3, c3, a4, c4, e⟩ := hq.form
              simp only [Value.agg.injEq, Array.mk.injEq, List.cons.injEq, and_true] at e
              obtain ⟨rfl, rfl⟩ := e
              have cB := kB.cell
              have cr := kr.cell; have fr := kr.frozen
              clear hF
              generalize a.length = n1 at *
              go_wp2
              have cr2 := ((kr.set_ 0 (.slice a3 L.cents.length c3)).set_ 1 (.slice a4 L.masks.length c4)).cell
              exact bodyPost_ret (v := .tuple #[.agg #[.slice a3 L.cents.length c3, .slice a4 L.masks.length c4], .int .i64 0]) (by simp [results, Try.results13, go_sem, cr2]) rfl ⟨_, by rw [E.out], by rw [E.out]; exact ((hq.set (p := ⟨w.heap.size + 1, 0, none⟩) (by simp) _).set (p := ⟨w.heap.size + 1, 1, none⟩) (by simp) _).mono (by omega), (hB.set (by simp) _).set (by simp) _⟩

end Go.Proofs.Ytiolpknfdabijaa
