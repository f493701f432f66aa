/- Lists: Check. -/
import Derived.Test.YtiolpknfdabijaaProg
import Derived.Test.YtiolpknfdabijaaLib
import Derived.Test.YtiolpknfdabijaaPure
import Derived.Test.YtiolpknfdabijaaMask2
import Derived.Test.YtiolpknfdabijaaVec
import Derived.Test.YtiolpknfdabijaaVec2
import Derived.Test.YtiolpknfdabijaaLists
import Derived.Test.YtiolpknfdabijaaReg
set_option linter.unusedVariables false
set_option maxRecDepth 4000
set_option linter.unusedSimpArgs false
namespace Go.Proofs.Ytiolpknfdabijaa
open Go.RowKit


theorem cut_region {P : Program} {c : Code} {Q : Exit → Act → World → Prop} {a : Act} {w : World} (R : Act → Act → World → Prop) (h : ∀ Q0 : Exit → Act → World → Prop, (∀ a' w', R a a' w' → Q0 .normal a' w') → c.wp P Q0 a w) (hR : ∀ a' w', R a a' w' → Q .normal a' w') : c.wp P Q a w := h Q hR
def lsErr (l : Lists) : Int := if lsOk l then 0 else 230
def metAt (ms : List Mask) (k : Nat) : Mask := mAnds [ms.getD k 0, mOr (ms.take k)]
def disjAt (ms : List Mask) (k : Nat) : Bool := mCheck (ms.getD k 0) && decide (mCount (metAt ms k) = 0)
theorem lsDisj_all {ms : List Mask} (h : ∀ i, i < ms.length → disjAt ms i = true) : lsDisj ms = true := by
  unfold lsDisj
  rw [List.all_eq_true]
  intro i hi
  exact h i (by simpa using hi)
theorem lsDisj_not {ms : List Mask} {k : Nat} (hk : k < ms.length) (h : disjAt ms k = false) : lsDisj ms = false := by
  unfold lsDisj
  rw [Bool.eq_false_iff]
  intro e
  have := List.all_eq_true.1 e k (by simpa using hk)
  unfold disjAt metAt at h
  rw [h] at this; cases this
theorem litm2_sl {w : World} {g t : Nat} (m n : Mask) (h : Blk w g #[.int .u64 (lo m), .int .u64 (hi m), .int .u64 (lo n), .int .u64 (hi n)] t) : kMask.Sl w (.slice (some ⟨g, 0, none⟩) 2 2) [m, n] := by
  refine Kd.Sl.mk (Nat.le_refl _) (by simp) (fun k x hk => ?_)
  match k, hk with
  | 0, hk =>
    simp at hk
    subst hk
    refine ⟨g, 0, _, rfl, rfl, fun i v hv => ?_⟩
    have e : (⟨g, 0 + 0 * kMask.sz + i, none⟩ : Addr) = ⟨g, i, none⟩ := by simp
    rw [e, h.cell]
    match i, hv with
    | 0, hv => simpa using hv
    | 1, hv => simpa using hv
  | 1, hk =>
    simp at hk
    subst hk
    refine ⟨g, 0, _, rfl, rfl, fun i v hv => ?_⟩
    match i, hv with
    | 0, hv => 
      have e : (⟨g, 0 + 1 * kMask.sz + 0, none⟩ : Addr) = ⟨g, 2, none⟩ := by simp [kMask, Kd.plain]
      rw [e, h.cell]; simpa using hv
    | 1, hv =>
      have e : (⟨g, 0 + 1 * kMask.sz + 1, none⟩ : Addr) = ⟨g, 3, none⟩ := by simp [kMask, Kd.plain]
      rw [e, h.cell]; simpa using hv
set_option maxHeartbeats 4000000 in
set_option maxRecDepth 100000 in
theorem lcheck_any (l : Lists) (cv mv : Value) (w : World) (hc : kVec.Sl w cv l.cents) (hm : kMask.Sl w mv l.masks) :
    Calls Try.prog 34 #[.agg #[cv, mv]] w fun e w' => e = .returned (.int .i64 (lsErr l)) ∧ Ext w w' := by
  obtain ⟨cs, ms⟩ := l
  dsimp only at hc hm
  have H := fun W (hx : Ext w W) => cents_any cs cv W (hc.ext hx)
  have HM := hm
  obtain ⟨a1, c1, rfl, _, hl1, _⟩ := hc.form
  obtain ⟨a, c, rfl, hcc, hl, hr⟩ := hm.form
  have V : Hid (lsErr ⟨cs, ms⟩ = if (centsOk cs && decide (ms.length = cs.length) && lsDisj ms) = true then 0 else 230) := rfl
  have hl1' : cs.length < 9223372036854775807 := by omega
  have hl2' : ms.length < 9223372036854775807 := by omega
  generalize lsErr ⟨cs, ms⟩ = r at *
  clear hc hm
  cases h0 : centsOk cs with
  | false =>
    have E : Hid (r = 230) := by unfold Hid; rw [V.out, h0]; rfl
    rw [h0] at H
    clear V h0 hr HM
    generalize cs.length = n1 at *
    generalize ms.length = n2 at *
    go_enter Try.func34, Try.ntmps34
    go_wp2_with (go_at_call 39; refine (H _ ((Ext.refl _).alloc _)).mono ?_; rintro y w' ⟨rfl, hx⟩)
    go_ret
    exact ⟨ret_int E.out.symm, ((Ext.refl _).alloc _).trans hx⟩
  | true =>
    rw [h0] at H
    by_cases hn : ms.length = cs.length
    · have dn : ((ms.length : Int) != (cs.length : Int)) = false := by simp [hn]
      have V2 : Hid (r = if lsDisj ms = true then 0 else 230) := by unfold Hid; rw [V.out, h0]; simp [hn]
      clear V hn h0
      generalize cs.length = n1 at *
      go_enter Try.func34, Try.ntmps34
      go_wp2_with (go_at_call 39; refine (H _ ((Ext.refl _).alloc _)).mono ?_; rintro y W0 ⟨rfl, hx⟩; have kb := (Blk.new' (w := w) (b := w.heap.size) (cs := #[.slice a1 n1 c1, .slice a ms.length c]) (t := 25) rfl).ext hx; have cb := kb.cell)
      have hB : Ext w W0 := ((Ext.refl _).alloc _).trans hx
      clear hx H cb dn
      go_loopg [22] ms.length (fun gg s8 wr => ∃ k : Nat, k ≤ ms.length ∧ ms.length - k ≤ gg ∧ s8 = .int .i64 k ∧ Hid (∀ i, i < k → disjAt ms i = true) ∧ Blk wr w.heap.size #[.slice a1 n1 c1, .slice a ms.length c] 25 ∧ Ext w wr)
      case atStart => exact ⟨0, Nat.zero_le _, by omega, rfl, by intro i hi; omega, kb, hB⟩
      case round =>
        clear kb hB
        obtain ⟨k, hk, hg, rfl, hno, kb, hB⟩ := hrel
        by_cases hlt : k < ms.length
        · obtain ⟨b, off, cs1, rfl, rfl, hcell⟩ := (hr.ext hB).at_ hlt
          have hx := run_at (P := Try.prog) 23 31 2 Try.underlying23 Try.sizeOf31 (c := c) (a := some ⟨b, off, none⟩) rfl hlt
          have c0 : wr.cell? ⟨b, off + k * 2, none⟩ = _ := hcell 0 _ rfl
          have c1 : wr.cell? ⟨b, off + k * 2 + 1, none⟩ = _ := hcell 1 _ rfl
          have eg : ms.getD k 0 = ms[k] := by rw [List.getD_eq_getElem?_getD, List.getElem?_eq_getElem hlt]; rfl
          have HO := fun W (h : Ext w W) => ors_any (ms.take k) (.slice (some ⟨b, off, none⟩) k c) W ⟨some ⟨b, off, none⟩, c, by rw [List.length_take, Nat.min_eq_left hk], by rw [List.length_take]; omega, by rw [List.length_take]; omega, Kd.Row.take_ (hr.ext h) k⟩
          have HA := fun v W h => ands_any [ms[k]'hlt, mOr (ms.take k)] v W h
          have eD : Hid (disjAt ms k = (mCheck ms[k] && decide (mCount (mAnds [ms[k], mOr (ms.take k)]) = 0))) := by unfold Hid disjAt metAt; rw [eg]
          have yes : Hid (disjAt ms k = true → ∀ i, i < k + 1 → disjAt ms i = true) := fun h i hi => by
            rcases Nat.lt_or_ge i k with h' | h'
            · exact hno.out i h'
            · rwa [show i = k by omega]
          have no : Hid (disjAt ms k = false → r = 230) := fun h => by rw [V2.out, lsDisj_not hlt h]; rfl
          clear hcell eg
          generalize ms[k] = m at *
          generalize mOr (ms.take k) = o at *
          generalize disjAt ms k = dj at *
          generalize ms.length = n at *
          have cb := kb.cell
          have lb := kb.lt
          have hk0 : (0 : Int) ≤ (k : Int) := by omega
          have hk1 : (k : Int) ≤ (c : Int) := by omega
          go_wp2
          refine named fun WA hWA => ?_
          have km : Blk WA wr.heap.size #[.int .u64 (lo m), .int .u64 (hi m)] 31 := Blk.of_eq hWA (Blk.new' rfl)
          replace kb : Blk WA w.heap.size #[.slice a1 n1 _, .slice (some ⟨b, off, none⟩) n c] 25 := Blk.of_eq hWA (kb.alloc _)
          replace hB : Ext w WA := Ext.of_eq hWA (hB.alloc _)
          clear hWA cb lb hr V2 hno
          generalize wr.heap.size = B4 at *
          have cm := km.cell
          have cb := kb.cell
          have lm := km.lt
          have lb := kb.lt
          refine cut_reg (fun a' a'' w' => Ext WA w' ∧ ∃ g B, Blk w' B #[.int .u64 (lo (mAnds [m, o])), .int .u64 (hi (mAnds [m, o]))] 31 ∧ a'' = (((((((((a'.put (some 27) (.agg #[.int .u64 (lo (m)), .int .u64 (hi (m))])).put (some 28) (.pointer (some ⟨w.heap.size, 1, none⟩))).put (some 29) (.slice (some ⟨b, off, none⟩) n c)).put (some 30) (.int .i64 k)).put (some 31) (.slice (some ⟨b, off, none⟩) k c)).put (some 32) (.agg #[.int .u64 (lo (o)), .int .u64 (hi (o))])).put (some 33) (.slice (some ⟨g, 0, none⟩) 2 2)).put (some 34) (.agg #[.int .u64 (lo (mAnds [m, o])), .int .u64 (hi (mAnds [m, o]))])).put (some 5) (.pointer (some ⟨B, 0, none⟩)))) ?_ ?_
          · refine region_reg (L0 := #[true, true, true, true, true, true, true, true, true, false]) (by kernel_rfl) (fun WB hWB => ?_)
            replace km := km.ext hWB
            replace kb := kb.ext hWB
            clear lm lb cm cb
            have cm := km.cell
            have cb := kb.cell
            refine regE_op 0 rfl (by kernel_rfl) ?_ ?_
            focus (go_simp; done)
            apply Exists.intro
            refine ⟨fun W hW => ?_, ?_⟩
            focus (have hc := hW.cellR; go_simp; first | exact rfl | (go_at_call 10; refine (HO _ (hB.trans (hWB.trans hW))).mono ?_; rintro e w' ⟨rfl, hx⟩; exact ⟨rfl, hx⟩))
            simp only [Act.put, List.setIfInBounds_toArray, List.set_cons_succ, List.set_cons_zero]
            refine regE_op 1 rfl (by kernel_rfl) ?_ ?_
            focus (go_simp; done)
            apply Exists.intro
            refine ⟨fun W hW => ?_, ?_⟩
            focus (have hc := hW.cellR; go_simp; first | exact rfl | (go_at_call 10; refine (HO _ (hB.trans (hWB.trans hW))).mono ?_; rintro e w' ⟨rfl, hx⟩; exact ⟨rfl, hx⟩))
            simp only [Act.put, List.setIfInBounds_toArray, List.set_cons_succ, List.set_cons_zero]
            refine regE_op 2 rfl (by kernel_rfl) ?_ ?_
            focus (go_simp; done)
            apply Exists.intro
            refine ⟨fun W hW => ?_, ?_⟩
            focus (have hc := hW.cellR; go_simp; first | exact rfl | (go_at_call 10; refine (HO _ (hB.trans (hWB.trans hW))).mono ?_; rintro e w' ⟨rfl, hx⟩; exact ⟨rfl, hx⟩))
            simp only [Act.put, List.setIfInBounds_toArray, List.set_cons_succ, List.set_cons_zero]
            refine regE_op 3 rfl (by kernel_rfl) ?_ ?_
            focus (go_simp; done)
            apply Exists.intro
            refine ⟨fun W hW => ?_, ?_⟩
            focus (have hc := hW.cellR; go_simp; first | exact rfl | (go_at_call 10; refine (HO _ (hB.trans (hWB.trans hW))).mono ?_; rintro e w' ⟨rfl, hx⟩; exact ⟨rfl, hx⟩))
            simp only [Act.put, List.setIfInBounds_toArray, List.set_cons_succ, List.set_cons_zero]
            refine regE_op 4 rfl (by kernel_rfl) ?_ ?_
            focus (go_simp; done)
            apply Exists.intro
            refine ⟨fun W hW => ?_, ?_⟩
            focus (have hc := hW.cellR; go_simp; first | exact rfl | (go_at_call 10; refine (HO _ (hB.trans (hWB.trans hW))).mono ?_; rintro e w' ⟨rfl, hx⟩; exact ⟨rfl, hx⟩))
            simp only [Act.put, List.setIfInBounds_toArray, List.set_cons_succ, List.set_cons_zero]
            refine regE_op 5 rfl (by kernel_rfl) ?_ ?_
            focus (go_simp; done)
            apply Exists.intro
            refine ⟨fun W hW => ?_, ?_⟩
            focus (have hc := hW.cellR; go_simp; first | exact rfl | (go_at_call 10; refine (HO _ (hB.trans (hWB.trans hW))).mono ?_; rintro e w' ⟨rfl, hx⟩; exact ⟨rfl, hx⟩))
            simp only [Act.put, List.setIfInBounds_toArray, List.set_cons_succ, List.set_cons_zero]
            refine regE_all2 6 8 (by kernel_rfl) rfl rfl (fun W hW => ?_) (fun W hW => ?_)
            · go_wp2
              refine ⟨rfl, (Ext.refl _).alloc _, ?_⟩
              refine regE_named fun W2 hW2 => ?_
              have kg : Blk W2 W.heap.size #[.int .u64 (lo m), .int .u64 (hi m), .int .u64 (lo o), .int .u64 (hi o)] 31 := Blk.of_eq hW2 (Blk.new' rfl)
              have hE : Ext WA W2 := Ext.of_eq hW2 ((hWB.trans hW).alloc _)
              clear hW2 cm cb
              refine regE_op 7 rfl (by kernel_rfl) ?_ ?_
              focus (go_simp; done)
              apply Exists.intro
              refine ⟨fun W hW => ?_, ?_⟩
              focus (have hc := hW.cellR; go_simp; first | exact rfl | (go_at_call 74; refine (HA _ _ (litm2_sl m o (kg.ext hW))).mono ?_; rintro e w1 ⟨rfl, hx⟩; exact ⟨rfl, hx⟩))
              simp only [Act.put, List.setIfInBounds_toArray, List.set_cons_succ, List.set_cons_zero]
              refine regE_all1 8 (by kernel_rfl) rfl (fun W3 hW3 => ?_)
              go_wp2
              refine ⟨rfl, (Ext.refl _).alloc _, ?_⟩
              refine regE_named fun W4 hW4 => ?_
              have kn : Blk W4 W3.heap.size #[.int .u64 0, .int .u64 0] 31 := Blk.of_eq hW4 (Blk.new' rfl)
              have hE4 : Ext WA W4 := Ext.of_eq hW4 ((hE.trans hW3).alloc _)
              refine regE_tail [9] rfl (by kernel_rfl) rfl rfl (fun W5 hW5 => ?_)
              have kn5 := kn.ext hW5
              have c5 := kn5.cell; have f5 := kn5.frozen
              go_wp2
              refine ⟨rfl, ((hE4.trans hW5).set (by have := hE.le; have := hW3.le; simp; omega) _).set (by have := hE.le; have := hW3.le; simp; omega) _, W.heap.size, W3.heap.size, (kn5.set_ 0 _).set_ 1 _, ?_⟩
              simp only [Act.put, List.setIfInBounds_toArray, List.set_cons_succ, List.set_cons_zero]
            · go_wp2
              refine ⟨rfl, (Ext.refl _).alloc _, ?_⟩
              refine regE_named fun W2 hW2 => ?_
              have kn : Blk W2 W.heap.size #[.int .u64 0, .int .u64 0] 31 := Blk.of_eq hW2 (Blk.new' rfl)
              have hE : Ext WA W2 := Ext.of_eq hW2 ((hWB.trans hW).alloc _)
              have hl : WA.heap.size ≤ W.heap.size := (hWB.trans hW).le
              clear hW2 cm cb
              refine regE_all1 6 (by kernel_rfl) rfl (fun W3 hW3 => ?_)
              go_wp2
              refine ⟨rfl, (Ext.refl _).alloc _, ?_⟩
              refine regE_named fun W4 hW4 => ?_
              have kg : Blk W4 W3.heap.size #[.int .u64 (lo m), .int .u64 (hi m), .int .u64 (lo o), .int .u64 (hi o)] 31 := Blk.of_eq hW4 (Blk.new' rfl)
              replace kn : Blk W4 W.heap.size #[.int .u64 0, .int .u64 0] 31 := Blk.of_eq hW4 ((kn.ext hW3).alloc _)
              have hE4 : Ext WA W4 := Ext.of_eq hW4 ((hE.trans hW3).alloc _)
              clear hW4
              refine regE_op 7 rfl (by kernel_rfl) ?_ ?_
              focus (go_simp; done)
              apply Exists.intro
              refine ⟨fun W hW => ?_, ?_⟩
              focus (have hc := hW.cellR; go_simp; first | exact rfl | (go_at_call 74; refine (HA _ _ (litm2_sl m o (kg.ext hW))).mono ?_; rintro e w1 ⟨rfl, hx⟩; exact ⟨rfl, hx⟩))
              simp only [Act.put, List.setIfInBounds_toArray, List.set_cons_succ, List.set_cons_zero]
              refine regE_tail [9] rfl (by kernel_rfl) rfl rfl (fun W5 hW5 => ?_)
              have kn5 := kn.ext hW5
              have c5 := kn5.cell; have f5 := kn5.frozen
              go_wp2
              refine ⟨rfl, ((hE4.trans hW5).set (by simp; omega) _).set (by simp; omega) _, W3.heap.size, W.heap.size, (kn5.set_ 0 _).set_ 1 _, ?_⟩
              simp only [Act.put, List.setIfInBounds_toArray, List.set_cons_succ, List.set_cons_zero]
          · intro a' W1 hR
            obtain ⟨hx1, g, B, kB, rfl⟩ := hR
            simp only [Act.put, List.setIfInBounds_toArray, List.set_cons_succ, List.set_cons_zero]
            replace km := km.ext hx1
            replace kb := kb.ext hx1
            replace hB := hB.trans hx1
            have hC := fun W => check_any m W
            have hN := fun W => count_any (mAnds [m, o]) W
            have hNp : 0 ≤ mCount (mAnds [m, o]) := by unfold mCount; omega
            clear HO HA hx hx1 c0 c1 cb cm lm lb
            have cm := km.cell
            generalize mAnds [m, o] = me at *
            generalize mCount me = cnt at *
            cases hm0 : mCheck m with
            | false =>
              have E : Hid (r = 230) := no.out (by rw [eD.out, hm0]; rfl)
              rw [hm0] at hC
              clear no yes eD hm0
              go_wp2_with (go_at_call 75; refine (hC _).mono ?_; rintro e w' ⟨rfl, hx⟩)
              go_ret
              exact ⟨ret_int E.out.symm, hB.trans hx⟩
            | true =>
              rw [hm0] at hC
              by_cases h00 : cnt = 0
              · have E : Hid _ := yes.out (by rw [eD.out, hm0, decide_eq_true h00]; rfl)
                have d : decide (0 < cnt) = false := by simp; omega
                clear no yes eD hm0 h00
                go_wp2_with (first | (go_at_call 75; refine (hC _).mono ?_; rintro e w1 ⟨rfl, hx⟩; have k1 := kB.ext hx; have c1 := k1.cell) | (go_at_call 14; refine (hN _).mono ?_; rintro e w2 ⟨rfl, hx2⟩))
                go_roundg (n - (k + 1))
                case measure => omega
                case rel => exact ⟨k + 1, by omega, by omega, by go_num, E, (kb.ext hx).ext hx2, (hB.trans hx).trans hx2⟩
              · have E : Hid (r = 230) := no.out (by rw [eD.out, decide_eq_false h00, Bool.and_false])
                have d : decide (0 < cnt) = true := by simp; omega
                clear no yes eD hm0 h00
                go_wp2_with (first | (go_at_call 75; refine (hC _).mono ?_; rintro e w1 ⟨rfl, hx⟩; have k1 := kB.ext hx; have c1 := k1.cell) | (go_at_call 14; refine (hN _).mono ?_; rintro e w2 ⟨rfl, hx2⟩))
                go_ret
                exact ⟨ret_int E.out.symm, (hB.trans hx).trans hx2⟩
        · obtain rfl : k = ms.length := by omega
          have E : Hid (r = 0) := by unfold Hid; rw [V2.out, lsDisj_all hno.out]; rfl
          clear V2 hno
          go_wp2
          go_ret
          exact ⟨ret_int E.out.symm, hB⟩
    · have dn : ((ms.length : Int) != (cs.length : Int)) = true := by simp; omega
      have E : Hid (r = 230) := by unfold Hid; rw [V.out, h0]; simp [hn]
      clear V hn h0 hr HM
      generalize cs.length = n1 at *
      generalize ms.length = n2 at *
      go_enter Try.func34, Try.ntmps34
      go_wp2_with (go_at_call 39; refine (H _ ((Ext.refl _).alloc _)).mono ?_; rintro y W0 ⟨rfl, hx⟩; have kb := (Blk.new' (w := w) (b := w.heap.size) (cs := #[.slice a1 n1 c1, .slice a n2 c]) (t := 25) rfl).ext hx; have cb := kb.cell)
      go_ret
      exact ⟨ret_int E.out.symm, ((Ext.refl _).alloc _).trans hx⟩

end Go.Proofs.Ytiolpknfdabijaa
