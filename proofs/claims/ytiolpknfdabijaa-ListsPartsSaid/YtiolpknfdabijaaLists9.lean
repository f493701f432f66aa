/- Lists: Same. -/
import Derived.Test.YtiolpknfdabijaaProg
import Derived.Test.YtiolpknfdabijaaLib
import Derived.Test.YtiolpknfdabijaaPure
import Derived.Test.YtiolpknfdabijaaMask
import Derived.Test.YtiolpknfdabijaaMask2
import Derived.Test.YtiolpknfdabijaaVec
import Derived.Test.YtiolpknfdabijaaVec2
import Derived.Test.YtiolpknfdabijaaLib2
import Derived.Test.YtiolpknfdabijaaLists
set_option linter.unusedVariables false
set_option maxRecDepth 4000
set_option linter.unusedSimpArgs false
namespace Go.Proofs.Ytiolpknfdabijaa
open Go.RowKit


set_option maxHeartbeats 1000000 in
/-- slices.Equal. -/
theorem equal_mask (xs ys : List Mask) (v u : Value) (w : World) (h : kMask.Sl w v xs) (h' : kMask.Sl w u ys) :
    Calls Try.prog 100 #[v, u] w fun e w' => e = .returned (.bool (decide (xs = ys))) ∧ Ext w w' := by
  obtain ⟨a, c, rfl, hc, hl, hr⟩ := h.form
  obtain ⟨a2, c2, rfl, hc2, hl2, hr2⟩ := h'.form
  by_cases hn : xs.length = ys.length
  · have V : Hid (∀ r, r = decide (xs = ys) → (r = true ↔ xs = ys)) := fun r e => by rw [e]; simp
    generalize hR : decide (xs = ys) = R
    have V := V.out R hR.symm
    have V : Hid _ := V
    clear hR h h'
    have hn' : Hid _ := hn
    have dl : ((xs.length : Int) != (ys.length : Int)) = false := by simp [hn]
    generalize hm : ys.length = m at *
    have hm' : Hid _ := hm
    clear hm hn
    go_enter Try.func100, Try.ntmps100
    go_wp2
    go_loopg [13] xs.length (fun gg s8 wr => ∃ k : Nat, k ≤ xs.length ∧ xs.length - k ≤ gg ∧ s8 = .int .i64 k ∧ Hid (xs.take k = ys.take k) ∧ Ext w wr)
    case atStart => exact ⟨0, Nat.zero_le _, by omega, rfl, by simp [Hid], Ext.refl _⟩
    case round =>
      obtain ⟨k, hk, hg, rfl, hno, hB⟩ := hrel
      by_cases hlt : k < xs.length
      · have hlt2 : k < ys.length := by rw [hm'.out, ← hn'.out]; exact hlt
        have hlt3 : k < m := by rw [← hm'.out]; exact hlt2
        obtain ⟨b, off, cs, ha, rfl, hcell⟩ := (hr.ext hB).at_ hlt
        obtain ⟨b2, off2, cs2, ha2, rfl, hcell2⟩ := (hr2.ext hB).at_ hlt2
        have hx := run_at (P := Try.prog) 23 31 2 Try.underlying23 Try.sizeOf31 (c := c) ha hlt
        have hy := run_at (P := Try.prog) 23 31 2 Try.underlying23 Try.sizeOf31 (c := c2) ha2 hlt3
        have x0 : wr.cell? ⟨b, off + k * 2, none⟩ = _ := hcell 0 _ rfl
        have y0 : wr.cell? ⟨b2, off2 + k * 2, none⟩ = _ := hcell2 0 _ rfl
        have x1 : wr.cell? ⟨b, off + k * 2 + 1, none⟩ = _ := hcell 1 _ rfl
        have y1 : wr.cell? ⟨b2, off2 + k * 2 + 1, none⟩ = _ := hcell2 1 _ rfl
        clear hcell hcell2 ha ha2
        have N : Hid (xs[k] = ys[k] → xs.take (k + 1) = ys.take (k + 1)) := fun e => by rw [take_snoc _ _ hlt, take_snoc _ _ hlt2, hno.out, e]
        have N2 : Hid (xs[k] ≠ ys[k] → R = false) := fun e => by
          cases hR : R with
          | false => rfl
          | true => exact absurd (List.getElem_of_eq (V.out.1 hR) hlt) e
        generalize xs[k] = p at *
        generalize ys[k] = q at *
        by_cases hpq : p = q
        · have E : Hid _ := N.out hpq
          have d : (p != q) = false := by simpa using hpq
          have hq : ∀ w, (binOp .neq 31 (.agg #[.int .u64 (lo (p)), .int .u64 (hi (p))]) (.agg #[.int .u64 (lo (q)), .int .u64 (hi (q))])).run Try.prog w = .ok (.bool false) w := fun w => by rw [mask_neq]; simp [hpq]
          have hmg := mask_guard
          clear hpq N N2
          go_wp2
          refine region_all (Ext _) (by kernel_rfl) (by kernel_rfl) (Ext.drew' (Below.refl _ _)) ?_
          repeat (first | (refine quiet_op ?_ ?_; (focus (go_simp; done)); apply Exists.intro; refine ⟨fun W hW => ?_, ?_⟩; (focus (have hc := hW.cellR; go_simp; first | exact rfl)); simp only [Act.put, List.setIfInBounds_toArray, List.set_cons_succ, List.set_cons_zero]) | (refine quiet_skip ?_ ?_; (focus (go_simp; done)); simp only [Act.put, List.setIfInBounds_toArray, List.set_cons_succ, List.set_cons_zero]))
          refine wpQuiet_nil ?_
          intro W1 hW1
          go_wp2
          go_roundg (xs.length - (k + 1))
          case measure => omega
          case rel => exact ⟨k + 1, by omega, by omega, by go_num, E, hB.trans hW1⟩
        · have E : Hid _ := N2.out hpq
          have d : (p != q) = true := by simpa using hpq
          have hq : ∀ w, (binOp .neq 31 (.agg #[.int .u64 (lo (p)), .int .u64 (hi (p))]) (.agg #[.int .u64 (lo (q)), .int .u64 (hi (q))])).run Try.prog w = .ok (.bool true) w := fun w => by rw [mask_neq]; simp [hpq]
          have hmg := mask_guard
          clear hpq N N2
          go_wp2
          refine region_all (Ext _) (by kernel_rfl) (by kernel_rfl) (Ext.drew' (Below.refl _ _)) ?_
          repeat (first | (refine quiet_op ?_ ?_; (focus (go_simp; done)); apply Exists.intro; refine ⟨fun W hW => ?_, ?_⟩; (focus (have hc := hW.cellR; go_simp; first | exact rfl)); simp only [Act.put, List.setIfInBounds_toArray, List.set_cons_succ, List.set_cons_zero]) | (refine quiet_skip ?_ ?_; (focus (go_simp; done)); simp only [Act.put, List.setIfInBounds_toArray, List.set_cons_succ, List.set_cons_zero]))
          refine wpQuiet_nil ?_
          intro W1 hW1
          go_wp2
          go_ret
          exact ⟨ret_bool E.out.symm, hB.trans hW1⟩
      · have hkk : k = xs.length := by omega
        have E : Hid (R = true) := by
          have h1 := hno.out
          rw [hkk, List.take_length, hn'.out, ← hm'.out, List.take_length] at h1
          exact V.out.2 h1
        go_wp2
        go_ret
        exact ⟨ret_bool E.out.symm, hB⟩
  · have E : Hid (decide (xs = ys) = false) := by
      have : xs ≠ ys := fun e => hn (by rw [e])
      simpa [Hid] using this
    have dl : ((xs.length : Int) != (ys.length : Int)) = true := by
      have : (xs.length : Int) ≠ (ys.length : Int) := by omega
      simpa using this
    generalize decide (xs = ys) = R at *
    clear hr hr2 h h' hn
    go_enter Try.func100, Try.ntmps100
    go_wp2
    go_ret
    exact ⟨ret_bool E.out.symm, Ext.refl _⟩

set_option maxHeartbeats 2000000 in
/-- slices.EqualFunc at rows of vectors. -/
theorem equalF_vecs (xs ys : List Vec) (v u : Value) (w : World) (h : kVec.Sl w v xs) (h' : kVec.Sl w u ys) :
    Calls Try.prog 98 #[v, u, .func (.func 99) #[] #[]] w fun e w' => e = .returned (.bool (decide (xs = ys))) ∧ Ext w w' := by
  obtain ⟨a, c, rfl, hc, hl, hr⟩ := h.form
  obtain ⟨a2, c2, rfl, hc2, hl2, hr2⟩ := h'.form
  have eg := enters_of Try.func99 (by kernel_rfl) rfl
  by_cases hn : xs.length = ys.length
  · have V : Hid (∀ r, r = decide (xs = ys) → (r = true ↔ xs = ys)) := fun r e => by rw [e]; simp
    generalize hR : decide (xs = ys) = R
    have V := V.out R hR.symm
    have V : Hid _ := V
    clear hR h h'
    have hn' : Hid _ := hn
    have dl : ((xs.length : Int) != (ys.length : Int)) = false := by simp [hn]
    generalize hm : ys.length = m at *
    have hm' : Hid _ := hm
    clear hm hn
    go_enter Try.func98, Try.ntmps98
    go_wp2
    go_loopg [17] xs.length (fun gg s8 wr => ∃ k : Nat, k ≤ xs.length ∧ xs.length - k ≤ gg ∧ s8 = .int .i64 k ∧ Hid (xs.take k = ys.take k) ∧ Ext w wr)
    case atStart => exact ⟨0, Nat.zero_le _, by omega, rfl, by simp [Hid], Ext.refl _⟩
    case round =>
      obtain ⟨k, hk, hg, rfl, hno, hB⟩ := hrel
      by_cases hlt : k < xs.length
      · have hlt2 : k < ys.length := by rw [hm'.out, ← hn'.out]; exact hlt
        have hlt3 : k < m := by rw [← hm'.out]; exact hlt2
        obtain ⟨b, off, cs, ha, hK1, hcell⟩ := (hr.ext hB).at_ hlt
        obtain ⟨b2, off2, cs2, ha2, hK2, hcell2⟩ := (hr2.ext hB).at_ hlt2
        obtain ⟨a5, c5, rfl, q1, q2, q3⟩ := hK1
        obtain ⟨a6, c6, rfl, q4, q5, q6⟩ := hK2
        have hx := run_at (P := Try.prog) 22 46 1 Try.underlying22 Try.sizeOf46 (c := c) ha hlt
        have hy := run_at (P := Try.prog) 22 46 1 Try.underlying22 Try.sizeOf46 (c := c2) ha2 hlt3
        have x0 : wr.cell? ⟨b, off + k * 1, none⟩ = _ := hcell 0 _ rfl
        have y0 : wr.cell? ⟨b2, off2 + k * 1, none⟩ = _ := hcell2 0 _ rfl
        rw [Nat.mul_one] at hx hy x0 y0
        have N : Hid (xs[k] = ys[k] → xs.take (k + 1) = ys.take (k + 1)) := fun e => by rw [take_snoc _ _ hlt, take_snoc _ _ hlt2, hno.out, e]
        have N2 : Hid (xs[k] ≠ ys[k] → R = false) := fun e => by
          cases hR : R with
          | false => rfl
          | true => exact absurd (List.getElem_of_eq (V.out.1 hR) hlt) e
        have HS := vsame_any xs[k] ys[k] _ _ wr ⟨a5, c5, rfl, q1, q2, q3⟩ ⟨a6, c6, rfl, q4, q5, q6⟩
        clear hcell hcell2 ha ha2 q1 q2 q3 q4 q5 q6
        generalize xs[k] = p at *
        generalize ys[k] = q at *
        generalize p.length = n1 at *
        generalize q.length = n2 at *
        by_cases hpq : p = q
        · have E : Hid _ := N.out hpq
          rw [decide_eq_true hpq] at HS
          clear hpq N N2
          go_wp2_with (go_at_call 99; refine HS.mono ?_; rintro e w' ⟨rfl, hx'⟩)
          go_roundg (xs.length - (k + 1))
          case measure => omega
          case rel => exact ⟨k + 1, by omega, by omega, by go_num, E, hB.trans hx'⟩
        · have E : Hid _ := N2.out hpq
          rw [decide_eq_false hpq] at HS
          clear hpq N N2
          go_wp2_with (go_at_call 99; refine HS.mono ?_; rintro e w' ⟨rfl, hx'⟩)
          go_ret
          exact ⟨ret_bool E.out.symm, hB.trans hx'⟩
      · have hkk : k = xs.length := by omega
        have E : Hid (R = true) := by
          have h1 := hno.out
          rw [hkk, List.take_length, hn'.out, ← hm'.out, List.take_length] at h1
          exact V.out.2 h1
        go_wp2
        go_ret
        exact ⟨ret_bool E.out.symm, hB⟩
  · have E : Hid (decide (xs = ys) = false) := by
      have : xs ≠ ys := fun e => hn (by rw [e])
      simpa [Hid] using this
    have dl : ((xs.length : Int) != (ys.length : Int)) = true := by
      have : (xs.length : Int) ≠ (ys.length : Int) := by omega
      simpa using this
    generalize decide (xs = ys) = R at *
    clear hr hr2 h h' hn
    go_enter Try.func98, Try.ntmps98
    go_wp2
    go_ret
    exact ⟨ret_bool E.out.symm, Ext.refl _⟩
set_option maxHeartbeats 2000000 in
theorem lsame_any (x y : Lists) (cv mv cv' mv' : Value) (w : World) (hc : kVec.Sl w cv x.cents) (hm : kMask.Sl w mv x.masks) (hc' : kVec.Sl w cv' y.cents) (hm' : kMask.Sl w mv' y.masks) :
    Calls Try.prog 65 #[.agg #[cv, mv], .agg #[cv', mv']] w fun e w' => e = .returned (.bool (decide (x = y))) ∧ Ext w w' := by
  obtain ⟨cs, ms⟩ := x
  obtain ⟨cs', ms'⟩ := y
  dsimp only at *
  have H1 := fun W (h : Ext w W) => equalF_vecs cs cs' cv cv' W (hc.ext h) (hc'.ext h)
  have H2 := fun W (h : Ext w W) => equal_mask ms ms' mv mv' W (hm.ext h) (hm'.ext h)
  have V : Hid (decide ((⟨cs, ms⟩ : Lists) = ⟨cs', ms'⟩) = (decide (cs = cs') && decide (ms = ms'))) := by unfold Hid; rw [Bool.eq_iff_iff]; simp
  obtain ⟨a1, c1, rfl, _, _, _⟩ := hc.form
  obtain ⟨a2, c2, rfl, _, _, _⟩ := hm.form
  obtain ⟨a3, c3, rfl, _, _, _⟩ := hc'.form
  obtain ⟨a4, c4, rfl, _, _, _⟩ := hm'.form
  generalize decide ((⟨cs, ms⟩ : Lists) = ⟨cs', ms'⟩) = r at *
  generalize decide (cs = cs') = r1 at *
  generalize decide (ms = ms') = r2 at *
  clear hc hm hc' hm'
  generalize cs.length = n1 at *
  generalize ms.length = n2 at *
  generalize cs'.length = n3 at *
  generalize ms'.length = n4 at *
  have ka0 := (Blk.new' (w := w) (b := w.heap.size) (cs := #[.slice a1 n1 c1, .slice a2 n2 c2]) (t := 25) rfl).alloc (.cells #[.slice a3 n3 c3, .slice a4 n4 c4] 25)
  have kb0 := Blk.new' (w := w.alloc (.cells #[.slice a1 n1 c1, .slice a2 n2 c2] 25)) (b := w.heap.size + 1) (cs := #[.slice a3 n3 c3, .slice a4 n4 c4]) (t := 25) (by simp)
  cases r1 with
  | false =>
    have E : Hid (r = false) := by unfold Hid; rw [V.out]; rfl
    clear V H2
    go_enter Try.func65, Try.ntmps65
    go_wp2_with (go_at_call 98; refine (H1 _ (((Ext.refl _).alloc _).alloc _)).mono ?_; rintro e W1 ⟨rfl, hx⟩)
    go_ret
    exact ⟨ret_bool E.out.symm, (((Ext.refl _).alloc _).alloc _).trans hx⟩
  | true =>
    have E : Hid (r = r2) := by unfold Hid; rw [V.out]; rfl
    clear V
    go_enter Try.func65, Try.ntmps65
    go_wp2_with (first | (go_at_call 98; refine (H1 _ (((Ext.refl _).alloc _).alloc _)).mono ?_; rintro e W1 ⟨rfl, hx⟩; have ca := (ka0.ext hx).cell; have cb := (kb0.ext hx).cell; have lb := (kb0.ext hx).lt) | (go_at_call 100; refine (H2 _ ((((Ext.refl _).alloc _).alloc _).trans hx)).mono ?_; rintro e W2 ⟨rfl, hx2⟩))
    go_ret
    exact ⟨ret_bool E.out.symm, ((((Ext.refl _).alloc _).alloc _).trans hx).trans hx2⟩

end Go.Proofs.Ytiolpknfdabijaa
