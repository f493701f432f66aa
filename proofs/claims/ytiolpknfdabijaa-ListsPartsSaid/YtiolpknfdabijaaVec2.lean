/- The functions of layer 5, further. -/
import Derived.Test.YtiolpknfdabijaaProg
import Derived.Test.YtiolpknfdabijaaLib
import Derived.Test.YtiolpknfdabijaaPure
import Derived.Test.YtiolpknfdabijaaMask2
import Derived.Test.YtiolpknfdabijaaVec
set_option linter.unusedVariables false
set_option maxRecDepth 4000
set_option linter.unusedSimpArgs false
namespace Go.Proofs.Ytiolpknfdabijaa
open Go.RowKit


theorem vcheck_cases (x : Vec) : vCheck x = 0 ∨ vCheck x = 150 := by unfold vCheck; cases vOk x <;> simp
theorem vAll_bad {l : List Vec} {k : Nat} (hk : k < l.length) (h : vCheck l[k] = 150) : vAll l = 150 := by
  have : ¬ l.all vOk = true := fun e => by
    have := List.all_eq_true.1 e _ (List.getElem_mem hk)
    unfold vCheck at h; rw [this] at h; simp at h
  unfold vAll; rw [if_neg this]
theorem vAll_ok {l : List Vec} (h : ∀ x ∈ l, vCheck x = 0) : vAll l = if (l.any fun x => !(x.length == (l.headD []).length)) = true then 151 else 0 := by
  have : l.all vOk = true := List.all_eq_true.2 fun x hx => by
    have := h x hx
    unfold vCheck at this
    cases e : vOk x with
    | true => rfl
    | false => rw [e] at this; simp at this
  unfold vAll
  rw [if_pos this, ← List.not_all_eq_any_not]
  cases l.all fun x => x.length == (l.headD []).length <;> rfl
set_option maxHeartbeats 1000000 in
theorem vall_any (l : List Vec) (v : Value) (w : World) (h : kVec.Sl w v l) : Calls Try.prog 48 #[v] w fun e w' => e = .returned (.int .i64 (vAll l)) ∧ Ext w w' := by
  have hh := h
  obtain ⟨a, c, rfl, hc, hl, hr⟩ := h.form
  go_enter Try.func48, Try.ntmps48
  go_wp2
  refine named fun W0 hW0 => ?_
  have kb : Blk W0 w.heap.size #[.slice a l.length c] 22 := Blk.of_eq hW0 (Blk.new' (by simp))
  have hB : Ext w W0 := Ext.of_eq hW0 ((Ext.refl _).alloc _)
  clear hW0
  have cb := kb.cell
  go_wp2
  clear cb
  go_loopg [9] l.length (fun gg s8 wr => ∃ k : Nat, k ≤ l.length ∧ l.length - k ≤ gg ∧ s8 = .int .i64 k ∧ Hid (∀ x ∈ l.take k, vCheck x = 0) ∧ Blk wr w.heap.size #[.slice a l.length c] 22 ∧ Ext w wr)
  case atStart => exact ⟨0, Nat.zero_le _, by omega, rfl, by simp [Hid], kb, hB⟩
  case round =>
    clear kb hB
    obtain ⟨k, hk, hg, rfl, hno, kb, hB⟩ := hrel
    by_cases hlt : k < l.length
    · obtain ⟨b, off, cs, ha, hK, hcell⟩ := (hr.ext hB).at_ hlt
      obtain ⟨a3, c3, rfl, hc3, hl3, hr3⟩ := hK
      have hx := run_at (P := Try.prog) 22 46 1 Try.underlying22 Try.sizeOf46 (c := c) ha hlt
      have c0 : wr.cell? ⟨b, off + k * 1, none⟩ = _ := hcell 0 _ rfl
      rw [Nat.mul_one] at hx c0
      have hcall := vcheck_any l[k] (.slice a3 (l[k]).length c3) wr ⟨a3, c3, rfl, hc3, hl3, hr3⟩
      have V : Hid (∀ q, vCheck l[k] = q → (q = 150 → vAll l = 150) ∧ (q = 0 → ∀ x ∈ l.take (k + 1), vCheck x = 0)) := fun q hq => ⟨fun e => vAll_bad hlt (hq.trans e), fun e x hx => by
        rw [take_snoc _ _ hlt, List.mem_append, List.mem_singleton] at hx
        rcases hx with hx | rfl
        · exact hno.out x hx
        · exact hq.trans e⟩
      clear hcell ha hr3
      rcases vcheck_cases l[k] with hm | hm
      · have E : Hid _ := (V.out _ hm).2 rfl
        rw [hm] at hcall
        clear hm V
        generalize l[k].length = n3 at *
        go_wp2_with (go_at_call 51; refine hcall.mono ?_; rintro e w' ⟨rfl, hx'⟩)
        go_roundg (l.length - (k + 1))
        case measure => omega
        case rel => exact ⟨k + 1, by omega, by omega, by go_num, E, kb.ext hx', hB.trans hx'⟩
      · have E : Hid _ := (V.out _ hm).1 rfl
        rw [hm] at hcall
        clear hm V
        generalize l[k].length = n3 at *
        go_wp2_with (go_at_call 51; refine hcall.mono ?_; rintro e w' ⟨rfl, hx'⟩)
        go_ret
        exact ⟨ret_int E.out.symm, hB.trans hx'⟩
    · obtain rfl : k = l.length := by omega
      rw [List.take_length] at hno
      have V : Hid _ := vAll_ok hno.out
      have cb := kb.cell
      have H := containsF_vec kVec rfl (fun x => !(x.length == (l.headD []).length)) 91 #[.pointer (some ⟨w.heap.size, 0, none⟩)] (enters_of Try.func91 (by kernel_rfl) rfl) l _ wr (hh.ext hB) (fun W x y hW hx hK => by
        refine (all1_any l _ w.heap.size x y W (by rw [(kb.ext hW).cell]; rfl) (hh.ext (hB.trans hW)) (List.length_pos_of_mem hx) hK).mono ?_
        rintro e w' ⟨rfl, rfl⟩
        exact ⟨rfl, Ext.refl _⟩)
      cases hm : l.any fun x => !(x.length == (l.headD []).length) with
      | true =>
        rw [hm] at H V
        clear hm
        go_wp2_with (go_at_call 85; refine H.mono ?_; rintro e w' ⟨rfl, hx'⟩)
        go_ret
        exact ⟨ret_int V.out.symm, hB.trans hx'⟩
      | false =>
        rw [hm] at H V
        clear hm
        go_wp2_with (go_at_call 85; refine H.mono ?_; rintro e w' ⟨rfl, hx'⟩)
        go_ret
        exact ⟨ret_int V.out.symm, hB.trans hx'⟩
theorem isNaN_any (x : Int) (w : World) : Calls Try.prog 111 #[.int .u64 x] w fun e w' => e = .returned (.bool false) ∧ w = w' := by
  go_enter Try.func111, Try.ntmps111
  go_wp2
  go_ret
  exact ⟨ret_bool (by simp), rfl⟩
def cmpI (x y : Int) : Int := if x < y then -1 else if y < x then 1 else 0
theorem compare_any (x y : Int) (w : World) : Calls Try.prog 105 #[.int .u64 x, .int .u64 y] w fun e w' => e = .returned (.int .i64 (cmpI x y)) ∧ w = w' := by
  have V : Hid (cmpI x y = if x < y then -1 else if y < x then 1 else 0) := rfl
  generalize cmpI x y = r at *
  by_cases h1 : x < y
  · have E : Hid (r = -1) := by rw [V.out, if_pos h1]; rfl
    clear V
    go_enter Try.func105, Try.ntmps105
    go_wp2_with (go_at_call 111; refine (isNaN_any _ _).mono ?_; rintro e w' ⟨rfl, rfl⟩)
    go_ret
    exact ⟨ret_int E.out.symm, rfl⟩
  · by_cases h2 : y < x
    · have E : Hid (r = 1) := by rw [V.out, if_neg h1, if_pos h2]; rfl
      clear V
      go_enter Try.func105, Try.ntmps105
      go_wp2_with (go_at_call 111; refine (isNaN_any _ _).mono ?_; rintro e w' ⟨rfl, rfl⟩)
      go_ret
      exact ⟨ret_int E.out.symm, rfl⟩
    · have E : Hid (r = 0) := by rw [V.out, if_neg h1, if_neg h2]; rfl
      clear V
      go_enter Try.func105, Try.ntmps105
      go_wp2_with (go_at_call 111; refine (isNaN_any _ _).mono ?_; rintro e w' ⟨rfl, rfl⟩)
      go_ret
      exact ⟨ret_int E.out.symm, rfl⟩
def or2 (x y : Int) : Int := if x = 0 then y else x
theorem or2_any (b : Nat) (x y : Int) (w : World) (c0 : w.cell? ⟨b, 0, none⟩ = some (.int .i64 x)) (c1 : w.cell? ⟨b, 1, none⟩ = some (.int .i64 y)) :
    Calls Try.prog 104 #[.slice (some ⟨b, 0, none⟩) 2 2] w fun e w' => e = .returned (.int .i64 (or2 x y)) ∧ w = w' := by
  have V : Hid (∀ r, r = or2 x y → (x = 0 → r = y) ∧ (x ≠ 0 → r = x)) := fun r h => ⟨fun e => by rw [h, or2, if_pos e], fun e => by rw [h, or2, if_neg e]⟩
  generalize hr : or2 x y = r
  obtain ⟨V1, V2⟩ := V.out r hr.symm
  clear hr V
  by_cases h : x = 0
  · have E : Hid (r = y) := V1 h
    have d : (x != 0) = false := by simpa using h
    clear V1 V2 h
    by_cases h : y = 0
    · have d2 : (y != 0) = false := by simpa using h
      have E2 : Hid (r = 0) := E.out.trans h
      clear E h
      go_enter Try.func104, Try.ntmps104
      go_wp2
      refine wp_loop_rounds 3 ?_
      rw [rounds_succ]
      go_wp2
      rw [rounds_succ]
      go_wp2
      rw [rounds_succ]
      go_wp2
      go_ret
      exact ⟨ret_int E2.out.symm, rfl⟩
    · have d2 : (y != 0) = true := by simpa using h
      clear h
      go_enter Try.func104, Try.ntmps104
      go_wp2
      refine wp_loop_rounds 3 ?_
      rw [rounds_succ]
      go_wp2
      rw [rounds_succ]
      go_wp2
      go_ret
      exact ⟨ret_int E.out.symm, rfl⟩
  · have E : Hid (r = x) := V2 h
    have d : (x != 0) = true := by simpa using h
    clear V1 V2 h
    go_enter Try.func104, Try.ntmps104
    go_wp2
    refine wp_loop_rounds 3 ?_
    rw [rounds_succ]
    go_wp2
    go_ret
    exact ⟨ret_int E.out.symm, rfl⟩
def hitCmp (i1 d1 i2 d2 : Int) : Int := or2 (cmpI d1 d2) (cmpI i1 i2)
theorem vCompare_any (i1 d1 i2 d2 : Int) (w : World) : Calls Try.prog 86 #[.agg #[.int .u64 i1, .int .u64 d1], .agg #[.int .u64 i2, .int .u64 d2]] w fun e w' => e = .returned (.int .i64 (hitCmp i1 d1 i2 d2)) ∧ Ext w w' := by
  have V : Hid (hitCmp i1 d1 i2 d2 = or2 (cmpI d1 d2) (cmpI i1 i2)) := rfl
  have C1 := compare_any d1 d2
  have C2 := compare_any i1 i2
  generalize hitCmp i1 d1 i2 d2 = r at *
  generalize cmpI d1 d2 = q1 at *
  generalize cmpI i1 i2 = q2 at *
  go_enter Try.func86, Try.ntmps86
  go_wp2
  refine named fun W0 hW0 => ?_
  have ka : Blk W0 w.heap.size _ _ := Blk.of_eq hW0 ((Blk.new' (by simp)).alloc _)
  have kb : Blk W0 (w.heap.size + 1) _ _ := Blk.of_eq hW0 (Blk.new' (by simp))
  have hB : Ext w W0 := Ext.of_eq hW0 (((Ext.refl _).alloc _).alloc _)
  have ca := ka.cell; have cb := kb.cell
  clear hW0
  go_wp2
  refine region_tail (Ext _) 10 (by kernel_rfl) (by kernel_rfl) (Ext.drew' (Below.refl _ _)) ?_
  simp only [List.take_succ_cons, List.take_zero, List.drop_succ_cons, List.drop_zero]
  repeat (first | (refine quiet_op ?_ ?_; (focus (go_simp; done)); apply Exists.intro; refine ⟨fun W hW => ?_, ?_⟩; (focus (have hc := hW.cellR; go_simp; first | exact rfl | (go_at_call 105; first | ((with_reducible refine (C1 _).mono ?_); rintro e w' ⟨rfl, rfl⟩; exact ⟨rfl, hW⟩) | ((with_reducible refine (C2 _).mono ?_); rintro e w' ⟨rfl, rfl⟩; exact ⟨rfl, hW⟩)))); simp only [Act.put, List.setIfInBounds_toArray, List.set_cons_succ, List.set_cons_zero]) | (refine quiet_skip ?_ ?_; (focus (go_simp; done)); simp only [Act.put, List.setIfInBounds_toArray, List.set_cons_succ, List.set_cons_zero]))
  refine wpQuiet_nil ?_
  intro W1 hW1
  go_wp2_with (go_at_call 104; refine (or2_any W1.heap.size q1 q2 _ (by simp) (by simp)).mono ?_; rintro e w' ⟨rfl, rfl⟩)
  go_ret
  exact ⟨ret_int V.out.symm, (hB.trans hW1).alloc _⟩

set_option maxHeartbeats 1000000 in
/-- slices.Equal. -/
theorem equal_i32 (xs ys : List Int) (v u : Value) (w : World) (h : kI32.Sl w v xs) (h' : kI32.Sl w u ys) :
    Calls Try.prog 110 #[v, u] w fun e w' => e = .returned (.bool (decide (xs = ys))) ∧ Ext w w' := by
  obtain ⟨a, c, rfl, hc, hl, hr⟩ := h.form
  obtain ⟨a2, c2, rfl, hc2, hl2, hr2⟩ := h'.form
  by_cases hn : xs.length = ys.length
  · have V : Hid (∀ r, r = decide (xs = ys) → (r = true ↔ xs = ys)) := fun r e => by rw [e]; simp
    generalize hR : decide (xs = ys) = R
    have V := V.out R hR.symm
    have V : Hid _ := V
    clear hR h h'
    have hn' : Hid _ := hn
    have dl : ((xs.length : Int) != (ys.length : Int)) = false := by simp [hn]
    generalize hm : ys.length = m at *
    have hm' : Hid _ := hm
    clear hm hn
    go_enter Try.func110, Try.ntmps110
    go_wp2
    go_loopg [13] xs.length (fun gg s8 wr => ∃ k : Nat, k ≤ xs.length ∧ xs.length - k ≤ gg ∧ s8 = .int .i64 k ∧ Hid (xs.take k = ys.take k) ∧ Ext w wr)
    case atStart => exact ⟨0, Nat.zero_le _, by omega, rfl, by simp [Hid], Ext.refl _⟩
    case round =>
      obtain ⟨k, hk, hg, rfl, hno, hB⟩ := hrel
      by_cases hlt : k < xs.length
      · have hlt2 : k < ys.length := by rw [hm'.out, ← hn'.out]; exact hlt
        have hlt3 : k < m := by rw [← hm'.out]; exact hlt2
        obtain ⟨b, off, cs, ha, rfl, hcell⟩ := (hr.ext hB).at_ hlt
        obtain ⟨b2, off2, cs2, ha2, rfl, hcell2⟩ := (hr2.ext hB).at_ hlt2
        have hx := run_at (P := Try.prog) 46 21 1 Try.underlying46 Try.sizeOf21 (c := c) ha hlt
        have hy := run_at (P := Try.prog) 46 21 1 Try.underlying46 Try.sizeOf21 (c := c2) ha2 hlt3
        have x0 : wr.cell? ⟨b, off + k * 1, none⟩ = _ := hcell 0 _ rfl
        have y0 : wr.cell? ⟨b2, off2 + k * 1, none⟩ = _ := hcell2 0 _ rfl
        rw [Nat.mul_one] at hx hy x0 y0
        clear hcell hcell2 ha ha2
        have N : Hid (xs[k] = ys[k] → xs.take (k + 1) = ys.take (k + 1)) := fun e => by rw [take_snoc _ _ hlt, take_snoc _ _ hlt2, hno.out, e]
        have N2 : Hid (xs[k] ≠ ys[k] → R = false) := fun e => by
          cases hR : R with
          | false => rfl
          | true => exact absurd (List.getElem_of_eq (V.out.1 hR) hlt) e
        generalize xs[k] = p at *
        generalize ys[k] = q at *
        by_cases hpq : p = q
        · have E : Hid _ := N.out hpq
          have d : (p != q) = false := by simpa using hpq
          clear hpq N N2
          go_wp2
          refine region_all (Ext _) (by kernel_rfl) (by kernel_rfl) (Ext.drew' (Below.refl _ _)) ?_
          repeat (first | (refine quiet_op ?_ ?_; (focus (go_simp; done)); apply Exists.intro; refine ⟨fun W hW => ?_, ?_⟩; (focus (have hc := hW.cellR; go_simp; first | exact rfl)); simp only [Act.put, List.setIfInBounds_toArray, List.set_cons_succ, List.set_cons_zero]) | (refine quiet_skip ?_ ?_; (focus (go_simp; done)); simp only [Act.put, List.setIfInBounds_toArray, List.set_cons_succ, List.set_cons_zero]))
          refine wpQuiet_nil ?_
          intro W1 hW1
          go_wp2
          go_roundg (xs.length - (k + 1))
          case measure => omega
          case rel => exact ⟨k + 1, by omega, by omega, by go_num, E, hB.trans hW1⟩
        · have E : Hid _ := N2.out hpq
          have d : (p != q) = true := by simpa using hpq
          clear hpq N N2
          go_wp2
          refine region_all (Ext _) (by kernel_rfl) (by kernel_rfl) (Ext.drew' (Below.refl _ _)) ?_
          repeat (first | (refine quiet_op ?_ ?_; (focus (go_simp; done)); apply Exists.intro; refine ⟨fun W hW => ?_, ?_⟩; (focus (have hc := hW.cellR; go_simp; first | exact rfl)); simp only [Act.put, List.setIfInBounds_toArray, List.set_cons_succ, List.set_cons_zero]) | (refine quiet_skip ?_ ?_; (focus (go_simp; done)); simp only [Act.put, List.setIfInBounds_toArray, List.set_cons_succ, List.set_cons_zero]))
          refine wpQuiet_nil ?_
          intro W1 hW1
          go_wp2
          go_ret
          exact ⟨ret_bool E.out.symm, hB.trans hW1⟩
      · have hkk : k = xs.length := by omega
        have E : Hid (R = true) := by
          have h1 := hno.out
          rw [hkk, List.take_length, hn'.out, ← hm'.out, List.take_length] at h1
          exact V.out.2 h1
        go_wp2
        go_ret
        exact ⟨ret_bool E.out.symm, hB⟩
  · have E : Hid (decide (xs = ys) = false) := by
      have : xs ≠ ys := fun e => hn (by rw [e])
      simpa [Hid] using this
    have dl : ((xs.length : Int) != (ys.length : Int)) = true := by
      have : (xs.length : Int) ≠ (ys.length : Int) := by omega
      simpa using this
    generalize decide (xs = ys) = R at *
    clear hr hr2 h h' hn
    go_enter Try.func110, Try.ntmps110
    go_wp2
    go_ret
    exact ⟨ret_bool E.out.symm, Ext.refl _⟩

theorem vsame_any (xs ys : Vec) (v u : Value) (w : World) (h : kI32.Sl w v xs) (h' : kI32.Sl w u ys) : Calls Try.prog 99 #[v, u] w fun e w' => e = .returned (.bool (decide (xs = ys))) ∧ Ext w w' := by
  have H := equal_i32 xs ys v u w h h'
  generalize decide (xs = ys) = R at *
  clear h h'
  go_enter Try.func99, Try.ntmps99
  go_wp2_with (go_at_call 110; refine H.mono ?_; rintro e w' ⟨rfl, hx'⟩)
  go_ret
  exact ⟨rfl, hx'⟩

end Go.Proofs.Ytiolpknfdabijaa
