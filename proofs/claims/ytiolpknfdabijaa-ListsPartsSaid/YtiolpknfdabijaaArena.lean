/- Versions and cells: layer 9. -/
import Derived.Test.YtiolpknfdabijaaProg
import Derived.Test.YtiolpknfdabijaaLib
import Derived.Test.YtiolpknfdabijaaPure
import Derived.Test.YtiolpknfdabijaaPop
import Derived.Test.YtiolpknfdabijaaMask
import Derived.Test.YtiolpknfdabijaaMask2
import Derived.Test.YtiolpknfdabijaaVec
import Derived.Test.YtiolpknfdabijaaVec2
import Derived.Test.YtiolpknfdabijaaLib2
set_option linter.unusedVariables false
set_option maxRecDepth 4000
set_option linter.unusedSimpArgs false
namespace Go.Proofs.Ytiolpknfdabijaa
open Go.RowKit


def verErr (x : Ver) : Int := if verOk x then 0 else 171
theorem verErr_eq (b e : Int) (v : Vec) : verErr ⟨b, e, v⟩ = if (vCheck v = 0 ∧ 1 ≤ b ∧ b ≤ 1099511627776 ∧ (e = 0 ∨ (b < e ∧ e ≤ 1099511627776))) then 0 else 171 := by
  have h : verOk ⟨b, e, v⟩ = true ↔ (vCheck v = 0 ∧ 1 ≤ b ∧ b ≤ 1099511627776 ∧ (e = 0 ∨ (b < e ∧ e ≤ 1099511627776))) := by
    unfold verOk vCheck
    cases vOk v <;> simp [and_assoc]
  unfold verErr
  by_cases hq : verOk ⟨b, e, v⟩ = true
  · rw [if_pos hq, if_pos (h.1 hq)]
  · rw [if_neg hq, if_neg (fun k => hq (h.2 k))]
set_option maxHeartbeats 4000000 in
theorem checkVer_any (b e : Int) (v : Vec) (s : Value) (w : World) (h : kI32.Sl w s v) : Calls Try.prog 66 #[.agg #[.int .u64 b, .int .u64 e, s]] w fun r w' => r = .returned (.int .i64 (verErr ⟨b, e, v⟩)) ∧ Ext w w' := by
  have V : Hid _ := verErr_eq b e v
  generalize verErr ⟨b, e, v⟩ = r at *
  have hcall := fun w' (hx : Ext w w') => vcheck_any v s w' (h.ext hx)
  have hvc := vcheck_cases v
  clear h
  generalize vCheck v = q at *
  have hC : (∃ cl : Bool, (cl = true ↔ (e = 0 ∨ (b < e ∧ e ≤ 1099511627776))) ∧ (((e == 0) = true ∧ cl = true) ∨ ((e == 0) = false ∧ decide (b < e) = true ∧ decide (e ≤ 1099511627776) = true ∧ cl = true) ∨ ((e == 0) = false ∧ decide (b < e) = true ∧ decide (e ≤ 1099511627776) = false ∧ cl = false) ∨ ((e == 0) = false ∧ decide (b < e) = false ∧ cl = false))) := by
    refine ⟨decide (e = 0 ∨ (b < e ∧ e ≤ 1099511627776)), by simp, ?_⟩
    by_cases h0 : e = 0
    · exact .inl ⟨by simp [h0], by simp [h0]⟩
    · by_cases h1 : b < e
      · by_cases h2 : e ≤ 1099511627776
        · exact .inr (.inl ⟨by simpa using h0, by simpa using h1, by simpa using h2, by simp [h1, h2]⟩)
        · exact .inr (.inr (.inl ⟨by simpa using h0, by simpa using h1, by simpa using h2, by simp [h0, h2]⟩))
      · exact .inr (.inr (.inr ⟨by simpa using h0, by simpa using h1, by simp [h0, h1]⟩))
  obtain ⟨cl, hcl, hC⟩ := hC
  have hD : (q = 150 ∧ Hid (r = 171)) ∨ (q = 0 ∧ decide (b < 1) = true ∧ Hid (r = 171)) ∨ (q = 0 ∧ decide (b < 1) = false ∧ decide (1099511627776 < b) = true ∧ Hid (r = 171)) ∨ (q = 0 ∧ decide (b < 1) = false ∧ decide (1099511627776 < b) = false ∧ Hid (r = if cl then 0 else 171)) := by
    have V := V.out
    rcases hvc with h0 | h0
    · by_cases h1 : b < 1
      · exact .inr (.inl ⟨h0, by simpa using h1, by unfold Hid; rw [V, if_neg (by omega)]⟩)
      · by_cases h2 : 1099511627776 < b
        · exact .inr (.inr (.inl ⟨h0, by simpa using h1, by simpa using h2, by unfold Hid; rw [V, if_neg (by omega)]⟩))
        · refine .inr (.inr (.inr ⟨h0, by simpa using h1, by simpa using h2, ?_⟩))
          unfold Hid
          rw [V]
          cases cl with
          | true => rw [if_pos (by have := hcl.1 rfl; omega)]; rfl
          | false =>
            have : ¬ (e = 0 ∨ (b < e ∧ e ≤ 1099511627776)) := fun k => by cases hcl.2 k
            rw [if_neg (by omega)]; rfl
    · exact .inl ⟨h0, by unfold Hid; rw [V, if_neg (by omega)]⟩
  clear V hcl hvc
  rcases hC with ⟨c0, rfl⟩ | ⟨c0, c1, c2, rfl⟩ | ⟨c0, c1, c2, rfl⟩ | ⟨c0, c1, rfl⟩ <;> rcases hD with ⟨rfl, E⟩ | ⟨rfl, d1, E⟩ | ⟨rfl, d1, d2, E⟩ | ⟨rfl, d1, d2, E⟩
  all_goals
    go_enter Try.func66, Try.ntmps66
    go_wp2_with (go_at_call 51; refine (hcall _ ((Ext.refl _).alloc _)).mono ?_; rintro y w' ⟨rfl, hx⟩; have kb := (Blk.new' (w := w) (b := w.heap.size) (cs := #[.int .u64 b, .int .u64 e, s]) (t := 48) rfl).ext hx; have cb := kb.cell)
    go_ret
    exact ⟨ret_int E.out.symm, ((Ext.refl _).alloc _).trans hx⟩

theorem pair_equal (x y x' y' : Int) (w : World) : (Op.equal 30 (.agg #[.int .u64 x, .int .u64 y]) (.agg #[.int .u64 x', .int .u64 y'])).run Try.prog w = .ok (x == x' && y == y') w := by
  have u := Try.underlying30
  have u2 := Try.underlying29
  have z := Try.sizeOf29
  have ag := Try.isAgg29
  obtain ⟨d, hd⟩ : ∃ d, Op.maxDepth = d + 1 + 1 := ⟨9998, rfl⟩
  unfold Op.equal
  rw [hd, Op.equalIn]
  simp only [Sem.run_bind, run_underlying u, Result.andThen_ok, z, Std.Legacy.Range.forIn_eq_forIn_range', Std.Legacy.Range.size, List.range', Nat.sub_zero, List.forIn_cons, List.forIn_nil]
  by_cases h1 : x = x' <;> by_cases h2 : y = y' <;> simp [h1, h2, go_sem, u2, ag]
theorem pair_eql (x y x' y' : Int) (w : World) : (binOp .eql 30 (.agg #[.int .u64 x, .int .u64 y]) (.agg #[.int .u64 x', .int .u64 y'])).run Try.prog w = .ok (.bool (x == x' && y == y')) w := by
  simp only [binOp, Sem.run_bind, pair_equal, Result.andThen_ok]; rfl
theorem pair_guard : Try.prog.eqGuardType Try.prog.depth 30 = false := by kernel_rfl
set_option maxHeartbeats 1000000 in
theorem sameVer_any (x y : Ver) (s t : Value) (w : World) (h : kI32.Sl w s x.vec) (h' : kI32.Sl w t y.vec) :
    Calls Try.prog 102 #[.agg #[.int .u64 x.b, .int .u64 x.e, s], .agg #[.int .u64 y.b, .int .u64 y.e, t]] w fun r w' => r = .returned (.bool (decide (x = y))) ∧ Ext w w' := by
  obtain ⟨b, e, v⟩ := x
  obtain ⟨b', e', v'⟩ := y
  have hq := pair_eql b e b' e'
  have hg := pair_guard
  have V : Hid (decide ((⟨b, e, v⟩ : Ver) = ⟨b', e', v'⟩) = ((b == b' && e == e') && decide (v = v'))) := by
    unfold Hid
    rw [Bool.eq_iff_iff]; simp [and_assoc]
  have hcall := fun w' (hx : Ext w w') => vsame_any v v' s t w' (h.ext hx) (h'.ext hx)
  generalize decide ((⟨b, e, v⟩ : Ver) = ⟨b', e', v'⟩) = r at *
  generalize decide (v = v') = q at *
  generalize (b == b' && e == e') = q0 at *
  clear h h'
  cases q0 with
  | true =>
    rw [Bool.true_and] at V
    go_enter Try.func102, Try.ntmps102
    go_wp2_with (go_at_call 99; refine (hcall _ (((Ext.refl _).alloc _).alloc _)).mono ?_; rintro y w' ⟨rfl, hx⟩)
    go_ret
    exact ⟨ret_bool V.out.symm, (((Ext.refl _).alloc _).alloc _).trans hx⟩
  | false =>
    rw [Bool.false_and] at V
    go_enter Try.func102, Try.ntmps102
    go_wp2
    go_ret
    exact ⟨ret_bool V.out.symm, ((Ext.refl _).alloc _).alloc _⟩
/-- The value of a cell. -/
def cellV (c : Cell) (s : Value) : Value := .agg #[.bool c.used, .int .u64 c.id, .int .u64 c.ver.b, .int .u64 c.ver.e, s]
def kCell : Kd Cell :=
  { sz := 5
    K := fun w c cs => ∃ s, cs = [.bool c.used, .int .u64 c.id, .int .u64 c.ver.b, .int .u64 c.ver.e, s] ∧ kI32.Sl w s c.ver.vec
    len := fun ⟨_, e, _⟩ => by rw [e]; rfl
    ext := fun e ⟨s, h1, h2⟩ => ⟨s, h1, h2.ext e⟩ }
set_option maxHeartbeats 1000000 in
theorem right_any (c : Cell) (s : Value) (w : World) (h : kI32.Sl w s c.ver.vec) : Calls Try.prog 81 #[.agg #[.bool c.used, .int .u64 c.id, .int .u64 c.ver.b, .int .u64 c.ver.e, s]] w fun r w' => r = .returned (.bool (cellOk c)) ∧ Ext w w' := by
  obtain ⟨u, i, b, e, v⟩ := c
  cases u with
  | true =>
    have hcall := fun w' (hx : Ext w w') => checkVer_any b e v s w' (h.ext hx)
    have V : Hid ((cellOk ⟨true, i, b, e, v⟩ = true ∧ verErr ⟨b, e, v⟩ = 0) ∨ (cellOk ⟨true, i, b, e, v⟩ = false ∧ verErr ⟨b, e, v⟩ = 171)) := by
      unfold Hid cellOk verErr
      cases verOk ⟨b, e, v⟩ <;> simp
    generalize cellOk ⟨true, i, b, e, v⟩ = r at *
    generalize verErr ⟨b, e, v⟩ = q at *
    clear h
    rcases V.out with ⟨E, rfl⟩ | ⟨E, rfl⟩
    all_goals
      have E : Hid _ := E
      clear V
      go_enter Try.func81, Try.ntmps81
      go_wp2_with (go_at_call 66; refine (hcall _ ((Ext.refl _).alloc _)).mono ?_; rintro y w' ⟨rfl, hx⟩)
      go_ret
      exact ⟨ret_bool E.out.symm, ((Ext.refl _).alloc _).trans hx⟩
  | false =>
    have hcall := fun w' (hx : Ext w w') => sameVer_any ⟨b, e, v⟩ ⟨0, 0, []⟩ s (.slice none 0 0) w' (h.ext hx) (Kd.Sl.nil _ _)
    have V : Hid (cellOk ⟨false, i, b, e, v⟩ = (decide (i = 0) && decide ((⟨b, e, v⟩ : Ver) = ⟨0, 0, []⟩))) := by
      unfold Hid cellOk
      rw [Bool.eq_iff_iff]; simp [and_assoc]
    generalize cellOk ⟨false, i, b, e, v⟩ = r at *
    dsimp only at hcall
    generalize decide ((⟨b, e, v⟩ : Ver) = ⟨0, 0, []⟩) = q at *
    clear h
    by_cases hi : i = 0
    · have d : (i == 0) = true := by simpa using hi
      have E : Hid (r = q) := by unfold Hid; rw [V.out]; simp [hi]
      clear V hi
      go_enter Try.func81, Try.ntmps81
      go_wp2_with (go_at_call 102; refine (hcall _ ((Ext.refl _).alloc _)).mono ?_; rintro y w' ⟨rfl, hx⟩)
      go_ret
      exact ⟨ret_bool E.out.symm, ((Ext.refl _).alloc _).trans hx⟩
    · have d : (i == 0) = false := by simpa using hi
      have E : Hid (r = false) := by unfold Hid; rw [V.out]; simp [hi]
      clear V hi hcall
      go_enter Try.func81, Try.ntmps81
      go_wp2
      go_ret
      exact ⟨ret_bool E.out.symm, (Ext.refl _).alloc _⟩
theorem wrong_any (c : Cell) (s : Value) (w : World) (h : kI32.Sl w s c.ver.vec) : Calls Try.prog 80 #[.agg #[.bool c.used, .int .u64 c.id, .int .u64 c.ver.b, .int .u64 c.ver.e, s]] w fun r w' => r = .returned (.bool (!cellOk c)) ∧ Ext w w' := by
  have hcall := fun w' (hx : Ext w w') => right_any c s w' (h.ext hx)
  obtain ⟨u, i, b, e, v⟩ := c
  generalize cellOk ⟨u, i, b, e, v⟩ = r at *
  dsimp only at *
  clear h
  go_enter Try.func80, Try.ntmps80
  go_wp2_with (go_at_call 81; refine (hcall _ ((Ext.refl _).alloc _)).mono ?_; rintro y w' ⟨rfl, hx⟩)
  go_ret
  exact ⟨rfl, ((Ext.refl _).alloc _).trans hx⟩

end Go.Proofs.Ytiolpknfdabijaa
