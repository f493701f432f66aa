/- Lists: what is gone through. -/
import Derived.Test.YtiolpknfdabijaaProg
import Derived.Test.YtiolpknfdabijaaLib
import Derived.Test.YtiolpknfdabijaaPure
import Derived.Test.YtiolpknfdabijaaMask
import Derived.Test.YtiolpknfdabijaaMask2
import Derived.Test.YtiolpknfdabijaaVec
import Derived.Test.YtiolpknfdabijaaVec2
import Derived.Test.YtiolpknfdabijaaLib2
import Derived.Test.YtiolpknfdabijaaLists
set_option linter.unusedVariables false
set_option maxRecDepth 4000
set_option linter.unusedSimpArgs false
namespace Go.Proofs.Ytiolpknfdabijaa
open Go.RowKit


def ovB (l : List Vec) : Bool := decide (20 < l.length) || l.any fun v => decide (50 < v.length)
theorem ovB_not {l : List Vec} {k : Nat} (hk : k < l.length) (h : 50 < l[k].length) : ovB l = true := by
  unfold ovB
  rw [Bool.or_eq_true]
  exact .inr (List.any_eq_true.2 ⟨_, List.getElem_mem hk, by simpa using h⟩)
theorem ovB_all {l : List Vec} (h0 : ¬ 20 < l.length) (h : ∀ x ∈ l, ¬ 50 < x.length) : ovB l = false := by
  unfold ovB
  rw [Bool.or_eq_false_iff]
  exact ⟨by simpa using h0, by rw [List.any_eq_false]; intro x hx; simpa using h x hx⟩
set_option maxHeartbeats 1000000 in
theorem overVecs_any (l : List Vec) (v : Value) (w : World) (h : kVec.Sl w v l) : Calls Try.prog 12 #[v] w fun e w' => e = .returned (.bool (ovB l)) ∧ w = w' := by
  obtain ⟨a, c, rfl, hc, hl, hr⟩ := h.form
  have V1 : Hid (20 < l.length → ovB l = true) := fun h => by unfold ovB; rw [decide_eq_true h]; rfl
  have V2 : Hid (∀ k (hk : k < l.length), 50 < l[k].length → ovB l = true) := fun k hk h => ovB_not hk h
  have V3 : Hid (¬ 20 < l.length → (∀ x ∈ l, ¬ 50 < x.length) → ovB l = false) := fun h0 h => ovB_all h0 h
  generalize ovB l = r at *
  clear h
  by_cases h0 : 20 < l.length
  · have d : decide ((20 : Int) < (l.length : Int)) = true := by simp; omega
    have E : Hid (r = true) := V1.out h0
    clear V1 V2 V3 h0 hr
    generalize l.length = n at *
    go_enter Try.func12, Try.ntmps12
    go_wp2
    go_ret
    exact ⟨ret_bool E.out.symm, rfl⟩
  · have d : decide ((20 : Int) < (l.length : Int)) = false := by simp; omega
    go_enter Try.func12, Try.ntmps12
    go_wp2
    go_loop [10] (fun s8 => ∃ k : Nat, k ≤ l.length ∧ s8 = .int .i64 k ∧ Hid (∀ x ∈ l.take k, ¬ 50 < x.length)) (fun s8 => l.length - (intOf s8).toNat)
    case atStart => exact ⟨0, Nat.zero_le _, rfl, by simp [Hid]⟩
    case round =>
      obtain ⟨k, hk, rfl, hno⟩ := hrel
      by_cases hlt : k < l.length
      · obtain ⟨b, off, cs, ha, ⟨a3, c3, rfl, hc3, hl3, hr3⟩, hcell⟩ := hr.at_ hlt
        have hx := run_at (P := Try.prog) 22 46 1 Try.underlying22 Try.sizeOf46 (c := c) ha hlt
        have c0 : w.cell? ⟨b, off + k * 1, none⟩ = _ := hcell 0 _ rfl
        rw [Nat.mul_one] at hx c0
        have N : Hid (¬ 50 < l[k].length → ∀ x ∈ l.take (k + 1), ¬ 50 < x.length) := fun e x hx => by
          rw [take_snoc _ _ hlt, List.mem_append, List.mem_singleton] at hx
          rcases hx with hx | rfl
          · exact hno.out x hx
          · exact e
        have N2 : Hid (50 < l[k].length → r = true) := V2.out k hlt
        clear hcell ha hr3 V1 V2 V3
        generalize l[k].length = n3 at *
        by_cases h5 : 50 < n3
        · have d5 : decide ((50 : Int) < (n3 : Int)) = true := by simp; omega
          have E : Hid _ := N2.out h5
          clear N N2 h5
          go_wp2
          go_ret
          exact ⟨ret_bool E.out.symm, rfl⟩
        · have d5 : decide ((50 : Int) < (n3 : Int)) = false := by simp; omega
          have E : Hid _ := N.out h5
          clear N N2 h5
          go_wp2
          go_round
          case rel => exact ⟨k + 1, by omega, by go_num, E⟩
          case measure => simp [intOf]; omega
      · obtain rfl : k = l.length := by omega
        rw [List.take_length] at hno
        have E : Hid _ := V3.out h0 hno.out
        clear V1 V2 V3
        go_wp2
        go_ret
        exact ⟨ret_bool E.out.symm, rfl⟩
def ovL (l : Lists) : Bool := ovB l.cents || decide (20 < l.masks.length)
set_option maxHeartbeats 1000000 in
theorem over_any (l : Lists) (cv mv : Value) (w : World) (hc : kVec.Sl w cv l.cents) (hm : kMask.Sl w mv l.masks) : Calls Try.prog 8 #[.agg #[cv, mv]] w fun e w' => e = .returned (.bool (ovL l)) ∧ Ext w w' := by
  have H := fun W (hx : Ext w W) => overVecs_any l.cents cv W (hc.ext hx)
  obtain ⟨a1, c1, rfl, _, _, _⟩ := hc.form
  obtain ⟨a2, c2, rfl, _, hml, _⟩ := hm.form
  have V : Hid (ovL l = (ovB l.cents || decide (20 < l.masks.length))) := rfl
  generalize ovL l = r at *
  generalize ovB l.cents = q at *
  clear hc hm
  generalize l.cents.length = n1 at *
  generalize l.masks.length = n2 at *
  cases q with
  | true =>
    have E : Hid (r = true) := by unfold Hid; rw [V.out]; rfl
    clear V
    go_enter Try.func8, Try.ntmps8
    go_wp2_with (go_at_call 12; refine (H _ ((Ext.refl _).alloc _)).mono ?_; rintro e w' ⟨rfl, rfl⟩)
    go_ret
    exact ⟨ret_bool E.out.symm, (Ext.refl _).alloc _⟩
  | false =>
    have E : Hid (r = decide ((20 : Int) < (n2 : Int))) := by unfold Hid; rw [V.out, Bool.false_or]; congr 1; apply propext; omega
    clear V
    go_enter Try.func8, Try.ntmps8
    go_wp2_with (go_at_call 12; refine (H _ ((Ext.refl _).alloc _)).mono ?_; rintro e w' ⟨rfl, rfl⟩)
    go_ret
    exact ⟨ret_bool E.out.symm, (Ext.refl _).alloc _⟩

end Go.Proofs.Ytiolpknfdabijaa
