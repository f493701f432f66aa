/- Lists: centroids. -/
import Derived.Test.YtiolpknfdabijaaProg
import Derived.Test.YtiolpknfdabijaaLib
import Derived.Test.YtiolpknfdabijaaPure
import Derived.Test.YtiolpknfdabijaaMask2
import Derived.Test.YtiolpknfdabijaaVec
import Derived.Test.YtiolpknfdabijaaVec2
set_option linter.unusedVariables false
set_option maxRecDepth 4000
set_option linter.unusedSimpArgs false
namespace Go.Proofs.Ytiolpknfdabijaa
open Go.RowKit


def dimOf (l : List Vec) : Int := ((l.headD []).length : Int)
theorem cents1_any (l : List Vec) (lv : Value) (B : Nat) (x : Vec) (y : Value) (w : World) (hB : w.cell? ⟨B, 0, none⟩ = some lv) (hl : kVec.Sl w lv l) (hne : 0 < l.length) (h : kI32.Sl w y x) :
    Calls Try.prog 83 #[y, .pointer (some ⟨B, 0, none⟩)] w fun e w' => e = .returned (.bool (!decide (vOf x (dimOf l) = 0))) ∧ Ext w w' := by
  have H := fun W (hW : Ext w W) (d : Int) => vof_any x d y W (h.ext hW)
  obtain ⟨a, c, rfl, hc, hl1, hr⟩ := hl.form
  obtain ⟨b, off, cs, ha, ⟨a3, c3, rfl, hc3, hl3, hr3⟩, hcell⟩ := hr.at_ hne
  have hx := run_at (P := Try.prog) 22 46 1 Try.underlying22 Try.sizeOf46 (c := c) ha hne
  have c0 : w.cell? ⟨b, off + 0 * 1, none⟩ = _ := hcell 0 _ rfl
  simp only [Nat.zero_mul, Nat.add_zero, Int.natCast_zero] at hx c0
  have e0 : l.headD [] = l[0] := by cases l with | nil => simp at hne | cons => rfl
  have H := H w (Ext.refl _) (dimOf l)
  unfold dimOf at *
  rw [e0] at *
  clear hr hr3 hcell ha h e0 hl
  generalize l[0].length = n at *
  have V : Hid ((vOf x (n : Int) != 0) = !decide (vOf x (n : Int) = 0)) := by unfold Hid; rw [Bool.eq_iff_iff]; simp
  generalize vOf x (n : Int) = q at *
  go_enter Try.func83, Try.ntmps83
  go_wp2_with (go_at_call 84; refine H.mono ?_; rintro e w' ⟨rfl, hx'⟩)
  go_ret
  exact ⟨ret_bool V.out, hx'⟩
set_option maxHeartbeats 1000000 in
theorem cents_any (l : List Vec) (v : Value) (w : World) (h : kVec.Sl w v l) : Calls Try.prog 39 #[v] w fun e w' => e = .returned (.bool (centsOk l)) ∧ Ext w w' := by
  have hh := h
  obtain ⟨a, c, rfl, hc, hl, hr⟩ := h.form
  have V : Hid (centsOk l = (decide (l.length ≤ 6) && !l.any fun x => !decide (vOf x (dimOf l) = 0))) := by
    unfold Hid centsOk dimOf
    congr 1
    rw [List.not_any_eq_all_not]; simp
  have H : ∀ W, Ext w W → W.cell? ⟨w.heap.size, 0, none⟩ = some (.slice a l.length c) → Calls Try.prog 85 #[.slice a l.length c, .func (.func 83) #[] #[.pointer (some ⟨w.heap.size, 0, none⟩)]] W fun e w' => e = .returned (.bool (l.any fun x => !decide (vOf x (dimOf l) = 0))) ∧ Ext W w' := fun W hW hc0 =>
    containsF_vec kVec rfl (fun x => !decide (vOf x (dimOf l) = 0)) 83 #[.pointer (some ⟨w.heap.size, 0, none⟩)] (enters_of Try.func83 (by kernel_rfl) rfl) l _ W (hh.ext hW) (fun W' x y hW' hx hK =>
      cents1_any l _ w.heap.size x y W' (hW'.cellS hc0) (hh.ext (hW.trans hW')) (List.length_pos_of_mem hx) hK)
  generalize (l.any fun x => !decide (vOf x (dimOf l) = 0)) = q at *
  generalize centsOk l = r at *
  clear hh h hr
  by_cases h6 : l.length ≤ 6
  · have d : decide ((6 : Int) < (l.length : Int)) = false := by simp; omega
    have E : Hid (r = !q) := by unfold Hid; rw [V.out, decide_eq_true h6]; rfl
    clear V h6
    generalize l.length = n at *
    go_enter Try.func39, Try.ntmps39
    go_wp2_with (go_at_call 85; refine (H _ ((Ext.refl _).alloc _) (by simp)).mono ?_; rintro e w' ⟨rfl, hx'⟩)
    go_ret
    exact ⟨ret_bool E.out.symm, ((Ext.refl _).alloc _).trans hx'⟩
  · have d : decide ((6 : Int) < (l.length : Int)) = true := by simp; omega
    have E : Hid (r = false) := by unfold Hid; rw [V.out, decide_eq_false h6]; rfl
    clear V h6 H
    generalize l.length = n at *
    go_enter Try.func39, Try.ntmps39
    go_wp2
    go_ret
    exact ⟨ret_bool E.out.symm, (Ext.refl _).alloc _⟩

end Go.Proofs.Ytiolpknfdabijaa
