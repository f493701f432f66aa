/- Arenas: layer 9. -/
import Derived.Test.YtiolpknfdabijaaProg
import Derived.Test.YtiolpknfdabijaaLib
import Derived.Test.YtiolpknfdabijaaPure
import Derived.Test.YtiolpknfdabijaaPop
import Derived.Test.YtiolpknfdabijaaMask
import Derived.Test.YtiolpknfdabijaaMask2
import Derived.Test.YtiolpknfdabijaaVec
import Derived.Test.YtiolpknfdabijaaVec2
import Derived.Test.YtiolpknfdabijaaArena
import Derived.Test.YtiolpknfdabijaaLib2
set_option linter.unusedVariables false
set_option maxRecDepth 4000
set_option linter.unusedSimpArgs false
namespace Go.Proofs.Ytiolpknfdabijaa
open Go.RowKit


set_option maxHeartbeats 1000000 in
theorem indexF_cell (p : Cell → Bool) (g : Nat) (lb : Array Value) (eg : ∀ args w, (callFunc g args).run Try.prog w = .ok (.enter g args) w) (xs : List Cell) (v : Value) (w : World) (h : kCell.Sl w v xs)
    (hp : ∀ W x s, Ext w W → x ∈ xs → kI32.Sl W s x.ver.vec → Calls Try.prog g (#[.agg #[.bool x.used, .int .u64 x.id, .int .u64 x.ver.b, .int .u64 x.ver.e, s]] ++ lb) W fun e W' => e = .returned (.bool (p x)) ∧ Ext W W') :
    Calls Try.prog 67 #[v, .func (.func g) #[] lb] w fun e w' => e = .returned (.int .i64 (idxF p xs)) ∧ Ext w w' := by
  obtain ⟨a, c, rfl, hc, hl, hr⟩ := h.form
  go_enter Try.func67, Try.ntmps67
  go_wp2
  go_loopg [8] xs.length (fun gg s8 wr => ∃ k : Nat, k ≤ xs.length ∧ xs.length - k ≤ gg ∧ s8 = .int .i64 k ∧ Hid (∀ x ∈ xs.take k, p x = false) ∧ Ext w wr)
  case atStart => exact ⟨0, Nat.zero_le _, by omega, rfl, by simp [Hid], Ext.refl _⟩
  case round =>
    obtain ⟨k, hk, hg, rfl, hno, hB⟩ := hrel
    by_cases hlt : k < xs.length
    · obtain ⟨b, off, cs, ha, ⟨s, rfl, hs⟩, hcell⟩ := (hr.ext hB).at_ hlt
      have hx := run_at (P := Try.prog) 37 50 5 Try.underlying37 Try.sizeOf50 (c := c) ha hlt
      have c0 : wr.cell? ⟨b, off + k * 5, none⟩ = _ := hcell 0 _ rfl
      have c1 : wr.cell? ⟨b, off + k * 5 + 1, none⟩ = _ := hcell 1 _ rfl
      have c2 : wr.cell? ⟨b, off + k * 5 + 2, none⟩ = _ := hcell 2 _ rfl
      have c3 : wr.cell? ⟨b, off + k * 5 + 3, none⟩ = _ := hcell 3 _ rfl
      have c4 : wr.cell? ⟨b, off + k * 5 + 4, none⟩ = _ := hcell 4 _ rfl
      have hcall := hp wr xs[k] s hB (List.getElem_mem hlt) hs
      clear hcell ha hs hp
      cases hm : p xs[k] with
      | true =>
        rw [hm] at hcall
        have E : Hid _ := idxF_hit p xs k hlt hm hno.out
        clear hm
        generalize xs[k] = x at *
        obtain ⟨u, i, b1, e1, v1⟩ := x
        go_wp2_with (go_at_fn g; refine hcall.mono ?_; rintro e w' ⟨rfl, hx'⟩)
        go_ret
        exact ⟨ret_int E.out.symm, hB.trans hx'⟩
      | false =>
        rw [hm] at hcall
        have E : Hid _ := take_false hlt hno.out hm
        clear hm
        generalize xs[k] = x at *
        obtain ⟨u, i, b1, e1, v1⟩ := x
        go_wp2_with (go_at_fn g; refine hcall.mono ?_; rintro e w' ⟨rfl, hx'⟩)
        go_roundg (xs.length - (k + 1))
        case measure => omega
        case rel => exact ⟨k + 1, by omega, by omega, by go_num, E, hB.trans hx'⟩
    · obtain rfl : k = xs.length := by omega
      rw [List.take_length] at hno
      go_wp2
      go_ret
      exact ⟨ret_int (idxF_miss p xs hno.out).symm, hB⟩
theorem containsF_cell (p : Cell → Bool) (g : Nat) (lb : Array Value) (eg : ∀ args w, (callFunc g args).run Try.prog w = .ok (.enter g args) w) (xs : List Cell) (v : Value) (w : World) (h : kCell.Sl w v xs)
    (hp : ∀ W x s, Ext w W → x ∈ xs → kI32.Sl W s x.ver.vec → Calls Try.prog g (#[.agg #[.bool x.used, .int .u64 x.id, .int .u64 x.ver.b, .int .u64 x.ver.e, s]] ++ lb) W fun e W' => e = .returned (.bool (p x)) ∧ Ext W W') :
    Calls Try.prog 82 #[v, .func (.func g) #[] lb] w fun e w' => e = .returned (.bool (xs.any p)) ∧ Ext w w' := by
  have H := indexF_cell p g lb eg xs v w h hp
  have E : Hid _ := idxF_any p xs
  generalize idxF p xs = r at H E
  go_enter Try.func82, Try.ntmps82
  go_wp2_with (go_at_call 67; refine H.mono ?_; rintro e w' ⟨rfl, hx'⟩)
  go_ret
  exact ⟨ret_bool E.out, hx'⟩
def arErr (a : Arena) : Int := if arOk a then 0 else 190
set_option maxHeartbeats 1000000 in
theorem arCheck_any (a : Arena) (v : Value) (w : World) (h : kCell.Sl w v a) : Calls Try.prog 38 #[.agg #[v]] w fun r w' => r = .returned (.int .i64 (arErr a)) ∧ Ext w w' := by
  have hh := h
  obtain ⟨ad, c, rfl, hc, hl, hr⟩ := h.form
  have V : Hid (arErr a = if (a.length = 96 ∧ (a.any fun x => !cellOk x) = false) then 0 else 190) := by
    unfold Hid arErr arOk
    have : (a.any fun x => !cellOk x) = !(a.all cellOk) := by rw [List.not_all_eq_any_not]
    rw [this]
    by_cases h1 : a.length = 96 <;> cases a.all cellOk <;> simp [h1]
  have H := fun W (hx : Ext w W) => containsF_cell (fun x => !cellOk x) 80 #[] (enters_of Try.func80 (by kernel_rfl) rfl) a _ W (hh.ext hx) (fun W' x s _ _ hs => by simpa using wrong_any x s W' hs)
  generalize arErr a = r at *
  generalize (a.any fun x => !cellOk x) = q at *
  clear hh h hr hl
  by_cases hn : a.length = 96
  · have d : ((a.length : Int) != 96) = false := by simp; omega
    generalize a.length = n at *
    cases q with
    | true =>
      have E : Hid (r = 190) := by unfold Hid; rw [V.out]; simp
      clear V hn
      go_enter Try.func38, Try.ntmps38
      go_wp2_with (go_at_call 82; refine (H _ ((Ext.refl _).alloc _)).mono ?_; rintro e w' ⟨rfl, hx⟩)
      go_ret
      exact ⟨ret_int E.out.symm, ((Ext.refl _).alloc _).trans hx⟩
    | false =>
      have E : Hid (r = 0) := by unfold Hid; rw [V.out]; simp [hn]
      clear V hn
      go_enter Try.func38, Try.ntmps38
      go_wp2_with (go_at_call 82; refine (H _ ((Ext.refl _).alloc _)).mono ?_; rintro e w' ⟨rfl, hx⟩)
      go_ret
      exact ⟨ret_int E.out.symm, ((Ext.refl _).alloc _).trans hx⟩
  · have d : ((a.length : Int) != 96) = true := by simp; omega
    have E : Hid (r = 190) := by unfold Hid; rw [V.out]; simp [hn]
    generalize a.length = n at *
    clear V hn H
    go_enter Try.func38, Try.ntmps38
    go_wp2
    go_ret
    exact ⟨ret_int E.out.symm, (Ext.refl _).alloc _⟩

end Go.Proofs.Ytiolpknfdabijaa
