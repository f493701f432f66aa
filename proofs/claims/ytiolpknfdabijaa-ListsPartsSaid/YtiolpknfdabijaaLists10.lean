/- Lists: Agrees. -/
import Derived.Test.YtiolpknfdabijaaProg
import Derived.Test.YtiolpknfdabijaaLib
import Derived.Test.YtiolpknfdabijaaPure
import Derived.Test.YtiolpknfdabijaaMask
import Derived.Test.YtiolpknfdabijaaMask2
import Derived.Test.YtiolpknfdabijaaVec
import Derived.Test.YtiolpknfdabijaaVec2
import Derived.Test.YtiolpknfdabijaaVec3
import Derived.Test.YtiolpknfdabijaaVec4
import Derived.Test.YtiolpknfdabijaaIter
import Derived.Test.YtiolpknfdabijaaArena
import Derived.Test.YtiolpknfdabijaaArena2
import Derived.Test.YtiolpknfdabijaaLib2
import Derived.Test.YtiolpknfdabijaaLists
import Derived.Test.YtiolpknfdabijaaLists2
import Derived.Test.YtiolpknfdabijaaLists3
import Derived.Test.YtiolpknfdabijaaLists4
import Derived.Test.YtiolpknfdabijaaLists5
import Derived.Test.YtiolpknfdabijaaLists6
import Derived.Test.YtiolpknfdabijaaLists9
set_option linter.unusedVariables false
set_option maxRecDepth 4000
set_option linter.unusedSimpArgs false
namespace Go.Proofs.Ytiolpknfdabijaa
open Go.RowKit


theorem lsPut_len (l : Lists) (p s : Int) : (lsPut l p s).cents = l.cents ∧ (lsPut l p s).masks.length = l.masks.length := by
  rw [lsPut_eq]; exact ⟨rfl, wMap_len _ _⟩
theorem lsFill_small (c : List Vec) : ∀ (a : Arena) (s : Nat) (L : Lists), L.cents.length ≤ 6 → L.masks.length ≤ 6 → (lsFill c a s L).1.cents.length ≤ 6 ∧ (lsFill c a s L).1.masks.length ≤ 6
  | [], s, L, h1, h2 => ⟨h1, h2⟩
  | x :: a, s, L, h1, h2 => by
    unfold lsFill
    split
    · split
      · exact lsFill_small c a (s + 1) _ (by rw [(lsPut_len _ _ _).1]; exact h1) (by rw [(lsPut_len _ _ _).2]; exact h2)
      · simp
    · exact lsFill_small c a (s + 1) L h1 h2
theorem lsBuild_six (a : Arena) (c : List Vec) : (lsBuild a c).1.cents.length ≤ 6 ∧ (lsBuild a c).1.masks.length ≤ 6 := by
  unfold lsBuild
  split
  · split
    · rename_i h
      have h6 : c.length ≤ 6 := by unfold centsOk at h; simp at h; exact h.1
      split
      · simp
      · exact lsFill_small c a 0 _ h6 (by simpa using h6)
    · simp
  · simp
theorem lsBuild_small (a : Arena) (c : List Vec) : (lsBuild a c).1.cents.length ≤ 140737488351232 ∧ (lsBuild a c).1.masks.length ≤ 140737488351232 := by
  have := lsBuild_six a c
  omega

set_option maxHeartbeats 4000000 in
theorem lagrees_any (l : Lists) (a : Arena) (cv mv av : Value) (w : World) (hc : kVec.Sl w cv l.cents) (hm : kMask.Sl w mv l.masks) (ha : kCell.Sl w av a) :
    Calls Try.prog 30 #[.agg #[cv, mv], .agg #[av]] w fun e w' => e = .returned (.bool (lsAgrees l a)) ∧ Ext w w' := by
  have HK := fun W (hx : Ext w W) => lcheck_any l cv mv W (hc.ext hx) (hm.ext hx)
  have HA := fun W (hx : Ext w W) => arCheck_any a av W (ha.ext hx)
  have HB := fun W (hx : Ext w W) => lbuild_any a l.cents av cv W (ha.ext hx) (hc.ext hx)
  have hl1 := hc.form
  have hl2 := hm.form
  have HS := fun W (hx : Ext w W) n v1 v2 h1 h2 => lsame_any l n cv mv v1 v2 W (hc.ext hx) (hm.ext hx) h1 h2
  obtain ⟨a1, c1, rfl, _, hcl, _⟩ := hc.form
  obtain ⟨a2, c2, rfl, _, hml, _⟩ := hm.form
  obtain ⟨ad, ca, rfl, hca, hal, har⟩ := ha.form
  have V : Hid (lsAgrees l a = (lsOk l && arOk a && decide ((lsBuild a l.cents).2 = 0) && decide ((lsBuild a l.cents).1 = l))) := rfl
  generalize lsAgrees l a = r at *
  clear hc hm ha har
  have ka0 := (Blk.new' (w := w) (b := w.heap.size) (cs := #[.slice a1 l.cents.length c1, .slice a2 l.masks.length c2]) (t := 25) rfl).alloc (.cells #[.slice ad a.length ca] 39)
  have kb0 := Blk.new' (w := w.alloc (.cells #[.slice a1 l.cents.length c1, .slice a2 l.masks.length c2] 25)) (b := w.heap.size + 1) (cs := #[.slice ad a.length ca]) (t := 39) (by simp)
  clear hl1 hl2
  cases h0 : lsOk l with
  | false =>
    have E : Hid (r = false) := by unfold Hid; rw [V.out, h0]; rfl
    have e0 : lsErr l = 230 := by unfold lsErr; rw [h0]; rfl
    rw [e0] at HK
    clear V h0 e0 HA HB HS
    generalize l.cents.length = n1 at *
    generalize l.masks.length = n2 at *
    generalize a.length = n3 at *
    go_enter Try.func30, Try.ntmps30
    go_wp2_with (go_at_call 34; refine (HK _ (((Ext.refl _).alloc _).alloc _)).mono ?_; rintro y W1 ⟨rfl, hx⟩)
    go_ret
    exact ⟨ret_bool E.out.symm, (((Ext.refl _).alloc _).alloc _).trans hx⟩
  | true =>
    have e0 : lsErr l = 0 := by unfold lsErr; rw [h0]; rfl
    rw [e0] at HK
    have h6 : l.masks.length ≤ 6 ∧ l.cents.length ≤ 6 := by
      unfold lsOk centsOk at h0
      simp at h0
      omega
    cases h1 : arOk a with
    | false =>
      have E : Hid (r = false) := by unfold Hid; rw [V.out, h0, h1]; rfl
      have e1 : arErr a = 190 := by unfold arErr; rw [h1]; rfl
      rw [e1] at HA
      clear V h0 e0 h1 e1 HB HS
      generalize l.cents.length = n1 at *
      generalize l.masks.length = n2 at *
      generalize a.length = n3 at *
      go_enter Try.func30, Try.ntmps30
      go_wp2_with (first | (go_at_call 34; refine (HK _ (((Ext.refl _).alloc _).alloc _)).mono ?_; rintro y W1 ⟨rfl, hx⟩; have cb := (kb0.ext hx).cell; have lb := (kb0.ext hx).lt) | (go_at_call 38; refine (HA _ ((((Ext.refl _).alloc _).alloc _).trans hx)).mono ?_; rintro y W2 ⟨rfl, hx2⟩))
      go_ret
      exact ⟨ret_bool E.out.symm, ((((Ext.refl _).alloc _).alloc _).trans hx).trans hx2⟩
    | true =>
      have V2 : Hid (r = (decide ((lsBuild a l.cents).2 = 0) && decide ((lsBuild a l.cents).1 = l))) := by unfold Hid; rw [V.out, h0, h1]; rfl
      have e1 : arErr a = 0 := by unfold arErr; rw [h1]; rfl
      rw [e1] at HA
      have hBl : (lsBuild a l.cents).1.cents.length ≤ 140737488351232 ∧ (lsBuild a l.cents).1.masks.length ≤ 140737488351232 := lsBuild_small a l.cents
      clear V h0 e0 h1 e1
      generalize lsBuild a l.cents = p at *
      obtain ⟨n, q⟩ := p
      dsimp only at *
      have HS := fun W (hx : Ext w W) v1 v2 h1 h2 => HS W hx n v1 v2 h1 h2
      by_cases hq : q = 0
      · subst hq
        have E : Hid (r = decide (l = n)) := by
          unfold Hid
          rw [V2.out, Bool.eq_iff_iff]
          simp only [decide_true, Bool.true_and, decide_eq_true_eq]
          exact eq_comm
        generalize decide (l = n) = R at *
        clear V2
        obtain ⟨hb1, hb2⟩ := hBl
        generalize l.cents.length = n1 at *
        generalize l.masks.length = n2 at *
        generalize a.length = n3 at *
        go_enter Try.func30, Try.ntmps30
        go_wp2_with (first
          | (go_at_call 34; refine (HK _ (((Ext.refl _).alloc _).alloc _)).mono ?_; rintro y W1 ⟨rfl, hx⟩; have cb := (kb0.ext hx).cell; have lb := (kb0.ext hx).lt)
          | (go_at_call 38; refine (HA _ ((((Ext.refl _).alloc _).alloc _).trans hx)).mono ?_; rintro y W2 ⟨rfl, hx2⟩; have ka2 := (ka0.ext hx).ext hx2; have kb2 := (kb0.ext hx).ext hx2; have hB2 := ((((Ext.refl w).alloc _).alloc _).trans hx).trans hx2; have ca2 := ka2.cell; have cb2 := kb2.cell; have lb2 := kb2.lt)
          | (go_at_call 13; refine (HB _ hB2).mono ?_; rintro e W3 ⟨v, rfl, qq, hx3⟩; obtain ⟨a5, c5, a6, c6, rfl⟩ := qq.form; have ka3 := ka2.ext hx3; have ca3 := ka3.cell; have la3 := ka3.lt; obtain ⟨s1, s2⟩ := qq.sl hx3 hb1 hb2)
          | (go_at_call 65; refine (HS _ ((hB2.trans hx3).alloc _) _ _ (s1.ext ((Ext.refl _).alloc _)) (s2.ext ((Ext.refl _).alloc _))).mono ?_; rintro e W4 ⟨rfl, hx4⟩))
        go_ret
        exact ⟨ret_bool E.out.symm, (((hB2.trans hx3)).alloc _).trans hx4⟩
      · have E : Hid (r = false) := by
          unfold Hid
          rw [V2.out, decide_eq_false hq]; rfl
        have dq : (q == 0) = false := by simpa using hq
        clear V2 HS hq
        generalize l.cents.length = n1 at *
        generalize l.masks.length = n2 at *
        generalize a.length = n3 at *
        go_enter Try.func30, Try.ntmps30
        go_wp2_with (first
          | (go_at_call 34; refine (HK _ (((Ext.refl _).alloc _).alloc _)).mono ?_; rintro y W1 ⟨rfl, hx⟩; have cb := (kb0.ext hx).cell; have lb := (kb0.ext hx).lt)
          | (go_at_call 38; refine (HA _ ((((Ext.refl _).alloc _).alloc _).trans hx)).mono ?_; rintro y W2 ⟨rfl, hx2⟩; have ka2 := (ka0.ext hx).ext hx2; have kb2 := (kb0.ext hx).ext hx2; have hB2 := ((((Ext.refl w).alloc _).alloc _).trans hx).trans hx2; have ca2 := ka2.cell; have cb2 := kb2.cell; have lb2 := kb2.lt)
          | (go_at_call 13; refine (HB _ hB2).mono ?_; rintro e W3 ⟨v, rfl, qq, hx3⟩; obtain ⟨a5, c5, a6, c6, rfl⟩ := qq.form))
        go_ret
        exact ⟨ret_bool E.out.symm, ((hB2.trans hx3)).alloc _⟩

end Go.Proofs.Ytiolpknfdabijaa
