/- The law ListsParts: the walk. -/
import Derived.Test.YtiolpknfdabijaaProg
import Derived.Test.YtiolpknfdabijaaLib
import Derived.Test.YtiolpknfdabijaaPure
import Derived.Test.YtiolpknfdabijaaMask
import Derived.Test.YtiolpknfdabijaaMask2
import Derived.Test.YtiolpknfdabijaaVec
import Derived.Test.YtiolpknfdabijaaVec2
import Derived.Test.YtiolpknfdabijaaVec3
import Derived.Test.YtiolpknfdabijaaVec4
import Derived.Test.YtiolpknfdabijaaIter
import Derived.Test.YtiolpknfdabijaaArena
import Derived.Test.YtiolpknfdabijaaArena2
import Derived.Test.YtiolpknfdabijaaArena3
import Derived.Test.YtiolpknfdabijaaArena4
import Derived.Test.YtiolpknfdabijaaLib2
import Derived.Test.YtiolpknfdabijaaLists
import Derived.Test.YtiolpknfdabijaaLists2
import Derived.Test.YtiolpknfdabijaaLists3
import Derived.Test.YtiolpknfdabijaaLists5
import Derived.Test.YtiolpknfdabijaaLists6
import Derived.Test.YtiolpknfdabijaaLists7
import Derived.Test.YtiolpknfdabijaaLists8
import Derived.Test.YtiolpknfdabijaaLists10
import Derived.Test.YtiolpknfdabijaaLists11
import Derived.Test.YtiolpknfdabijaaLists12
import Derived.Test.YtiolpknfdabijaaLists15
import Derived.Test.YtiolpknfdabijaaLists16
import Derived.Test.YtiolpknfdabijaaLists19
import Derived.Test.YtiolpknfdabijaaPart
import Derived.Test.YtiolpknfdabijaaReg
set_option linter.unusedVariables false
set_option maxRecDepth 4000
set_option linter.unusedSimpArgs false
namespace Go.Proofs.Ytiolpknfdabijaa
open Go.RowKit


def dAt (c : List Vec) (v : Vec) (i : Nat) : Int := vDist (c.getD i []) v
theorem dist_at (c : List Vec) (v : Vec) (hv : vAll (v :: c) = 0) (i : Nat) (hi : i < c.length) (y s : Value) (W : World) (hK : kI32.Sl W y (c.getD i [])) (hs : kI32.Sl W s v) : Calls Try.prog 18 #[y, s] W fun e w' => e = .returned (.tuple #[.int .u64 (dAt c v i), .int .i64 0]) ∧ Ext W w' := by
  unfold dAt
  have h := dist_ok hv hi
  have := Dist_any (c.getD i []) v y s W hK hs
  rw [h.1, h.2] at this
  exact this
theorem placesOf_snoc (k : Nat) : placesOf (k + 1) = placesOf k ++ [(k : Int)] := by unfold placesOf; rw [List.range_succ, List.map_append]; rfl
theorem placesOf_len (k : Nat) : (placesOf k).length = k := by simp [placesOf]
theorem cntSum_le (ms : List Mask) : cntSum ms ≤ 128 * ms.length := by
  induction ms with
  | nil => simp [cntSum]
  | cons m ms ih =>
    have : mCount m ≤ 128 := by
      unfold mCount pop
      exact Nat.le_trans List.countP_le_length (by simp)
    simp only [cntSum, List.map_cons, List.sum_cons, List.length_cons] at *
    omega
theorem ret_two' {k k' : IntKind} {a b c d : Int} (h : a = c) (h' : b = d) : Ending.returned (.tuple #[.int k a, .int k' b]) = .returned (.tuple #[.int k c, .int k' d]) := by rw [h, h']
set_option maxRecDepth 100000 in
set_option maxHeartbeats 16000000 in
theorem lparts_any (a : Arena) (c : List Vec) (av cv : Value) (w : World) (ha : kCell.Sl w av a) (hc : kVec.Sl w cv c) : Calls Try.prog 4 #[.agg #[av], cv] w fun e w' => e = .returned (.bool true) ∧ Ext w w' := by
  have HK := wakes13_any
  have HA := fun W (h : Ext w W) => overArena_any a av W (ha.ext h)
  have HV := fun W (h : Ext w W) => overVecs_any c cv W (hc.ext h)
  have HB := fun W (h : Ext w W) => lbuild_any a c av cv W (ha.ext h) (hc.ext h)
  have HF := fun W (h : Ext w W) => free_any a av W (ha.ext h)
  obtain ⟨ad, ca, rfl, hca, hal, har⟩ := ha.form
  obtain ⟨a1, c1, rfl, hcc, hcl, hcr⟩ := hc.form
  obtain ⟨ss, hU⟩ := URow.of har
  clear ha hc har
  have kl0 := Blk.new' (w := w) (b := w.heap.size) (cs := #[.slice ad a.length ca]) (t := 39) rfl
  have ARM1 : True := trivial
  cases h1 : ovA a with
  | true =>
    rw [h1] at HA
    clear h1 HB HF hU hcr HV
    generalize a.length = n1 at *
    generalize c.length = n2 at *
    go_enter Try.func4, Try.ntmps4
    go_wp2_with (first | (go_at_call 7; refine (HK _).mono ?_; rintro e W1 ⟨rfl, x1⟩; have cl := (kl0.ext x1).cell; have ll := (kl0.ext x1).lt) | (go_at_call 11; refine (HA _ (((Ext.refl _).alloc _).trans x1)).mono ?_; rintro e W2 ⟨rfl, x2⟩))
    go_ret
    exact ⟨rfl, (((Ext.refl _).alloc _).trans x1).trans x2⟩
  | false =>
    rw [h1] at HA
    clear h1
    cases h2 : ovB c with
    | true =>
      rw [h2] at HV
      clear h2 HB HF hU hcr
      generalize a.length = n1 at *
      generalize c.length = n2 at *
      go_enter Try.func4, Try.ntmps4
      go_wp2_with (first | (go_at_call 7; refine (HK _).mono ?_; rintro e W1 ⟨rfl, x1⟩; have cl := (kl0.ext x1).cell; have ll := (kl0.ext x1).lt) | (go_at_call 11; refine (HA _ (((Ext.refl _).alloc _).trans x1)).mono ?_; rintro e W2 ⟨rfl, x2⟩) | (go_at_call 12; refine (HV _ ((((Ext.refl _).alloc _).trans x1).trans x2)).mono ?_; rintro e W3 ⟨rfl, rfl⟩))
      go_ret
      exact ⟨rfl, (((Ext.refl _).alloc _).trans x1).trans x2⟩
    | false =>
      rw [h2] at HV
      clear h2
      have BN := @built_nil a c
      have BT := fun h1 h2 => @built a c h1 h2
      have six := lsBuild_six a c
      generalize lsBuild a c = p at *
      obtain ⟨L, q⟩ := p
      dsimp only at *
      by_cases hbad : q ≠ 0 ∨ c = []
      · have e := BN hbad
        subst e
        have hd : (q != 0) = true ∨ ((q != 0) = false ∧ ((c.length : Int) == 0) = true) := by
          by_cases hq : q = 0
          · refine .inr ⟨by simpa using hq, ?_⟩
            have := hbad.resolve_left (by simpa using hq)
            rw [this]; rfl
          · exact .inl (by simpa using hq)
        clear BN BT hbad HF hU hcr
        generalize a.length = n1 at *
        generalize c.length = n2 at *
        rcases hd with d1 | ⟨d1, d2⟩
        all_goals
          go_enter Try.func4, Try.ntmps4
          go_wp2_with (first | (go_at_call 7; refine (HK _).mono ?_; rintro e W1 ⟨rfl, x1⟩; have cl := (kl0.ext x1).cell; have ll := (kl0.ext x1).lt) | (go_at_call 11; refine (HA _ (((Ext.refl _).alloc _).trans x1)).mono ?_; rintro e W2 ⟨rfl, x2⟩) | (go_at_call 12; refine (HV _ ((((Ext.refl _).alloc _).trans x1).trans x2)).mono ?_; rintro e W3 ⟨rfl, rfl⟩; have cl2 := ((kl0.ext x1).ext x2).cell; have ll2 := ((kl0.ext x1).ext x2).lt) | (go_at_call 13; refine (HB _ ((((Ext.refl _).alloc _).trans x1).trans x2)).mono ?_; rintro e W4 ⟨v, rfl, hq, x4⟩; obtain ⟨a5, c5, a6, c6, rfl⟩ := hq.form))
          go_ret
          exact ⟨rfl, ((((Ext.refl _).alloc _).trans x1).trans x2).trans x4 |>.alloc _⟩
      · have hq0 : q = 0 := Classical.byContradiction fun h => hbad (.inl h)
        have hc0 : c ≠ [] := fun h => hbad (.inr h)
        subst hq0
        obtain ⟨hao, hlo, hLc, hLm, hP, hV⟩ := BT hc0 rfl
        have hd2 : ((c.length : Int) == 0) = false := by
          have := List.length_pos_iff.2 hc0
          simp; omega
        replace hP : Hid _ := hP
        replace hV : Hid _ := hV
        replace hlo : Hid _ := hlo
        replace hao : Hid _ := hao
        replace hLc : Hid _ := hLc
        replace hLm : Hid _ := hLm
        replace hc0 : Hid _ := hc0
        clear BN BT hbad
        go_enter Try.func4, Try.ntmps4
        go_wp2_with (first | (go_at_call 7; refine (HK _).mono ?_; rintro e W1 ⟨rfl, x1⟩; have cl := (kl0.ext x1).cell; have ll := (kl0.ext x1).lt) | (go_at_call 11; refine (HA _ (((Ext.refl _).alloc _).trans x1)).mono ?_; rintro e W2 ⟨rfl, x2⟩) | (go_at_call 12; refine (HV _ ((((Ext.refl _).alloc _).trans x1).trans x2)).mono ?_; rintro e W3 ⟨rfl, rfl⟩; have cl2 := ((kl0.ext x1).ext x2).cell; have ll2 := ((kl0.ext x1).ext x2).lt) | (go_at_call 13; refine (HB _ ((((Ext.refl _).alloc _).trans x1).trans x2)).mono ?_; rintro e W4 ⟨v, rfl, hq, x4⟩; obtain ⟨a5, c5, a6, c6, rfl⟩ := hq.form))
        have hE4 : Ext w W4 := ((((Ext.refl _).alloc _).trans x1).trans x2).trans x4
        obtain ⟨s1, s2⟩ := hq.sl x4 (by omega) (by omega)
        refine named fun WA hWA => ?_
        have kL : Blk WA W4.heap.size #[.slice a5 L.cents.length c5, .slice a6 L.masks.length c6] 25 := Blk.of_eq hWA (Blk.new' rfl)
        have kA : Blk WA w.heap.size #[.slice ad a.length ca] 39 := Blk.of_eq hWA ((((kl0.ext x1).ext x2).ext x4).alloc _)
        have hA : Ext w WA := Ext.of_eq hWA (hE4.alloc _)
        have x5 : Ext W4 WA := Ext.of_eq hWA ((Ext.refl _).alloc _)
        replace s1 := s1.ext x5
        replace s2 := s2.ext x5
        clear hWA hq x1 x2 x4 x5 hE4 cl ll cl2 ll2 kl0 HK HA HB HV hd2
        generalize W4.heap.size = BL at *
        obtain ⟨i0, hinf, hz0, hz1, hz2⟩ := info_parts int_info
        have hmax : 140737488355328 ≤ maxLen := by decide
        replace hz0 : Hid _ := hz0
        replace hz1 : Hid _ := hz1
        replace hz2 : Hid _ := hz2
        obtain ⟨six1, six2⟩ := six
        obtain ⟨a7, c7, e7, _, _, hmr⟩ := s2.form
        simp only [Value.slice.injEq, true_and] at e7
        obtain ⟨rfl, rfl⟩ := e7
        go_loopg [7, 8, 50] L.masks.length (fun gg s7 s8 s50 wr => ∃ k : Nat, k ≤ L.masks.length ∧ L.masks.length - k ≤ gg ∧ s50 = .int .i64 k ∧ s8 = .int .i64 (cntSum (L.masks.take k) : Nat) ∧ wr.ownsRow WA.heap.size 3 1 s7 k ((placesOf k).map (Value.int .i64)) ∧ Ext WA wr)
        case atStart => exact ⟨0, Nat.zero_le _, by omega, rfl, rfl, World.ownsRow_nil _ _ _ _, Ext.refl _⟩
        case round =>
          obtain ⟨k, hk, hg, rfl, rfl, hown, hB⟩ := hrel
          by_cases hlt : k < L.masks.length
          · obtain ⟨b, off, cs1, rfl, rfl, hcell⟩ := (hmr.ext hB).at_ hlt
            have hx := run_at (P := Try.prog) 23 31 2 Try.underlying23 Try.sizeOf31 (c := c6) (a := some ⟨b, off, none⟩) rfl hlt
            have m0 : wr.cell? ⟨b, off + k * 2, none⟩ = _ := hcell 0 _ rfl
            have m1 : wr.cell? ⟨b, off + k * 2 + 1, none⟩ = _ := hcell 1 _ rfl
            have S : Hid (cntSum (L.masks.take (k + 1)) = cntSum (L.masks.take k) + mCount L.masks[k]) := by unfold Hid; rw [take_snoc _ _ hlt, cntSum_snoc]
            have hb1 := cntSum_le (L.masks.take k)
            have hb2 := cntSum_le [L.masks[k] ]
            rw [List.length_take] at hb1
            have e2 : cntSum [L.masks[k] ] = mCount L.masks[k] := by simp [cntSum]
            rw [e2] at hb2
            have HN := fun W => count_any L.masks[k] W
            clear hcell e2
            simp only [List.length_cons, List.length_nil] at hb2
            generalize hct : cntSum (L.masks.take k) = ct at *
            replace hct : Hid _ := hct
            generalize mCount L.masks[k] = cm at *
            generalize L.masks[k] = m at *
            have hct0 : (0 : Int) ≤ (ct : Int) := by omega
            have hct1 : (ct : Int) ≤ 10000 := by omega
            have hcm0 : (0 : Int) ≤ (cm : Int) := by omega
            have hcm1 : (cm : Int) ≤ 10000 := by omega
            have hown0 := (hown.alloc (.cells #[.int .u64 (lo m), .int .u64 (hi m)] 31)).alloc (.cells #[.int .i64 k] 3)
            have hB0 := (hB.alloc (.cells #[.int .u64 (lo m), .int .u64 (hi m)] 31)).alloc (.cells #[.int .i64 k] 3)
            have km := (Blk.new' (w := wr) (b := wr.heap.size) (cs := #[.int .u64 (lo m), .int .u64 (hi m)]) (t := 31) rfl).alloc (.cells #[.int .i64 k] 3)
            have hnews : ∀ (j : Nat) u, [Value.int .i64 (k : Int)][j]? = some u → ((wr.alloc (.cells #[.int .u64 (lo m), .int .u64 (hi m)] 31)).alloc (.cells #[.int .i64 k] 3)).cell? ((⟨wr.heap.size + 1, 0, none⟩ : Addr).add j) = some u := (Blk.new' (w := wr.alloc (.cells #[.int .u64 (lo m), .int .u64 (hi m)] 31)) (b := wr.heap.size + 1) (cs := #[.int .i64 k]) (t := 3) (by simp)).news
            go_wp2_with (first
              | (at_builtin; refine wpList_append_own _ rfl _ _ 26 rfl WA.heap.size 3 i0 (.int .i64 0) 1 8 Try.underlying26 hinf hz0.out hz1.out hz2.out rfl (by decide) _ _ _ rfl hown0 ⟨wr.heap.size + 1, 0, none⟩ 1 1 [.int .i64 k] rfl rfl hnews (by simp [Value.oneCell']) (by omega) (by omega) hB0.le ?_; intro v' w1 hown' hgrow _; have hB1 := hB0.append hown0 (Nat.le_refl _) hgrow; have km1 := km.append hown0 hgrow (by decide); have cm1 := km1.cell)
              | (go_at_call 14; refine (HN _).mono ?_; rintro e W2 ⟨rfl, hx2⟩))
            go_roundg (L.masks.length - (k + 1))
            case measure => omega
            case rel => exact ⟨k + 1, by omega, by omega, by go_num, by rw [S.out]; go_num, own_ext (by rw [placesOf_snoc, List.map_append]; exact hown') hx2, hB1.trans hx2⟩
          · obtain rfl : k = L.masks.length := by omega
            rw [List.take_length] at *
            have hsum := hP.out.sum
            have hcount := hP.out.count
            have hfree := free_count hao.out
            have HU := fun W (h : Ext wr W) => lunion_any L (placesOf L.masks.length) _ _ _ W (s1.ext (hB.trans h)) (s2.ext (hB.trans h)) ((own_ints hown (by omega)).ext h) (by rw [placesOf_len]; omega)
            have hua := union_all hlo.out
            rw [hua.1, hua.2] at HU
            have HC := fun W => count_any (mOr L.masks) W
            rw [hcount] at HC
            rw [hfree] at HF
            rw [hsum]
            have hUle : (List.range 96).countP (fun j => decide (j < 96) && usedAt a j) ≤ 96 := Nat.le_trans List.countP_le_length (by simp)
            have HHas : Hid (∀ (j : Nat), j < 96 → mHas (mOr L.masks) j = (decide (j < 96) && usedAt a j)) := fun j hj => hP.out.has j hj
            have HWhere : Hid (∀ (j : Nat), j < 96 → lsWhereB L j = (decide (j < 96) && usedAt a j) ∧ ((decide (j < 96) && usedAt a j) = true → lsWhereN L j = (nearOf c a j : Int))) := fun j hj => hP.out.where_ hlo.out j hj
            have ha6 : Hid (a.length = 96) := by have := hao.out; unfold arOk at this; simp at this; exact this.1
            clear hsum hcount hfree hua hP hlo hao
            generalize (List.range 96).countP (fun j => decide (j < 96) && usedAt a j) = U at *
            obtain ⟨pa, pc, hpv⟩ := own_form' hown
            subst hpv
            have kL1 := kL.ext hB
            have kA1 := kA.ext hB
            have hA1 := hA.trans hB
            replace s1 := s1.ext hB
            replace s2 := s2.ext hB
            clear hown kL kA hA hmr
            have cL := kL1.cell
            have lL := kL1.lt
            generalize mOr L.masks = all at *
            have d2 : ((U : Int) != 96 - (96 - (U : Int))) = false := by simp; omega
            go_wp2_with (first
              | (go_at_call 9; refine (HU _ (Ext.refl _)).mono ?_; rintro e W5 ⟨rfl, x5⟩; have kl5 := Blk.new' (w := W5) (b := W5.heap.size) (cs := #[.int .u64 (lo all), .int .u64 (hi all)]) (t := 31) rfl)
              | (go_at_call 14; refine (HC _).mono ?_; rintro e W6 ⟨rfl, x6⟩; have kA6 := ((kA1.ext x5).alloc (.cells #[.int .u64 (lo all), .int .u64 (hi all)] 31)).ext x6; have cA6 := kA6.cell; have lA6 := kA6.lt; have hA6 := ((hA1.trans x5).alloc (.cells #[.int .u64 (lo all), .int .u64 (hi all)] 31)).trans x6)
              | (go_at_call 15; refine (HF _ hA6).mono ?_; rintro e W7 ⟨rfl, x7⟩; have kA7 := kA6.ext x7; have cA7 := kA7.cell; have lA7 := kA7.lt))
            have hA7 := hA6.trans x7
            have kall := (kl5.ext x6).ext x7
            have kL7 := (((kL1.ext x5).alloc (.cells #[.int .u64 (lo all), .int .u64 (hi all)] 31)).ext x6).ext x7
            have x57 : Ext wr W7 := ((x5.alloc (.cells #[.int .u64 (lo all), .int .u64 (hi all)] 31)).trans x6).trans x7
            replace s1 := s1.ext x57
            replace s2 := s2.ext x57
            generalize W5.heap.size = BA at *
            clear cL lL kL1 kA1 hA1 x5 kl5 x6 kA6 cA6 lA6 hA6 x7 kA7 cA7 lA7 HU HC HF d2 x57
            go_loopg [88] a.length (fun gg s88 wr => ∃ k : Nat, k ≤ a.length ∧ a.length - k ≤ gg ∧ s88 = .int .i64 k ∧ Ext W7 wr)
            case atStart => exact ⟨0, Nat.zero_le _, by omega, rfl, Ext.refl _⟩
            case round =>
              obtain ⟨k, hk2, hg2, rfl, hW⟩ := hrel
              by_cases hlt : k < a.length
              · have h96 : k < 96 := by have := ha6.out; omega
                obtain ⟨b, off, rfl, hS, q0, q1, q2, q3, q4⟩ := hU.ext (hA7.trans hW) k hlt
                obtain ⟨a3, cc3, hs, _, _, _⟩ := hS.form
                have hx := run_at (P := Try.prog) 37 50 5 Try.underlying37 Try.sizeOf50 (c := ca) (a := some ⟨b, off, none⟩) rfl hlt
                have HW := fun W (h : Ext W7 W) => where_any L k _ _ W (s1.ext h) (s2.ext h)
                have HS := fun W => has_any all k W
                rw [HHas.out k h96] at HS
                have hw := HWhere.out k h96
                have hvk := hV.out k h96
                have hnear : ∀ i, i < c.length → dAt c (a.getD k cellNone).ver.vec (vNear c (a.getD k cellNone).ver.vec) ≤ dAt c (a.getD k cellNone).ver.vec i ∧ (dAt c (a.getD k cellNone).ver.vec i = dAt c (a.getD k cellNone).ver.vec (vNear c (a.getD k cellNone).ver.vec) → vNear c (a.getD k cellNone).ver.vec ≤ i) := near_min (a.getD k cellNone).ver.vec c (List.length_pos_iff.2 hc0.out)
                have hnlt := near_lt (a.getD k cellNone).ver.vec c (List.length_pos_iff.2 hc0.out)
                have hd96 : decide (k < 96) = true := by simpa using h96
                unfold usedAt at hw HS hvk
                unfold nearOf at hw
                rw [hd96, Bool.true_and] at hw HS
                rw [hw.1] at HW
                have hw2 := hw.2
                have hSv : kI32.Sl wr (ss.getD k undef) (a.getD k cellNone).ver.vec := hS
                rw [hs] at q4 hSv
                replace hw2 : Hid _ := hw2
                replace hvk : Hid _ := hvk
                replace hnear : Hid _ := hnear
                clear hs hS hU hw h96 hd96 HHas HWhere hV
                generalize a.getD k cellNone = x at *
                obtain ⟨u, i, bg, eg, xv⟩ := x
                dsimp only at *
                generalize xv.length = n3 at *
                generalize lsWhereN L k = wn at *
                have kL2 := (kL7.ext hW).alloc (.cells #[.bool u, .int .u64 i, .int .u64 bg, .int .u64 eg, .slice a3 n3 cc3] 50)
                have kall2 := (kall.ext hW).alloc (.cells #[.bool u, .int .u64 i, .int .u64 bg, .int .u64 eg, .slice a3 n3 cc3] 50)
                have kx2 := Blk.new' (w := wr) (b := wr.heap.size) (cs := #[.bool u, .int .u64 i, .int .u64 bg, .int .u64 eg, .slice a3 n3 cc3]) (t := 50) rfl
                have x2 : Ext W7 (wr.alloc (.cells #[.bool u, .int .u64 i, .int .u64 bg, .int .u64 eg, .slice a3 n3 cc3] 50)) := hW.alloc _
                have cL2 := kL2.cell
                have lL2 := kL2.lt
                cases u with
                | false =>
                  clear hw2 hvk hnear
                  go_wp2_with (go_at_call 16; refine (HW _ x2).mono ?_; rintro e W8 ⟨rfl, x8⟩)
                  replace kx2 := kx2.ext x8
                  replace kall2 := kall2.ext x8
                  replace x2 := x2.trans x8
                  clear cL2 lL2 kL2
                  have cx := kx2.cell
                  have call := kall2.cell
                  refine region_all (Ext _) (by kernel_rfl) (by kernel_rfl) (Ext.drew' (Below.refl _ _)) ?_
                  repeat (first | (refine quiet_op ?_ ?_; (focus (go_simp; done)); apply Exists.intro; refine ⟨fun W hW => ?_, ?_⟩; (focus (have hc := hW.cellR; go_simp; first | exact rfl | (go_at_call 17; refine (HS _).mono ?_; rintro e w' ⟨rfl, hx⟩; exact ⟨rfl, hW.trans hx⟩))); simp only [Act.put, List.setIfInBounds_toArray, List.set_cons_succ, List.set_cons_zero]) | (refine quiet_skip ?_ ?_; (focus (go_simp; done)); simp only [Act.put, List.setIfInBounds_toArray, List.set_cons_succ, List.set_cons_zero]))
                  refine wpQuiet_nil ?_
                  intro W9 hW9
                  replace kx2 := kx2.ext hW9
                  clear cx call
                  have cx := kx2.cell
                  have lx := kx2.lt
                  go_wp2
                  go_roundg (a.length - (k + 1))
                  case measure => omega
                  case rel => exact ⟨k + 1, by omega, by omega, by go_num, x2.trans hW9⟩
                | true =>
                  have hwn := hw2.out rfl
                  subst hwn
                  have hv0 := hvk.out rfl
                  replace hv0 : Hid _ := hv0
                  clear hw2 hvk
                  have hvec : ∀ j (hj : j < c.length), ∃ b2 off2 a9 n9 c9, a1 = some ⟨b2, off2, none⟩ ∧ kI32.Sl w (.slice a9 n9 c9) (c.getD j []) ∧ w.cell? ⟨b2, off2 + j, none⟩ = some (.slice a9 n9 c9) := fun j hj => by
                    obtain ⟨b2, off2, cs2, ha2, ⟨a9, c9, rfl, r1, r2, r3⟩, hcell2⟩ := hcr.at_ hj
                    have e : c.getD j [] = c[j] := by rw [List.getD_eq_getElem?_getD, List.getElem?_eq_getElem hj]; rfl
                    have y0 : w.cell? ⟨b2, off2 + j * 1, none⟩ = _ := hcell2 0 _ rfl
                    rw [Nat.mul_one] at y0
                    exact ⟨b2, off2, a9, _, c9, ha2, by rw [e]; exact ⟨a9, c9, rfl, r1, r2, r3⟩, y0⟩
                  generalize hnr : vNear c xv = nr at *
                  clear hnr
                  obtain ⟨b2, off2, a9, n9, c9, rfl, hK9, y9⟩ := hvec nr hnlt
                  have hx9 := run_at (P := Try.prog) 22 46 1 Try.underlying22 Try.sizeOf46 (c := c1) (a := some ⟨b2, off2, none⟩) rfl hnlt
                  rw [Nat.mul_one] at hx9
                  have hnr0 : (0 : Int) ≤ (nr : Int) := by omega
                  have hnr1 : (nr : Int) < (c.length : Int) := by omega
                  go_wp2_with (go_at_call 16; refine (HW _ x2).mono ?_; rintro e W8 ⟨rfl, x8⟩)
                  replace kx2 := kx2.ext x8
                  replace kall2 := kall2.ext x8
                  replace x2 := x2.trans x8
                  have hr8 := ((Ext.refl wr).alloc (.cells #[.bool true, .int .u64 i, .int .u64 bg, .int .u64 eg, .slice a3 n3 cc3] 50)).trans x8
                  replace hSv := hSv.ext hr8
                  clear cL2 lL2 kL2 hr8 x8 HW
                  have cx := kx2.cell
                  have call := kall2.cell
                  refine region_all (Ext _) (by kernel_rfl) (by kernel_rfl) (Ext.drew' (Below.refl _ _)) ?_
                  repeat (first | (refine quiet_op ?_ ?_; (focus (go_simp; done)); apply Exists.intro; refine ⟨fun W hW => ?_, ?_⟩; (focus (have hc := hW.cellR; go_simp; first | exact rfl | (go_at_call 17; refine (HS _).mono ?_; rintro e w' ⟨rfl, hx⟩; exact ⟨rfl, hW.trans hx⟩))); simp only [Act.put, List.setIfInBounds_toArray, List.set_cons_succ, List.set_cons_zero]) | (refine quiet_skip ?_ ?_; (focus (go_simp; done)); simp only [Act.put, List.setIfInBounds_toArray, List.set_cons_succ, List.set_cons_zero]))
                  refine wpQuiet_nil ?_
                  intro W9 hW9
                  replace kx2 := kx2.ext hW9
                  replace x2 := x2.trans hW9
                  replace hSv := hSv.ext hW9
                  clear cx call kall2 hW9 HS
                  have cx := kx2.cell
                  have lx := kx2.lt
                  go_wp2
                  have h09 := hA7.trans x2
                  have y9' := h09.cellS y9
                  have HD := fun W (h : Ext W9 W) => dist_at c xv hv0.out nr hnlt _ _ W ((hK9.ext h09).ext h) (hSv.ext h)
                  refine region_all (Ext _) (by kernel_rfl) (by kernel_rfl) (Ext.drew' (Below.refl _ _)) ?_
                  repeat (first | (refine quiet_op ?_ ?_; (focus (go_simp; done)); apply Exists.intro; refine ⟨fun W hW => ?_, ?_⟩; (focus (have hc := hW.cellR; go_simp; first | exact rfl | (go_at_call 18; refine (HD _ hW).mono ?_; rintro e w' ⟨rfl, hx⟩; exact ⟨rfl, hW.trans hx⟩))); simp only [Act.put, List.setIfInBounds_toArray, List.set_cons_succ, List.set_cons_zero]) | (refine quiet_skip ?_ ?_; (focus (go_simp; done)); simp only [Act.put, List.setIfInBounds_toArray, List.set_cons_succ, List.set_cons_zero]))
                  refine wpQuiet_nil ?_
                  intro W10 hW10
                  replace kx2 := kx2.ext hW10
                  replace x2 := x2.trans hW10
                  replace hSv := hSv.ext hW10
                  clear cx lx h09 y9' HD hW10 hK9 y9 hx9
                  generalize hD0 : dAt c xv nr = D0 at *
                  clear hD0
                  go_wp2
                  go_loopg [129] c.length (fun gg s129 wi => ∃ j : Nat, j ≤ c.length ∧ c.length - j ≤ gg ∧ s129 = .int .i64 j ∧ Ext W10 wi)
                  case atStart => exact ⟨0, Nat.zero_le _, by omega, rfl, Ext.refl _⟩
                  case round =>
                    obtain ⟨j, hj1, hj2, rfl, hWi⟩ := hrel
                    by_cases hjl : j < c.length
                    · obtain ⟨b3, off3, a8, n8, c8, e8, hK8, y8⟩ := hvec j hjl
                      simp only [Option.some.injEq, Addr.mk.injEq, and_true] at e8
                      obtain ⟨rfl, rfl⟩ := e8
                      have hx8 := run_at (P := Try.prog) 22 46 1 Try.underlying22 Try.sizeOf46 (c := c1) (a := some ⟨b2, off2, none⟩) rfl hjl
                      rw [Nat.mul_one] at hx8
                      have h0i := hA7.trans (x2.trans hWi)
                      have y8' := h0i.cellS y8
                      have HD := fun W (h : Ext wr W) => dist_at c xv hv0.out j hjl _ _ W ((hK8.ext h0i).ext h) ((hSv.ext hWi).ext h)
                      have kx3 := kx2.ext hWi
                      have cx := kx3.cell
                      have lx := kx3.lt
                      obtain ⟨n1', n2'⟩ := hnear.out j hjl
                      clear hK8 y8
                      generalize dAt c xv j = dj at *
                      have dl : decide (dj < D0) = false := by simp; omega
                      by_cases hde : dj = D0
                      · have de : (dj == D0) = true := by simpa using hde
                        have dji : decide (j < nr) = false := by have := n2' hde; simp; omega
                        clear n1' n2' hde
                        go_wp2_with (go_at_call 18; refine (HD _ (Ext.refl _)).mono ?_; rintro e W12 ⟨rfl, x12⟩)
                        go_roundg (c.length - (j + 1))
                        case measure => omega
                        case rel => exact ⟨j + 1, by omega, by omega, by go_num, hWi.trans x12⟩
                      · have de : (dj == D0) = false := by simpa using hde
                        clear n1' n2' hde
                        go_wp2_with (go_at_call 18; refine (HD _ (Ext.refl _)).mono ?_; rintro e W12 ⟨rfl, x12⟩)
                        go_roundg (c.length - (j + 1))
                        case measure => omega
                        case rel => exact ⟨j + 1, by omega, by omega, by go_num, hWi.trans x12⟩
                    · obtain rfl : j = c.length := by omega
                      go_wp2
                      go_roundg (a.length - (k + 1))
                      case measure => omega
                      case rel => exact ⟨k + 1, by omega, by omega, by go_num, x2.trans hWi⟩
              · obtain rfl : k = a.length := by omega
                clear hU hV HHas HWhere
                go_wp2
                go_ret
                exact ⟨rfl, hA7.trans hW⟩

end Go.Proofs.Ytiolpknfdabijaa
