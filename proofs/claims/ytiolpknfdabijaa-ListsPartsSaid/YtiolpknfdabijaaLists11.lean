/- Lists: Union. -/
import Derived.Test.YtiolpknfdabijaaProg
import Derived.Test.YtiolpknfdabijaaLib
import Derived.Test.YtiolpknfdabijaaPure
import Derived.Test.YtiolpknfdabijaaMask
import Derived.Test.YtiolpknfdabijaaMask2
import Derived.Test.YtiolpknfdabijaaVec
import Derived.Test.YtiolpknfdabijaaVec2
import Derived.Test.YtiolpknfdabijaaLib2
import Derived.Test.YtiolpknfdabijaaLists
import Derived.Test.YtiolpknfdabijaaLists2
import Derived.Test.YtiolpknfdabijaaLists3
set_option linter.unusedVariables false
set_option maxRecDepth 4000
set_option linter.unusedSimpArgs false
namespace Go.Proofs.Ytiolpknfdabijaa
open Go.RowKit


def inPl (n : Nat) (p : Int) : Bool := decide (0 ≤ p) && decide (p < n)
def uMasks (ms : List Mask) (ps : List Int) : List Mask := ps.map fun p => ms.getD p.toNat 0
theorem uMasks_snoc (ms : List Mask) (ps : List Int) (k : Nat) (hk : k < ps.length) : uMasks ms (ps.take (k + 1)) = uMasks ms (ps.take k) ++ [ms.getD (ps[k]).toNat 0] := by
  unfold uMasks; rw [take_snoc _ _ hk, List.map_append]; rfl
def lsUnionM (l : Lists) (ps : List Int) : Mask := (lsUnion l ps).1
def lsUnionE (l : Lists) (ps : List Int) : Int := (lsUnion l ps).2
theorem ret_me {m m' : Mask} {e e' : Int} (h : m = m') (h' : e = e') : Ending.returned (.tuple #[.agg #[.int .u64 (lo (m)), .int .u64 (hi (m))], .int .i64 e]) = .returned (.tuple #[.agg #[.int .u64 (lo (m')), .int .u64 (hi (m'))], .int .i64 e']) := by rw [h, h']
set_option maxHeartbeats 4000000 in
theorem lunion_any (l : Lists) (ps : List Int) (cv mv pv : Value) (w : World) (hc : kVec.Sl w cv l.cents) (hm : kMask.Sl w mv l.masks) (hp : kInt.Sl w pv ps) (hpn : ps.length ≤ 1000000) :
    Calls Try.prog 9 #[.agg #[cv, mv], pv] w fun e w' => e = .returned (.tuple #[.agg #[.int .u64 (lo (lsUnionM l ps)), .int .u64 (hi (lsUnionM l ps))], .int .i64 (lsUnionE l ps)]) ∧ Ext w w' := by
  have HK := fun W (hx : Ext w W) => lcheck_any l cv mv W (hc.ext hx) (hm.ext hx)
  have V : Hid (∀ m e, lsUnionM l ps = m → lsUnionE l ps = e → (lsOk l = false → m = 0 ∧ e = 230) ∧ (lsOk l = true → ps.all (inPl l.masks.length) = false → m = 0 ∧ e = 2) ∧ (lsOk l = true → ps.all (inPl l.masks.length) = true → m = mOr (uMasks l.masks ps) ∧ e = 0)) := by
    intro m e h1 h2
    unfold lsUnionM lsUnionE lsUnion at *
    refine ⟨fun h => ?_, fun h h' => ?_, fun h h' => ?_⟩
    · rw [h] at h1 h2; exact ⟨h1.symm, h2.symm⟩
    · have : (ps.all fun p => decide (0 ≤ p) && decide (p < (l.masks.length : Int))) = false := h'
      rw [h, this] at h1 h2; exact ⟨h1.symm, h2.symm⟩
    · have : (ps.all fun p => decide (0 ≤ p) && decide (p < (l.masks.length : Int))) = true := h'
      rw [h, this] at h1 h2; exact ⟨h1.symm, h2.symm⟩
  generalize hM : lsUnionM l ps = rm at *
  generalize hE : lsUnionE l ps = re at *
  obtain ⟨V0, V1, V2⟩ := V.out rm re rfl rfl
  clear V hM hE
  obtain ⟨a1, c1, rfl, _, hcl, _⟩ := hc.form
  obtain ⟨a2, c2, rfl, _, hml, hmr⟩ := hm.form
  obtain ⟨a3, c3, rfl, _, hpl, hpr⟩ := hp.form
  obtain ⟨i0, hinf, hz0, hz1, hz2⟩ := info_parts info_mask
  have hmax : 140737488355328 ≤ maxLen := by decide
  clear hc hp
  have ka0 := (Blk.new' (w := w) (b := w.heap.size) (cs := #[.slice a1 l.cents.length c1, .slice a2 l.masks.length c2]) (t := 25) rfl).alloc (.cells #[.int .u64 0, .int .u64 0] 31)
  have kr0 := Blk.new' (w := w.alloc (.cells #[.slice a1 l.cents.length c1, .slice a2 l.masks.length c2] 25)) (b := w.heap.size + 1) (cs := #[.int .u64 0, .int .u64 0]) (t := 31) (by simp)
  cases h0 : lsOk l with
  | false =>
    have E : Hid (rm = 0 ∧ re = 230) := V0 h0
    have e0 : lsErr l = 230 := by unfold lsErr; rw [h0]; rfl
    rw [e0] at HK
    clear V0 V1 V2 h0 e0 hm hmr hpr hinf hz0 hz1 hz2
    generalize l.cents.length = n1 at *
    generalize l.masks.length = n2 at *
    generalize ps.length = n3 at *
    go_enter Try.func9, Try.ntmps9
    go_wp2_with (go_at_call 34; refine (HK _ (((Ext.refl _).alloc _).alloc _)).mono ?_; rintro y W1 ⟨rfl, hx⟩; have kr := kr0.ext hx; have cr := kr.cell; have fr := kr.frozen)
    have cr2 := ((kr.set_ 0 (.int .u64 0)).set_ 1 (.int .u64 0)).cell
    exact bodyPost_ret (v := .tuple #[.agg #[.int .u64 0, .int .u64 0], .int .i64 230]) (by simp [results, Try.results9, go_sem, cr2]) rfl ⟨by rw [E.out.1, E.out.2, lo_zero, hi_zero], (((((Ext.refl w).alloc _).alloc _).trans hx).set (by simp) _).set (by simp) _⟩
  | true =>
    have e0 : lsErr l = 0 := by unfold lsErr; rw [h0]; rfl
    rw [e0] at HK
    have V1 : Hid _ := V1 h0
    have V2 : Hid _ := V2 h0
    clear V0 h0 e0
    generalize l.cents.length = n1 at *
    generalize hms : l.masks = ms at *
    clear hms
    have hz : Hid _ := hz0
    have hy1 : Hid _ := hz1
    have hy2 : Hid _ := hz2
    clear hz0 hz1 hz2
    go_enter Try.func9, Try.ntmps9
    go_wp2_with (go_at_call 34; refine (HK _ (((Ext.refl _).alloc _).alloc _)).mono ?_; rintro y W1 ⟨rfl, hx⟩; have ka := ka0.ext hx; have kr := kr0.ext hx; have hB := (((Ext.refl w).alloc _).alloc _).trans hx)
    have hl := kr.lt
    clear ka0 kr0 hx HK
    go_loopg [7, 18] ps.length (fun gg s7 s8 wr => ∃ k : Nat, k ≤ ps.length ∧ ps.length - k ≤ gg ∧ s8 = .int .i64 k ∧ Hid ((ps.take k).all (inPl ms.length) = true) ∧ wr.ownsRow (w.heap.size + 2) 31 2 s7 k (maskFlat (uMasks ms (ps.take k))) ∧ Blk wr w.heap.size #[.slice a1 n1 c1, .slice a2 ms.length c2] 25 ∧ Blk wr (w.heap.size + 1) #[.int .u64 0, .int .u64 0] 31 ∧ Ext w wr)
    case atStart => exact ⟨0, Nat.zero_le _, by omega, rfl, by simp [Hid], World.ownsRow_nil _ _ _ _, ka, kr, hB⟩
    case round =>
      clear ka kr hB
      obtain ⟨k, hk, hg, rfl, hall, hown, ka, kr, hB⟩ := hrel
      have lr := kr.lt
      by_cases hlt : k < ps.length
      · obtain ⟨b, off, cs1, rfl, rfl, hcell⟩ := (hpr.ext hB).at_ hlt
        have hx := run_at (P := Try.prog) 26 3 1 Try.underlying26 Try.sizeOf3 (c := c3) (a := some ⟨b, off, none⟩) rfl hlt
        have c0 : wr.cell? ⟨b, off + k * 1, none⟩ = _ := hcell 0 _ rfl
        rw [Nat.mul_one] at hx c0
        have S : Hid _ := uMasks_snoc ms ps k hlt
        have hnot : Hid (inPl ms.length ps[k] = false → rm = 0 ∧ re = 2) := fun h => V1.out (by
          rw [Bool.eq_false_iff]
          intro e
          have := List.all_eq_true.1 e _ (List.getElem_mem hlt)
          rw [h] at this; cases this)
        have hyes : Hid (inPl ms.length ps[k] = true → (ps.take (k + 1)).all (inPl ms.length) = true) := fun h => by
          rw [take_snoc _ _ hlt, List.all_append, hall.out]; simp [h]
        have ca := ka.cell
        have hsp : ∀ p, ps[k] = p → inPl ms.length p = (decide (0 ≤ p) && decide (p < (ms.length : Int))) := fun p _ => rfl
        clear hcell V1 V2 hall
        generalize ps[k] = p at *
        by_cases p0 : p < 0
        · have E : Hid (rm = 0 ∧ re = 2) := hnot.out (by rw [hsp p rfl]; simp; omega)
          have cr := kr.cell; have fr := kr.frozen
          clear hsp hyes hnot
          go_wp2
          have cr2 := ((kr.set_ 0 (.int .u64 0)).set_ 1 (.int .u64 0)).cell
          exact bodyPost_ret (v := .tuple #[.agg #[.int .u64 0, .int .u64 0], .int .i64 2]) (by simp [results, Try.results9, go_sem, cr2]) rfl ⟨by rw [E.out.1, E.out.2, lo_zero, hi_zero], (hB.set (by simp) _).set (by simp) _⟩
        · have d0 : decide (p < 0) = false := by simpa using p0
          by_cases p1 : p < ms.length
          · have d1 : decide ((ms.length : Int) ≤ p) = false := by simpa using p1
            have E : Hid _ := hyes.out (by rw [hsp p rfl]; simp; omega)
            obtain ⟨j, rfl⟩ : ∃ j : Nat, p = j := ⟨p.toNat, by omega⟩
            have hj : j < ms.length := by omega
            obtain ⟨b2, off2, cs2, rfl, rfl, hcell2⟩ := (hmr.ext hB).at_ hj
            have hx2 := run_at (P := Try.prog) 23 31 2 Try.underlying23 Try.sizeOf31 (c := c2) (a := some ⟨b2, off2, none⟩) rfl hj
            have y0 : wr.cell? ⟨b2, off2 + j * 2, none⟩ = _ := hcell2 0 _ rfl
            have y1 : wr.cell? ⟨b2, off2 + j * 2 + 1, none⟩ = _ := hcell2 1 _ rfl
            have eg : ms.getD j 0 = ms[j] := by rw [List.getD_eq_getElem?_getD, List.getElem?_eq_getElem hj]; rfl
            rw [Int.toNat_natCast, eg] at S
            have hjj : (j : Int) < (ms.length : Int) := p1
            clear hsp hyes hnot hcell2 eg p1
            generalize ms[j] = m at *
            have hown0 := hown.alloc (.cells #[.int .u64 (lo m), .int .u64 (hi m)] 31)
            have hnews : ∀ (j : Nat) u, [Value.int .u64 (lo m), .int .u64 (hi m)][j]? = some u → (wr.alloc (.cells #[.int .u64 (lo m), .int .u64 (hi m)] 31)).cell? ((⟨wr.heap.size, 0, none⟩ : Addr).add j) = some u := (Blk.new' (w := wr) (b := wr.heap.size) (cs := #[.int .u64 (lo m), .int .u64 (hi m)]) (t := 31) rfl).news
            go_wp2_with (at_builtin; refine wpList_append_own _ rfl _ _ 23 rfl (w.heap.size + 2) 31 i0 (.agg #[.int .u64 0, .int .u64 0]) 2 16 Try.underlying23 hinf hz.out hy1.out hy2.out rfl (by decide) _ _ _ rfl hown0 ⟨wr.heap.size, 0, none⟩ 1 1 [.int .u64 (lo m), .int .u64 (hi m)] rfl rfl hnews (by simp [Value.oneCell']) (by omega) (by omega) (by simp; omega) ?_; intro v' w1 hown' hgrow _)
            have ka2 := (ka.alloc (.cells #[.int .u64 (lo m), .int .u64 (hi m)] 31)).append hown0 hgrow (by decide)
            have kr2 := (kr.alloc (.cells #[.int .u64 (lo m), .int .u64 (hi m)] 31)).far2 hown0 hgrow (by omega)
            have hB2 := (hB.alloc (.cells #[.int .u64 (lo m), .int .u64 (hi m)] 31)).append hown0 (by omega) hgrow
            go_roundg (ps.length - (k + 1))
            case measure => omega
            case rel => exact ⟨k + 1, by omega, by omega, by go_num, E, by rw [S.out, maskFlat_snoc]; exact hown', ka2, kr2, hB2⟩
          · have d1 : decide ((ms.length : Int) ≤ p) = true := by simpa using p1
            have E : Hid (rm = 0 ∧ re = 2) := hnot.out (by rw [hsp p rfl]; simp; omega)
            have cr := kr.cell; have fr := kr.frozen
            clear hsp hyes hnot
            go_wp2
            have cr2 := ((kr.set_ 0 (.int .u64 0)).set_ 1 (.int .u64 0)).cell
            exact bodyPost_ret (v := .tuple #[.agg #[.int .u64 0, .int .u64 0], .int .i64 2]) (by simp [results, Try.results9, go_sem, cr2]) rfl ⟨by rw [E.out.1, E.out.2, lo_zero, hi_zero], (hB.set (by simp) _).set (by simp) _⟩
      · obtain rfl : k = ps.length := by omega
        rw [List.take_length] at hown hall
        have E : Hid _ := V2.out hall.out
        have hS := own_masks hown (by omega)
        have HO := fun W (h : Ext wr W) => ors_any (uMasks ms ps) _ W (hS.ext h)
        obtain ⟨a5, c5, rfl⟩ := own_form' hown
        clear V1 V2 hall hS hown
        generalize mOr (uMasks ms ps) = o at *
        generalize ps.length = n3 at *
        go_wp2_with (go_at_call 10; refine (HO _ (Ext.refl _)).mono ?_; rintro e W2 ⟨rfl, hx2⟩; have kr2 := kr.ext hx2; have cr := kr2.cell; have fr := kr2.frozen)
        have cr2 := ((kr2.set_ 0 (.int .u64 (lo o))).set_ 1 (.int .u64 (hi o))).cell
        exact bodyPost_ret (v := .tuple #[.agg #[.int .u64 (lo (o)), .int .u64 (hi (o))], .int .i64 0]) (by simp [results, Try.results9, go_sem, cr2]) rfl ⟨by rw [E.out.1, E.out.2], ((hB.trans hx2).set (by simp) _).set (by simp) _⟩

end Go.Proofs.Ytiolpknfdabijaa
