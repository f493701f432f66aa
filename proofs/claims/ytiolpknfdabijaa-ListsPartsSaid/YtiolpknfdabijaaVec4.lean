/- Dist and Nearest. -/
import Derived.Test.YtiolpknfdabijaaProg
import Derived.Test.YtiolpknfdabijaaLib
import Derived.Test.YtiolpknfdabijaaPure
import Derived.Test.YtiolpknfdabijaaLib2
import Derived.Test.YtiolpknfdabijaaMask2
import Derived.Test.YtiolpknfdabijaaVec
import Derived.Test.YtiolpknfdabijaaVec2
import Derived.Test.YtiolpknfdabijaaVec3
set_option linter.unusedVariables false
set_option maxRecDepth 4000
set_option linter.unusedSimpArgs false
namespace Go.Proofs.Ytiolpknfdabijaa
open Go.RowKit


theorem info_vec : (Try.prog.info? 46).map (fun i => (i.zero, i.size, i.bytes)) = some (some (.slice none 0 0), 1, 24) := by kernel_rfl
theorem vAll_zero {l : List Vec} (h : vAll l = 0) : ∀ x ∈ l, vOk x = true ∧ x.length = (l.headD []).length := by
  unfold vAll at h
  split at h
  · rename_i h1
    split at h
    · rename_i h2
      intro x hx
      exact ⟨List.all_eq_true.1 h1 x hx, by simpa using List.all_eq_true.1 h2 x hx⟩
    · simp at h
  · simp at h
theorem vAll_cases (l : List Vec) : vAll l = 0 ∨ vAll l = 150 ∨ vAll l = 151 := by unfold vAll; split <;> (try split) <;> simp
def distF (xs ys : Vec) : Int := if vAll [xs, ys] = 0 then vDist xs ys else 0
set_option maxHeartbeats 1000000 in
theorem Dist_any (xs ys : Vec) (v u : Value) (w : World) (hv : kI32.Sl w v xs) (hu : kI32.Sl w u ys) :
    Calls Try.prog 18 #[v, u] w fun e w' => e = .returned (.tuple #[.int .u64 (distF xs ys), .int .i64 (vAll [xs, ys])]) ∧ Ext w w' := by
  have H : ∀ W B, Ext w W → Blk W B #[v, u] 46 → Calls Try.prog 48 #[.slice (some ⟨B, 0, none⟩) 2 2] W fun e w' => e = .returned (.int .i64 (vAll [xs, ys])) ∧ Ext W w' := fun W B hW kb => by
    refine vall_any [xs, ys] _ W ⟨some ⟨B, 0, none⟩, 2, rfl, by simp, by simp, Kd.Row.one rfl fun k x hk => ?_⟩
    match k, hk with
    | 0, hk => simp at hk; subst hk; exact ⟨v, hv.ext hW, by rw [kb.cell]; rfl⟩
    | 1, hk => simp at hk; subst hk; exact ⟨u, hu.ext hW, by rw [Nat.zero_add, kb.cell]; rfl⟩
  have D := fun W (hW : Ext w W) (h0 : vAll [xs, ys] = 0) => by
    have a1 := vAll_zero h0 xs (by simp)
    have a2 := vAll_zero h0 ys (by simp)
    exact dist_any xs ys v u W (by rw [a1.2, a2.2]) a1.1 a2.1 (hv.ext hW) (hu.ext hW)
  have V : Hid (distF xs ys = if vAll [xs, ys] = 0 then vDist xs ys else 0) := rfl
  have hq := vAll_cases [xs, ys]
  obtain ⟨a, c, rfl, hc, hl, hr⟩ := hv.form
  obtain ⟨a2, c2, rfl, hc2, hl2, hr2⟩ := hu.form
  clear hr hr2 hv hu
  generalize vAll [xs, ys] = q at *
  generalize distF xs ys = r at *
  rcases hq with rfl | hq
  · have E : Hid (r = vDist xs ys) := by rw [V.out, if_pos rfl]; rfl
    replace D := fun W hW => D W hW rfl
    generalize vDist xs ys = d at *
    clear V
    go_enter Try.func18, Try.ntmps18
    go_wp2_with (first | (go_at_call 48; refine (H _ w.heap.size ((Ext.refl _).alloc _) (Blk.new' rfl)).mono ?_; rintro e W1 ⟨rfl, h1⟩) | (go_at_call 49; refine (D _ (((Ext.refl _).alloc _).trans h1)).mono ?_; rintro e W2 ⟨rfl, h2⟩))
    go_ret2
    exact ⟨by rw [E.out]; rfl, (((Ext.refl _).alloc _).trans h1).trans h2⟩
  · have hq0 : (q != 0) = true := by simp; omega
    have E : Hid (r = 0) := by rw [V.out, if_neg (by omega)]; rfl
    clear V D hq
    go_enter Try.func18, Try.ntmps18
    go_wp2_with (go_at_call 48; refine (H _ w.heap.size ((Ext.refl _).alloc _) (Blk.new' rfl)).mono ?_; rintro e W1 ⟨rfl, h1⟩)
    go_ret2
    exact ⟨by rw [E.out]; rfl, ((Ext.refl _).alloc _).trans h1⟩

theorem nearAt_take (v : Vec) (l : List Vec) (k : Nat) (hk : k < l.length) : (l.take (k + 1)).zipIdx.foldl (nearStep v) (0, vDist (l.headD []) v) = nearStep v ((l.take k).zipIdx.foldl (nearStep v) (0, vDist (l.headD []) v)) (l[k], k) := by
  rw [take_snoc _ _ hk, List.zipIdx_append, List.foldl_append]
  simp [Nat.min_eq_left (Nat.le_of_lt hk)]
/-- The state after k rounds. -/
def nst (v : Vec) (l : List Vec) (k : Nat) : Nat × Int := (l.take k).zipIdx.foldl (nearStep v) (0, vDist (l.headD []) v)
theorem nst_zero (v : Vec) (l : List Vec) : nst v l 0 = (0, vDist (l.headD []) v) := rfl
theorem nst_succ (v : Vec) (l : List Vec) (k : Nat) (hk : k < l.length) : nst v l (k + 1) = if vDist l[k] v < (nst v l k).2 then (k, vDist l[k] v) else nst v l k := nearAt_take v l k hk
theorem nst_all (v : Vec) (l : List Vec) : nst v l l.length = nearAt v l := by unfold nst nearAt; rw [List.take_length]
theorem nst_le (v : Vec) (l : List Vec) : ∀ k, k ≤ l.length → (nst v l k).1 ≤ k
  | 0, _ => by rw [nst_zero]; exact Nat.le_refl _
  | k + 1, h => by
    rw [nst_succ v l k (by omega)]
    have := nst_le v l k (by omega)
    split <;> simp <;> omega
theorem hitCmp_lt (i1 d1 i2 d2 : Int) (h : i2 ≤ i1) : hitCmp i1 d1 i2 d2 < 0 ↔ d1 < d2 := by
  unfold hitCmp or2 cmpI
  constructor
  · intro e
    refine Classical.byContradiction fun hn => ?_
    split at e <;> (repeat' split at e) <;> omega
  · intro e
    rw [if_pos e]
    simp
set_option maxHeartbeats 2000000 in
set_option maxRecDepth 100000 in
theorem Nearest_any (l : List Vec) (x : Vec) (v u : Value) (w : World) (hlen : l.length ≤ 1000) (hv : kVec.Sl w v l) (hu : kI32.Sl w u x) :
    Calls Try.prog 41 #[v, u] w fun e w' => e = .returned (.tuple #[.int .i64 (vNearest l x).1, .int .i64 (vNearest l x).2]) ∧ Ext w w' := by
  have hv0 := hv
  have hu0 := hu
  obtain ⟨a, c, rfl, hc, hl, hr⟩ := hv.form
  obtain ⟨a2, c2, rfl, hc2, hl2, hr2⟩ := hu.form
  by_cases hne : l = []
  · subst hne
    go_enter Try.func41, Try.ntmps41
    go_wp2
    go_ret2
    exact ⟨rfl, Ext.refl _⟩
  · have hp : 0 < l.length := List.length_pos_iff.2 hne
    obtain ⟨b, off, rfl, vs, hvl, hvs⟩ := hr.vals rfl hp
    obtain ⟨i0, hi, hz0, hz1, hz2⟩ := info_parts info_vec
    have hne0 : ((l.length : Int) == 0) = false := by simp; omega
    have hown := World.ownsRow_lit (base := w.heap.size) (e := 46) (size := 1) w #[.slice a2 x.length c2] 1 (Nat.le_refl _) (by unfold maxLen; omega) rfl
    have hnews : ∀ j q, vs[j]? = some q → (w.alloc (.cells #[.slice a2 x.length c2] 46)).cell? ((⟨b, off, none⟩ : Addr).add j) = some q := fun j q hj => by
      have hjl : j < l.length := by
        rw [← hvl]
        exact (List.getElem?_eq_some_iff.1 hj).1
      obtain ⟨q', h1, h2, h3⟩ := hvs j _ (List.getElem?_eq_getElem hjl)
      rw [hj] at h1
      injection h1 with h1
      subst h1
      have e : (⟨b, off, none⟩ : Addr).add j = ⟨b, off + j, none⟩ := by unfold Addr.add; split <;> simp_all
      rw [e]
      exact ((Ext.refl w).alloc _).cellS h3
    have hone : ∀ q ∈ vs, q.oneCell' = true := fun q hq => by
      obtain ⟨j, hj, rfl⟩ := List.mem_iff_getElem.1 hq
      obtain ⟨q', h1, ⟨a3, c3, h2, _⟩, _⟩ := hvs j _ (List.getElem?_eq_getElem (by omega : j < l.length))
      rw [List.getElem?_eq_getElem hj] at h1
      injection h1 with h1
      rw [h1]
      simp only [List.cons.injEq, and_true] at h2
      rw [h2]; rfl
    have HS : ∀ W gg cap, Ext w W → W.ownsRow w.heap.size 46 1 (.slice (some ⟨gg, 0, none⟩) (1 + l.length) cap) (1 + l.length) ([.slice a2 x.length c2] ++ vs) → Calls Try.prog 48 #[.slice (some ⟨gg, 0, none⟩) (1 + l.length) cap] W fun e w' => e = .returned (.int .i64 (vAll (x :: l))) ∧ Ext W w' := fun W gg cap hW ho => by
      refine vall_any (x :: l) _ W (Kd.Sl.own1 rfl ho (by simp [Nat.add_comm]) (by omega) fun k y hk => ?_)
      match k, hk with
      | 0, hk =>
        simp at hk
        subst hk
        exact ⟨_, rfl, hu0.ext hW⟩
      | k + 1, hk =>
        simp only [List.getElem?_cons_succ] at hk
        obtain ⟨q, h1, h2, _⟩ := hvs k y hk
        exact ⟨q, by simpa using h1, kVec.ext hW h2⟩
    have V : Hid (vNearest l x = if vAll (x :: l) = 0 then ((vNear l x : Int), 0) else (0, vAll (x :: l))) := by unfold vNearest; rw [if_neg hne]; rfl
    have D : ∀ W y (k : Nat) (hk : k < l.length), vAll (x :: l) = 0 → Ext w W → kVec.K W l[k] [y] → Calls Try.prog 49 #[y, .slice a2 x.length c2] W fun e w' => e = .returned (.int .u64 (vDist l[k] x)) ∧ Ext W w' := fun W y k hk h0 hW hK => by
      have a1 := vAll_zero h0 l[k] (by simp)
      have a2 := vAll_zero h0 x (by simp)
      exact dist_any l[k] x y _ W (by rw [a1.2, a2.2]) a1.1 a2.1 hK (hu0.ext hW)
    have A := vAll_cases (x :: l)
    have hhead : l.headD [] = l[0] := by cases l with | nil => exact absurd rfl hne | cons => rfl
    obtain ⟨y0, hy0, hyK0, hyc0⟩ := hvs 0 _ (List.getElem?_eq_getElem hp)
    rw [Nat.add_zero] at hyc0
    have D0 := fun W (h : vAll (x :: l) = 0) (hW : Ext w W) => D W y0 0 hp h hW (kVec.ext hW hyK0)
    rw [← hhead] at D0
    have hlt0 : (0 : Int) < (l.length : Int) := by omega
    clear hyK0 hy0 hhead hr hr2 hv hu
    generalize vAll (x :: l) = q at *
    generalize hR : vNearest l x = R at *
    clear hR
    rcases A with rfl | hq
    · have E : Hid (R = ((vNear l x : Int), 0)) := by rw [V.out, if_pos rfl]; rfl
      clear V
      have S0 : Hid (nst x l 0 = (0, vDist (l.headD []) x)) := nst_zero x l
      replace D := fun W y k hk hW hK => D W y k hk rfl hW hK
      replace D0 := fun W hW => D0 W rfl hW
      generalize vDist (l.headD []) x = d0 at *
      go_enter Try.func41, Try.ntmps41
      go_wp2_with (first | (at_builtin; refine wpList_append_own _ rfl _ _ 22 rfl w.heap.size 46 i0 (.slice none 0 0) 1 24 Try.underlying22 hi hz0 hz1 hz2 rfl (by decide) _ 1 [.slice a2 x.length c2] rfl hown ⟨b, off, none⟩ l.length c vs rfl (by omega) hnews hone (by unfold maxLen; omega) (by omega) (by simp) ?_; intro v' w1 hown' hg1 _; have hE1 := ((Ext.refl w).alloc _).append hown (Nat.le_refl _) hg1; obtain ⟨gg, cap, rfl, _, _, _⟩ := own_form hown' (by omega)) | (go_at_call 48; refine (HS _ gg cap hE1 hown').mono ?_; rintro e W1 ⟨rfl, h1⟩; have hc0 := (hE1.trans h1).cellS hyc0) | (go_at_call 49; refine (D0 _ (hE1.trans h1)).mono ?_; rintro e W2 ⟨rfl, h2⟩))
      refine named fun W3 hW3 => ?_
      have kb : Blk W3 W2.heap.size #[.int .u64 ((nst x l 0).1 : Nat), .int .u64 (nst x l 0).2] 120 := Blk.of_eq hW3 (by rw [S0.out]; exact Blk.new' rfl)
      have hB : Ext w W3 := Ext.of_eq hW3 (((hE1.trans h1).trans h2).alloc _)
      clear hW3 hown hnews hone HS hc0 S0
      have hbb : w.heap.size ≤ W2.heap.size := ((hE1.trans h1).trans h2).le
      generalize W2.heap.size = BB at *
      go_loopg [30] l.length (fun gk s8 wr => ∃ k : Nat, k ≤ l.length ∧ l.length - k ≤ gk ∧ s8 = .int .i64 k ∧ Blk wr BB #[.int .u64 ((nst x l k).1 : Nat), .int .u64 (nst x l k).2] 120 ∧ Ext w wr)
      case atStart => exact ⟨0, Nat.zero_le _, by omega, rfl, kb, hB⟩
      case round =>
        clear kb hB
        obtain ⟨k, hk, hg, rfl, kb, hB⟩ := hrel
        by_cases hlt : k < l.length
        · obtain ⟨y, hy, hyK, hyc⟩ := hvs k _ (List.getElem?_eq_getElem hlt)
          have hyc' := hB.cellS hyc
          have hcall := fun W (hW : Ext w W) => D W y k hlt hW (kVec.ext hW hyK)
          have S : Hid _ := nst_succ x l k hlt
          have hle := nst_le x l k hk
          have hwk : IntKind.u64.wrap (k : Int) = k := by rw [IntKind.wrap_u64]; omega
          have hC := hitCmp_lt k (vDist l[k] x) ((nst x l k).1 : Nat) (nst x l k).2 (by omega)
          have hlb : BB < wr.heap.size := kb.lt
          clear hy hyK hyc D D0 hvs
          generalize hn1 : nst x l k = st at *
          generalize hn2 : nst x l (k + 1) = st' at *
          have hn2' : Hid _ := hn2
          generalize vDist l[k] x = dk at *
          clear hn1 hn2
          obtain ⟨i1, d1⟩ := st
          dsimp only at *
          by_cases hd : dk < d1
          · have E2 : Hid (st' = (k, dk)) := by rw [S.out, if_pos hd]; rfl
            have hC' := hC.2 hd
            clear S hC hd
            go_wp2_with (first | (go_at_call 49; refine (hcall _ hB).mono ?_; rintro e W4 ⟨rfl, h4⟩; have kb4 := kb.ext h4; have cb4 := kb4.cell; have hl4 : BB < W4.heap.size := kb4.lt) | (go_at_call 86; refine (vCompare_any _ _ _ _ _).mono ?_; rintro e W5 ⟨rfl, h5⟩; have kh5 := (Blk.new' (b := W4.heap.size) rfl).ext h5; have kb5 := (kb4.alloc _).ext h5; have ch5 := kh5.cell; have fb5 := kb5.frozen; have cb5 := kb5.cell))
            go_roundg (l.length - (k + 1))
            case measure => omega
            case rel => exact ⟨k + 1, by omega, by omega, by go_num, by rw [hn2'.out, E2.out]; exact (kb5.set_ 0 _).set_ 1 _, ((((hB.trans h4).alloc _).trans h5).set hbb _).set hbb _⟩
          · have E2 : Hid (st' = (i1, d1)) := by rw [S.out, if_neg hd]; rfl
            have hC' := fun h => hd (hC.1 h)
            clear S hC hd
            go_wp2_with (first | (go_at_call 49; refine (hcall _ hB).mono ?_; rintro e W4 ⟨rfl, h4⟩; have kb4 := kb.ext h4; have cb4 := kb4.cell; have hl4 : BB < W4.heap.size := kb4.lt) | (go_at_call 86; refine (vCompare_any _ _ _ _ _).mono ?_; rintro e W5 ⟨rfl, h5⟩; have kb5 := (kb4.alloc _).ext h5))
            go_roundg (l.length - (k + 1))
            case measure => omega
            case rel => exact ⟨k + 1, by omega, by omega, by go_num, by rw [hn2'.out, E2.out]; exact kb5, ((hB.trans h4).alloc _).trans h5⟩
        · obtain rfl : k = l.length := by omega
          have hle := nst_le x l l.length (Nat.le_refl _)
          have hA : Hid (nst x l l.length = nearAt x l) := nst_all x l
          generalize nst x l l.length = st at *
          obtain ⟨i1, d1⟩ := st
          dsimp only at *
          have hwk : wrap64 (i1 : Int) = i1 := by unfold wrap64; omega
          have cb := kb.cell
          go_wp2
          go_ret2
          exact ⟨ret_two (by rw [E.out, vNear, ← hA.out]; exact hwk) (by rw [E.out]), hB⟩
    · have hq0 : (q != 0) = true := by simp; omega
      have E : Hid (R = (0, q)) := by rw [V.out, if_neg (by omega)]; rfl
      clear V D D0 hq
      go_enter Try.func41, Try.ntmps41
      go_wp2_with (first | (at_builtin; refine wpList_append_own _ rfl _ _ 22 rfl w.heap.size 46 i0 (.slice none 0 0) 1 24 Try.underlying22 hi hz0 hz1 hz2 rfl (by decide) _ 1 [.slice a2 x.length c2] rfl hown ⟨b, off, none⟩ l.length c vs rfl (by omega) hnews hone (by unfold maxLen; omega) (by omega) (by simp) ?_; intro v' w1 hown' hg1 _; have hE1 := ((Ext.refl w).alloc _).append hown (Nat.le_refl _) hg1; obtain ⟨gg, cap, rfl, _, _, _⟩ := own_form hown' (by omega)) | (go_at_call 48; refine (HS _ gg cap hE1 hown').mono ?_; rintro e W1 ⟨rfl, h1⟩))
      go_ret2
      exact ⟨ret_two (by rw [E.out]) (by rw [E.out]), hE1.trans h1⟩

end Go.Proofs.Ytiolpknfdabijaa
