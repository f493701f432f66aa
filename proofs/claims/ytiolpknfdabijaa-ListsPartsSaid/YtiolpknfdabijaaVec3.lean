/- The distance of two vectors: a range over a function. -/
import Derived.Test.YtiolpknfdabijaaProg
import Derived.Test.YtiolpknfdabijaaLib
import Derived.Test.YtiolpknfdabijaaPure
import Derived.Test.YtiolpknfdabijaaMask2
import Derived.Test.YtiolpknfdabijaaVec
import Derived.Test.YtiolpknfdabijaaVec2
import Derived.Test.YtiolpknfdabijaaIter
set_option linter.unusedVariables false
set_option maxRecDepth 4000
set_option linter.unusedSimpArgs false
namespace Go.Proofs.Ytiolpknfdabijaa
open Go.RowKit

attribute [local go_sem] Oper.semAt_some
/-- The pairs that 'both' hands over. -/
def pairs (xs ys : Vec) : List (Int × Int) := xs.zip ys
theorem pairs_snoc {xs ys : Vec} {k : Nat} (h : k < xs.length) (h2 : k < ys.length) : (pairs xs ys).take (k + 1) = (pairs xs ys).take k ++ [(xs[k], ys[k])] := by
  have hl : k < (pairs xs ys).length := by unfold pairs; rw [List.length_zip]; omega
  rw [take_snoc _ _ hl]
  simp [pairs]
set_option maxRecDepth 100000 in
set_option maxHeartbeats 2000000 in
theorem both1_in (n : Nat) (hn : 1 ≤ n) (l B1 B2 n₀ : Nat) (xs ys : Vec) (v u : Value) (hlen : xs.length = ys.length) (hxb : ∀ x ∈ xs, -2147483648 ≤ x ∧ x ≤ 2147483647) (hyb : ∀ x ∈ ys, -2147483648 ≤ x ∧ x ≤ 2147483647) (J Jx : List (Int × Int) → World → Prop) (W : World)
    (hY : ∀ pre x W1, J pre W1 → pre.length < (pairs xs ys).length → YieldAt Fence.wide (n - 1) Try.prog l #[.int .i64 x.1, .int .i64 x.2] W1 fun e W' =>
      (e = .returned (.bool true) ∧ J (pre ++ [x]) W' ∧ KpB n₀ [B2] W1 W') ∨ (e = .returned (.bool false) ∧ Jx (pre ++ [x]) W'))
    (hn₀ : ∃ w0 : World, w0.heap.size = n₀ ∧ Ext w0 W ∧ kI32.Sl w0 v xs ∧ kI32.Sl w0 u ys) (hb1 : Blk W B1 #[v] 46) (hb2 : Blk W B2 #[u] 46) (h0 : J [] W) :
    CallsIn Fence.wide n Try.prog 107 #[.func (.yield l) #[] #[], .pointer (some ⟨B1, 0, none⟩), .pointer (some ⟨B2, 0, none⟩)] W fun e W' => (∃ v, e = .returned v) ∧
      ((∃ zs, zs = pairs xs ys ∧ J zs W') ∨ (∃ pre, pre <+: pairs xs ys ∧ Jx pre W')) := by
  obtain ⟨w0, rfl, hE, hv, hu⟩ := hn₀
  obtain ⟨a, c, rfl, hc, hl, hr⟩ := hv.form
  obtain ⟨a2, c2, rfl, hc2, hl2, hr2⟩ := hu.form
  have hbb1 := hb1.cell
  clear hv hu
  have hlen' : Hid _ := hlen
  clear hlen
  refine callsIn_of_wp Try.func107 rfl trivial ?_ rfl
  simp only [Try.ntmps107, List.size_toArray, List.length_cons, List.length_nil, Nat.reduceAdd, Nat.reduceSub, Array.replicate_succ, Array.replicate_zero, List.push_toArray, List.append_toArray, List.nil_append, List.cons_append]
  gi_wp2
  clear hbb1
  gi_loopw [8] (fun i wr => ∃ k : Nat, k ≤ xs.length ∧ i = .int .i64 k ∧ J ((pairs xs ys).take k) wr ∧ Ext w0 wr ∧ Blk wr B2 #[.slice a2 ys.length c2] 46)
    (fun i _ => xs.length - (intOf i).toNat)
  case atStart => exact ⟨0, Nat.zero_le _, rfl, h0, hE, hb2⟩
  case round =>
    clear hb1 hb2
    obtain ⟨k, hk, rfl, hJ, hB, hb2⟩ := hrel
    by_cases hlt : k < xs.length
    · have hlt2 : k < ys.length := by have := hlen'.out; omega
      obtain ⟨b, off, cs, ha, rfl, hcell⟩ := (hr.ext hB).at_ hlt
      obtain ⟨b2, off2, cs2, ha2, rfl, hcell2⟩ := (hr2.ext hB).at_ hlt2
      have hx := run_at (P := Try.prog) 46 21 1 Try.underlying46 Try.sizeOf21 (c := c) ha hlt
      have hy := run_at (P := Try.prog) 46 21 1 Try.underlying46 Try.sizeOf21 (c := c2) ha2 hlt2
      have x0 : wr.cell? ⟨b, off + k * 1, none⟩ = _ := hcell 0 _ rfl
      have y0 : wr.cell? ⟨b2, off2 + k * 1, none⟩ = _ := hcell2 0 _ rfl
      rw [Nat.mul_one] at hx hy x0 y0
      have hbb2 := hb2.cell
      obtain ⟨p0, p1⟩ := hxb _ (List.getElem_mem hlt)
      obtain ⟨q0, q1⟩ := hyb _ (List.getElem_mem hlt2)
      have S : Hid _ := pairs_snoc hlt hlt2
      have hR0 := hY _ (xs[k], ys[k]) wr hJ (by rw [List.length_take]; unfold pairs; rw [List.length_zip]; have := hlen'.out; omega)
      have PF : Hid ((pairs xs ys).take (k + 1) <+: pairs xs ys) := List.take_prefix _ _
      clear hcell hcell2 ha ha2
      dsimp only at hR0
      generalize xs[k] = p at *
      generalize ys[k] = q at *
      obtain ⟨fn, tmps, assign, body, hy', hR⟩ := hR0
      clear hxb hyb hY
      gi_wp2
      refine hR.mono ?_
      rintro e W3 (⟨rfl, hJ3, hk3⟩ | ⟨rfl, hJx3⟩)
      · gi_wp2
        go_roundw
        case rel => exact ⟨k + 1, by omega, by go_num, by rw [S.out]; exact hJ3, hk3.ext hB, hk3.blk hb2 (by simp)⟩
        case measure => simp [intOf]; omega
      · gi_wp2
        refine bodyPost_ret (results_none rfl _ _ _) rfl ?_
        exact ⟨⟨_, rfl⟩, .inr ⟨_, PF.out, by rw [S.out]; exact hJx3⟩⟩
    · obtain rfl : k = xs.length := by omega
      have S : Hid ((pairs xs ys).take xs.length = pairs xs ys) := List.take_of_length_le (by unfold pairs; rw [List.length_zip]; have := hlen'.out; omega)
      gi_wp2
      go_end0
      exact ⟨⟨_, rfl⟩, .inl ⟨_, rfl, by rw [← S.out]; exact hJ⟩⟩

theorem both_any (a a2 : Option Addr) (n n2 c c2 : Nat) (w : World) : Calls Try.prog 92 #[.slice a n c, .slice a2 n2 c2] w fun e w' => e = .returned (.func (.func 107) #[] #[.pointer (some ⟨w.heap.size, 0, none⟩), .pointer (some ⟨w.heap.size + 1, 0, none⟩)]) ∧ (w.alloc (.cells #[.slice a n c] 46)).alloc (.cells #[.slice a2 n2 c2] 46) = w' := by
  go_enter Try.func92, Try.ntmps92
  go_wp2
  go_ret
  exact ⟨rfl, rfl⟩
def dstep (n : Int) (p : Int × Int) : Int :=
  let d := if wrap64 (p.1 - p.2) < wrap64 (p.2 - p.1) then wrap64 (p.2 - p.1) else wrap64 (p.1 - p.2)
  IntKind.u64.wrap (n + IntKind.u64.wrap (IntKind.u64.wrap d * IntKind.u64.wrap d))
theorem dstep_lt {n x y : Int} (h : wrap64 (x - y) < wrap64 (y - x)) : dstep n (x, y) = IntKind.u64.wrap (n + IntKind.u64.wrap (IntKind.u64.wrap (wrap64 (y - x)) * IntKind.u64.wrap (wrap64 (y - x)))) := by unfold dstep; simp only; rw [if_pos h]
theorem dstep_ge {n x y : Int} (h : wrap64 (y - x) ≤ wrap64 (x - y)) : dstep n (x, y) = IntKind.u64.wrap (n + IntKind.u64.wrap (IntKind.u64.wrap (wrap64 (x - y)) * IntKind.u64.wrap (wrap64 (x - y)))) := by unfold dstep; simp only; rw [if_neg (by omega)]
theorem sq_le {d : Int} (h0 : 0 ≤ d) (h1 : d ≤ 2147483646) : 0 ≤ d * d ∧ d * d ≤ 4611686009837453316 :=
  ⟨Int.mul_nonneg h0 h0, by have := Int.mul_le_mul h1 h1 h0 (by omega : (0 : Int) ≤ 2147483646); omega⟩
theorem dstep_eq (n x y : Int) (h0 : 0 ≤ n) (h1 : n ≤ 13835058029512359948) (hx0 : -1073741823 ≤ x) (hx1 : x ≤ 1073741823) (hy0 : -1073741823 ≤ y) (hy1 : y ≤ 1073741823) : dstep n (x, y) = n + (x - y) * (x - y) ∧ 0 ≤ (x - y) * (x - y) ∧ (x - y) * (x - y) ≤ 4611686009837453316 := by
  have e1 : wrap64 (x - y) = x - y := by unfold wrap64; omega
  have e2 : wrap64 (y - x) = y - x := by unfold wrap64; omega
  by_cases h : x - y < y - x
  · have hd := sq_le (d := y - x) (by omega) (by omega)
    have hs : (x - y) * (x - y) = (y - x) * (y - x) := by rw [← Int.neg_mul_neg]; congr 1 <;> omega
    rw [dstep_lt (by rw [e1, e2]; exact h), e2, IntKind.wrap_u64, IntKind.wrap_u64, IntKind.wrap_u64, hs]
    have e3 : (y - x) % 18446744073709551616 = y - x := by omega
    rw [e3]
    generalize (y - x) * (y - x) = q at *
    exact ⟨by omega, hd⟩
  · have hd := sq_le (d := x - y) (by omega) (by omega)
    rw [dstep_ge (by rw [e1, e2]; omega), e1, IntKind.wrap_u64, IntKind.wrap_u64, IntKind.wrap_u64]
    have e3 : (x - y) % 18446744073709551616 = x - y := by omega
    rw [e3]
    generalize (x - y) * (x - y) = q at *
    exact ⟨by omega, hd⟩
theorem foldl_dstep : ∀ (l : List (Int × Int)) (n : Int), (∀ p ∈ l, (-1073741823 ≤ p.1 ∧ p.1 ≤ 1073741823) ∧ (-1073741823 ≤ p.2 ∧ p.2 ≤ 1073741823)) → 0 ≤ n → n + l.length * 4611686009837453316 ≤ 18446744039349813264 →
    l.foldl dstep n = l.foldl (fun n p => n + (p.1 - p.2) * (p.1 - p.2)) n
  | [], _, _, _, _ => rfl
  | p :: l, n, hp, h0, h1 => by
    simp only [List.length_cons] at h1
    obtain ⟨⟨a, b⟩, c, d⟩ := hp p (by simp)
    obtain ⟨e, q0, q1⟩ := dstep_eq n p.1 p.2 h0 (by omega) a b c d
    simp only [List.foldl_cons]
    rw [show dstep n p = n + (p.1 - p.2) * (p.1 - p.2) from e]
    exact foldl_dstep l _ (fun q hq => hp q (by simp [hq])) (by omega) (by omega)
def distW (l : List (Int × Int)) : Int := l.foldl dstep 0
theorem distW_snoc (l : List (Int × Int)) (p : Int × Int) : distW (l ++ [p]) = dstep (distW l) p := by simp [distW]
set_option maxRecDepth 100000 in
set_option maxHeartbeats 2000000 in
theorem dist_raw (xs ys : Vec) (v u : Value) (w : World) (hlen : xs.length = ys.length) (hxb : ∀ x ∈ xs, -2147483648 ≤ x ∧ x ≤ 2147483647) (hyb : ∀ x ∈ ys, -2147483648 ≤ x ∧ x ≤ 2147483647) (hv : kI32.Sl w v xs) (hu : kI32.Sl w u ys) :
    Calls Try.prog 49 #[v, u] w fun e w' => e = .returned (.int .u64 (distW (pairs xs ys))) ∧ Ext w w' := by
  have hv0 := hv
  have hu0 := hu
  obtain ⟨a, c, rfl, hc, hl, hr⟩ := hv.form
  obtain ⟨a2, c2, rfl, hc2, hl2, hr2⟩ := hu.form
  have hlen' : Hid _ := hlen
  clear hr hr2 hv hu hlen
  have fb : Fence.wide.fn 92 := trivial
  refine (callsIn_wide (n := 10)).1 ?_
  refine callsIn_of_wp_marks Try.func49 rfl trivial ?_ rfl
  simp only [Try.ntmps49, List.size_toArray, List.length_cons, List.length_nil, Nat.reduceAdd, Nat.reduceSub, Array.replicate_succ, Array.replicate_zero, List.push_toArray, List.append_toArray, List.nil_append, List.cons_append]
  gi_wp2_with (gi_at_call 92; refine ((callsIn_wide (n := 9)).2 (both_any _ _ _ _ _ _ _)).mono ?_; rintro e w' ⟨rfl, rfl⟩)
  refine namedIn fun W0 hW0 => ?_
  have kn : Blk W0 w.heap.size #[.int .u64 (distW [])] 29 := Blk.of_eq hW0 (((Blk.new' (by simp)).alloc _).alloc _)
  have k1 : Blk W0 (w.heap.size + 1) #[.slice a xs.length c] 46 := Blk.of_eq hW0 ((Blk.new' (by simp)).alloc _)
  have k2 : Blk W0 (w.heap.size + 1 + 1) #[.slice a2 ys.length c2] 46 := Blk.of_eq hW0 (Blk.new' (by simp))
  have hB : Ext w W0 := Ext.of_eq hW0 ((((Ext.refl _).alloc _).alloc _).alloc _)
  clear hW0
  refine wpIn_rangeFunc_ownG rfl (by omega) (gf := 107) (lb := #[.pointer (some ⟨w.heap.size + 1, 0, none⟩), .pointer (some ⟨w.heap.size + 1 + 1, 0, none⟩)]) rfl trivial (enters_of Try.func107 (by kernel_rfl) rfl)
    (α := Int × Int) (encs := fun x => #[.int .i64 x.1, .int .i64 x.2]) (Kp := KpB w.heap.size [w.heap.size + 1 + 1]) (S := fun zs => zs = pairs xs ys) (Sp := fun pre => pre <+: pairs xs ys) (N := (pairs xs ys).length) (w0 := W0)
    (fun l J Jx W hW _ _ hY h0 => both1_in 9 (by omega) l (w.heap.size + 1) (w.heap.size + 1 + 1) w.heap.size xs ys _ _ hlen'.out hxb hyb J Jx W hY ⟨w, rfl, hB.trans hW, hv0, hu0⟩ (k1.ext hW) (k2.ext hW) h0) KpB.t (KpB.b hB.le (by have := k2.lt; simp; omega)) (Below.refl _ _) (fun _ => rfl)
    (fun pre W => Blk W w.heap.size #[.int .u64 (distW pre)] 29 ∧ Ext w W) (fun _ _ _ => False)
    (fun s A B row hs hg hr => ⟨hs.1.grown hg hr (by have := kn.lt; omega), hs.2.grown hg hr hB.le⟩) (fun _ _ _ _ _ hs _ _ => hs) ⟨kn, hB⟩
    (fun x => { tmps := #[.slice a xs.length c, .slice a2 ys.length c2, undef, undef, .int .u64 0, .pointer (some ⟨w.heap.size, 0, none⟩), .int .i64 x.1, .int .i64 x.2, undef, .slice a xs.length c, .slice a2 ys.length c2, .func (.func 107) #[] #[.pointer (some ⟨w.heap.size + 1, 0, none⟩), .pointer (some ⟨w.heap.size + 1 + 1, 0, none⟩)], .int .i64 x.1, .int .i64 x.2, undef, undef, undef, undef, undef, undef, undef, undef, undef, undef, undef, undef, undef, undef], defers := [] }) ?assign ?body ?done ?stop
  case assign =>
    intro l x W K hK
    gi_wp2
    exact hK
  case body =>
    rintro l pre ⟨x, y⟩ W ⟨kb, hE⟩ _
    have cb := kb.cell; have fb := kb.frozen
    dsimp only
    gi_wp2
    · have h : wrap64 (x - y) < wrap64 (y - x) := by assumption
      exact ⟨keepsFrom_set kn.lt, KpB.set_ (Nat.le_refl _) (by simp; omega), by rw [distW_snoc, dstep_lt h]; exact kb.set_ 0 _, hE.set (Nat.le_refl _) _⟩
    · have h : wrap64 (y - x) ≤ wrap64 (x - y) := by assumption
      exact ⟨keepsFrom_set kn.lt, KpB.set_ (Nat.le_refl _) (by simp; omega), by rw [distW_snoc, dstep_ge h]; exact kb.set_ 0 _, hE.set (Nat.le_refl _) _⟩
  case done =>
    rintro D zs W hD rfl ⟨kb, hE⟩ hK
    have cb := kb.cell
    gi_wp2
    refine ⟨by simp, .inl ⟨_, _, rfl, run_takeDeferred hK, ?_⟩⟩
    exact ⟨_, results_tmp rfl _ _ _, rfl, Below.trans hE (belowK_b (w := w) (Nat.le_refl _) W D _ _ (Nat.le_trans hB.le hD) hK rfl rfl)⟩
  case stop =>
    rintro D c' pre W _ _ h _
    exact h.elim
theorem vOk_spec {v : Vec} (h : vOk v = true) : 1 ≤ v.length ∧ v.length ≤ 4 ∧ ∀ x ∈ v, -1073741823 ≤ x ∧ x ≤ 1073741823 := by
  simpa [vOk, and_assoc] using h
theorem distW_eq (xs ys : Vec) (hx : vOk xs = true) (hy : vOk ys = true) : distW (pairs xs ys) = vDist xs ys := by
  obtain ⟨_, h4, hx⟩ := vOk_spec hx
  obtain ⟨_, _, hy⟩ := vOk_spec hy
  unfold distW vDist pairs
  refine foldl_dstep _ _ (fun p hp => ?_) (by omega) ?_
  · have h1 := List.of_mem_zip (a := p.1) (b := p.2) hp
    exact ⟨hx _ h1.1, hy _ h1.2⟩
  · rw [List.length_zip]
    have : min xs.length ys.length ≤ 4 := by omega
    omega
theorem dist_any (xs ys : Vec) (v u : Value) (w : World) (hlen : xs.length = ys.length) (hx : vOk xs = true) (hy : vOk ys = true) (hv : kI32.Sl w v xs) (hu : kI32.Sl w u ys) :
    Calls Try.prog 49 #[v, u] w fun e w' => e = .returned (.int .u64 (vDist xs ys)) ∧ Ext w w' := by
  rw [← distW_eq xs ys hx hy]
  exact dist_raw xs ys v u w hlen (fun x h => by have := (vOk_spec hx).2.2 x h; omega) (fun x h => by have := (vOk_spec hy).2.2 x h; omega) hv hu

end Go.Proofs.Ytiolpknfdabijaa
