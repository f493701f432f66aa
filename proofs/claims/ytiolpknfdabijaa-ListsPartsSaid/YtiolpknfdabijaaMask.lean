/- The functions of layer 10 on masks: each computes what the plain text says. -/
import Derived.Test.YtiolpknfdabijaaProg
import Derived.Test.YtiolpknfdabijaaLib
import Derived.Test.YtiolpknfdabijaaPure
set_option linter.unusedVariables false
set_option maxRecDepth 4000
set_option linter.unusedSimpArgs false
namespace Go.Proofs.Ytiolpknfdabijaa
open Go.RowKit


/-- The words of a mask. -/
def lo (m : Mask) : Int := ((m.extractLsb' 0 64).toNat : Int)
def hi (m : Mask) : Int := ((m.extractLsb' 64 64).toNat : Int)
theorem u64_wrap (x : BitVec 64) : IntKind.u64.wrap (x.toNat : Int) = x.toNat := by
  have := x.isLt
  rw [IntKind.wrap_u64]; omega
theorem u64_of (x : BitVec 64) : BitVec.ofInt 64 (x.toNat : Int) = x := by rw [BitVec.ofInt_natCast, BitVec.ofNat_toNat, BitVec.setWidth_eq]
theorem bits_and (x y : BitVec 64) : bits .and .u64 (x.toNat : Int) (y.toNat : Int) = ((x &&& y).toNat : Int) := by
  show IntKind.u64.wrap ((BitVec.ofInt 64 _ &&& BitVec.ofInt 64 _).toNat : Int) = _
  rw [u64_of, u64_of, u64_wrap]
theorem bits_or (x y : BitVec 64) : bits .or .u64 (x.toNat : Int) (y.toNat : Int) = ((x ||| y).toNat : Int) := by
  show IntKind.u64.wrap ((BitVec.ofInt 64 _ ||| BitVec.ofInt 64 _).toNat : Int) = _
  rw [u64_of, u64_of, u64_wrap]
theorem bits_andNot (x y : BitVec 64) : bits .andNot .u64 (x.toNat : Int) (y.toNat : Int) = ((x &&& ~~~y).toNat : Int) := by
  show IntKind.u64.wrap ((BitVec.ofInt 64 _ &&& ~~~BitVec.ofInt 64 _).toNat : Int) = _
  rw [u64_of, u64_of, u64_wrap]
theorem lo_and (a b : Mask) : bits .and .u64 (lo a) (lo b) = lo (a &&& b) := by unfold lo; rw [bits_and, BitVec.extractLsb'_and]
theorem hi_and (a b : Mask) : bits .and .u64 (hi a) (hi b) = hi (a &&& b) := by unfold hi; rw [bits_and, BitVec.extractLsb'_and]
theorem lo_or (a b : Mask) : bits .or .u64 (lo a) (lo b) = lo (a ||| b) := by unfold lo; rw [bits_or, BitVec.extractLsb'_or]
theorem hi_or (a b : Mask) : bits .or .u64 (hi a) (hi b) = hi (a ||| b) := by unfold hi; rw [bits_or, BitVec.extractLsb'_or]
theorem ext_not (a : Mask) (k : Nat) (hk : k + 64 ≤ 128) : (~~~a).extractLsb' k 64 = ~~~(a.extractLsb' k 64) := by
  ext i hi
  simp only [BitVec.getElem_extractLsb', BitVec.getElem_not, BitVec.getLsbD_not]
  simp; omega
theorem lo_andNot (a b : Mask) : bits .andNot .u64 (lo a) (lo b) = lo (a &&& ~~~b) := by unfold lo; rw [bits_andNot, BitVec.extractLsb'_and, ext_not _ _ (by omega)]
theorem hi_andNot (a b : Mask) : bits .andNot .u64 (hi a) (hi b) = hi (a &&& ~~~b) := by unfold hi; rw [bits_andNot, BitVec.extractLsb'_and, ext_not _ _ (by omega)]
theorem lo_bd (a : Mask) : 0 ≤ lo a ∧ lo a ≤ 18446744073709551615 := by unfold lo; have := (a.extractLsb' 0 64).isLt; omega
theorem hi_bd (a : Mask) : 0 ≤ hi a ∧ hi a ≤ 18446744073709551615 := by unfold hi; have := (a.extractLsb' 64 64).isLt; omega
/-- Two words are a mask. -/
theorem words_mask (x y : Int) (hx : 0 ≤ x ∧ x ≤ 18446744073709551615) (hy : 0 ≤ y ∧ y ≤ 18446744073709551615) : ∃ m : Mask, lo m = x ∧ hi m = y := by
  refine ⟨BitVec.ofNat 64 y.toNat ++ BitVec.ofNat 64 x.toNat, ?_, ?_⟩
  · unfold lo
    rw [show (BitVec.ofNat 64 y.toNat ++ BitVec.ofNat 64 x.toNat).extractLsb' 0 64 = BitVec.ofNat 64 x.toNat from by
      ext i hi
      rw [BitVec.getElem_extractLsb', BitVec.getLsbD_append, if_pos (by omega), Nat.zero_add, BitVec.getLsbD_eq_getElem]]
    rw [BitVec.toNat_ofNat]; omega
  · unfold hi
    rw [show (BitVec.ofNat 64 y.toNat ++ BitVec.ofNat 64 x.toNat).extractLsb' 64 64 = BitVec.ofNat 64 y.toNat from by
      ext i hi
      rw [BitVec.getElem_extractLsb', BitVec.getLsbD_append, if_neg (by omega), show 64 + i - 64 = i by omega, BitVec.getLsbD_eq_getElem]]
    rw [BitVec.toNat_ofNat]; omega
theorem mask_eq (a b : Mask) : a = b ↔ lo a = lo b ∧ hi a = hi b := by
  constructor
  · rintro rfl; exact ⟨rfl, rfl⟩
  · rintro ⟨h1, h2⟩
    have h1 : a.extractLsb' 0 64 = b.extractLsb' 0 64 := BitVec.eq_of_toNat_eq (by unfold lo at h1; omega)
    have h2 : a.extractLsb' 64 64 = b.extractLsb' 64 64 := BitVec.eq_of_toNat_eq (by unfold hi at h2; omega)
    apply BitVec.eq_of_getLsbD_eq
    intro i hi
    by_cases h : i < 64
    · have := congrArg (fun v => v.getLsbD i) h1
      simpa [h] using this
    · have := congrArg (fun v => v.getLsbD (i - 64)) h2
      simp only [BitVec.getLsbD_extractLsb'] at this
      rw [show 64 + (i - 64) = i by omega] at this
      simpa [show i - 64 < 64 by omega] using this

theorem and1_any (x y : Int) (w : World) : Calls Try.prog 78 #[.int .u64 x, .int .u64 y] w fun e w' => e = .returned (.int .u64 (bits .and .u64 x y)) ∧ w = w' := by
  go_enter Try.func78, Try.ntmps78
  go_wp2
  go_ret
  exact ⟨rfl, rfl⟩
theorem or1_any (x y : Int) (w : World) : Calls Try.prog 77 #[.int .u64 x, .int .u64 y] w fun e w' => e = .returned (.int .u64 (bits .or .u64 x y)) ∧ w = w' := by
  go_enter Try.func77, Try.ntmps77
  go_wp2
  go_ret
  exact ⟨rfl, rfl⟩
theorem minus1_any (x y : Int) (w : World) : Calls Try.prog 109 #[.int .u64 x, .int .u64 y] w fun e w' => e = .returned (.int .u64 (bits .andNot .u64 x y)) ∧ w = w' := by
  go_enter Try.func109, Try.ntmps109
  go_wp2
  go_ret
  exact ⟨rfl, rfl⟩

set_option maxHeartbeats 1000000 in
theorem each_any (k : Nat) (ek : ∀ args w, (callFunc k args).run Try.prog w = .ok (.enter k args) w) (f : Int → Int → Int) (hcall : ∀ x y w, Calls Try.prog k #[.int .u64 x, .int .u64 y] w fun e w' => e = .returned (.int .u64 (f x y)) ∧ w = w') (a0 a1 b0 b1 : Int) (w : World) :
    Calls Try.prog 76 #[.agg #[.int .u64 a0, .int .u64 a1], .agg #[.int .u64 b0, .int .u64 b1], .func (.func k) #[] #[]] w fun e w' => e = .returned (.agg #[.int .u64 (f a0 b0), .int .u64 (f a1 b1)]) ∧ Ext w w' := by
  go_enter Try.func76, Try.ntmps76
  go_wp2
  refine named fun W0 hW0 => ?_
  have ka : Blk W0 w.heap.size _ _ := Blk.of_eq hW0 (((Blk.new' (by simp)).alloc _).alloc _)
  have kb : Blk W0 (w.heap.size + 1) _ _ := Blk.of_eq hW0 ((Blk.new' (by simp)).alloc _)
  have kr : Blk W0 (w.heap.size + 1 + 1) _ _ := Blk.of_eq hW0 (Blk.new' (by simp))
  have hB : Ext w W0 := Ext.of_eq hW0 ((((Ext.refl _).alloc _).alloc _).alloc _)
  have ca := ka.cell; have cb := kb.cell
  clear hW0
  refine wp_loop_rounds 3 ?_
  rw [rounds_succ]
  go_wp2
  refine region_tail (Ext _) 9 (by kernel_rfl) (by kernel_rfl) (Ext.drew' (Below.refl _ _)) ?_
  simp only [List.take_succ_cons, List.take_zero, List.drop_succ_cons, List.drop_zero]
  repeat (first | (refine quiet_op ?_ ?_; (focus (go_simp; done)); apply Exists.intro; refine ⟨fun W hW => ?_, ?_⟩; (focus (have hc := hW.cellR; go_simp; first | exact rfl | (refine (hcall _ _ _).mono ?_; rintro e w' ⟨rfl, rfl⟩; exact ⟨rfl, hW⟩))); simp only [Act.put, List.setIfInBounds_toArray, List.set_cons_succ, List.set_cons_zero]) | (refine quiet_skip ?_ ?_; (focus (go_simp; done)); simp only [Act.put, List.setIfInBounds_toArray, List.set_cons_succ, List.set_cons_zero]))
  refine wpQuiet_nil ?_
  intro W1 hW1
  replace ka := ka.ext hW1
  replace kb := kb.ext hW1
  replace kr := kr.ext hW1
  replace hB := hB.trans hW1
  clear ca cb hW1
  have ca := ka.cell; have fa := ka.frozen
  go_wp2
  refine named fun W0 hW0 => ?_
  replace ka := Blk.of_eq hW0 (ka.set_ 0 _)
  replace kb := Blk.of_eq hW0 (kb.far (by simp) _)
  replace kr := Blk.of_eq hW0 (kr.far (by simp; omega) _)
  replace hB := Ext.of_eq hW0 (hB.set (Nat.le_refl _) _)
  clear hW0 ca fa
  have ca := ka.cell; have cb := kb.cell
  go_wp2
  refine region_tail (Ext _) 9 (by kernel_rfl) (by kernel_rfl) (Ext.drew' (Below.refl _ _)) ?_
  simp only [List.take_succ_cons, List.take_zero, List.drop_succ_cons, List.drop_zero]
  repeat (first | (refine quiet_op ?_ ?_; (focus (go_simp; done)); apply Exists.intro; refine ⟨fun W hW => ?_, ?_⟩; (focus (have hc := hW.cellR; go_simp; first | exact rfl | (refine (hcall _ _ _).mono ?_; rintro e w' ⟨rfl, rfl⟩; exact ⟨rfl, hW⟩))); simp only [Act.put, List.setIfInBounds_toArray, List.set_cons_succ, List.set_cons_zero]) | (refine quiet_skip ?_ ?_; (focus (go_simp; done)); simp only [Act.put, List.setIfInBounds_toArray, List.set_cons_succ, List.set_cons_zero]))
  refine wpQuiet_nil ?_
  intro W2 hW1
  replace ka := ka.ext hW1
  replace kr := kr.ext hW1
  replace hB := hB.trans hW1
  clear ca cb hW1
  have ca := ka.cell; have fa := ka.frozen
  go_wp2
  refine named fun W0 hW0 => ?_
  replace ka := Blk.of_eq hW0 (ka.set_ 1 _)
  replace kr := Blk.of_eq hW0 (kr.far (by simp; omega) _)
  replace hB := Ext.of_eq hW0 (hB.set (Nat.le_refl _) _)
  clear hW0 ca fa
  have ca := ka.cell; have cr := kr.cell; have fr := kr.frozen
  go_wp2
  have c2 := ((kr.set_ 0 (.int .u64 (f a0 b0))).set_ 1 (.int .u64 (f a1 b1))).cell
  exact bodyPost_ret (v := .agg #[.int .u64 (f a0 b0), .int .u64 (f a1 b1)]) (by simp [results, Try.results76, go_sem, c2]) rfl ⟨rfl, (hB.set (by simp; omega) _).set (by simp; omega) _⟩

theorem and_any (a b : Mask) (w : World) : Calls Try.prog 36 #[.agg #[.int .u64 (lo a), .int .u64 (hi a)], .agg #[.int .u64 (lo b), .int .u64 (hi b)]] w fun e w' => e = .returned (.agg #[.int .u64 (lo (a &&&b)), .int .u64 (hi (a &&&b))]) ∧ Ext w w' := by
  have H := each_any 78 (enters_of Try.func78 (by kernel_rfl) rfl) _ and1_any (lo a) (hi a) (lo b) (hi b)
  rw [lo_and, hi_and] at H
  go_enter Try.func36, Try.ntmps36
  go_wp2_with (go_at_call 76; refine (H _).mono ?_; rintro e W1 ⟨rfl, h1⟩; have kr := (Blk.new' (b := w.heap.size + 1 + 1) (by simp)).ext h1; have cr := kr.cell; have fr := kr.frozen)
  have c2 := ((kr.set_ 0 (.int .u64 (lo (a &&&b)))).set_ 1 (.int .u64 (hi (a &&&b)))).cell
  exact bodyPost_ret (v := .agg #[.int .u64 (lo (a &&&b)), .int .u64 (hi (a &&&b))]) (by simp [results, Try.results36, go_sem, c2]) rfl ⟨rfl, ((Ext.trans ((((Ext.refl _).alloc _).alloc _).alloc _) h1).set (by simp; omega) _).set (by simp; omega) _⟩

theorem or_any (a b : Mask) (w : World) : Calls Try.prog 35 #[.agg #[.int .u64 (lo a), .int .u64 (hi a)], .agg #[.int .u64 (lo b), .int .u64 (hi b)]] w fun e w' => e = .returned (.agg #[.int .u64 (lo (a |||b)), .int .u64 (hi (a |||b))]) ∧ Ext w w' := by
  have H := each_any 77 (enters_of Try.func77 (by kernel_rfl) rfl) _ or1_any (lo a) (hi a) (lo b) (hi b)
  rw [lo_or, hi_or] at H
  go_enter Try.func35, Try.ntmps35
  go_wp2_with (go_at_call 76; refine (H _).mono ?_; rintro e W1 ⟨rfl, h1⟩; have kr := (Blk.new' (b := w.heap.size + 1 + 1) (by simp)).ext h1; have cr := kr.cell; have fr := kr.frozen)
  have c2 := ((kr.set_ 0 (.int .u64 (lo (a |||b)))).set_ 1 (.int .u64 (hi (a |||b)))).cell
  exact bodyPost_ret (v := .agg #[.int .u64 (lo (a |||b)), .int .u64 (hi (a |||b))]) (by simp [results, Try.results35, go_sem, c2]) rfl ⟨rfl, ((Ext.trans ((((Ext.refl _).alloc _).alloc _).alloc _) h1).set (by simp; omega) _).set (by simp; omega) _⟩

theorem minus_any (a b : Mask) (w : World) : Calls Try.prog 95 #[.agg #[.int .u64 (lo a), .int .u64 (hi a)], .agg #[.int .u64 (lo b), .int .u64 (hi b)]] w fun e w' => e = .returned (.agg #[.int .u64 (lo (a &&& ~~~b)), .int .u64 (hi (a &&& ~~~b))]) ∧ Ext w w' := by
  have H := each_any 109 (enters_of Try.func109 (by kernel_rfl) rfl) _ minus1_any (lo a) (hi a) (lo b) (hi b)
  rw [lo_andNot, hi_andNot] at H
  go_enter Try.func95, Try.ntmps95
  go_wp2_with (go_at_call 76; refine (H _).mono ?_; rintro e W1 ⟨rfl, h1⟩; have kr := (Blk.new' (b := w.heap.size + 1 + 1) (by simp)).ext h1; have cr := kr.cell; have fr := kr.frozen)
  have c2 := ((kr.set_ 0 (.int .u64 (lo (a &&& ~~~b)))).set_ 1 (.int .u64 (hi (a &&& ~~~b)))).cell
  exact bodyPost_ret (v := .agg #[.int .u64 (lo (a &&& ~~~b)), .int .u64 (hi (a &&& ~~~b))]) (by simp [results, Try.results95, go_sem, c2]) rfl ⟨rfl, ((Ext.trans ((((Ext.refl _).alloc _).alloc _).alloc _) h1).set (by simp; omega) _).set (by simp; omega) _⟩

theorem lo_all : lo mAll = 18446744073709551615 := by decide
theorem hi_all : hi mAll = 4294967295 := by decide
theorem slot_any (n : Int) (w : World) : Calls Try.prog 46 #[.int .i64 n] w fun e w' => e = .returned (.bool (mSlot n)) ∧ w = w' := by
  by_cases h : 0 ≤ n
  · have hd : decide (0 ≤ n) = true := by simpa using h
    go_enter Try.func46, Try.ntmps46
    go_wp2
    go_ret
    exact ⟨by simp [mSlot, h], rfl⟩
  · have hd : decide (0 ≤ n) = false := by simpa using h
    go_enter Try.func46, Try.ntmps46
    go_wp2
    go_ret
    exact ⟨by simp [mSlot]; omega, rfl⟩
theorem below96 (w : World) : Calls Try.prog 79 #[.int .i64 96] w fun e w' => e = .returned (.agg #[.int .u64 (lo (mAll)), .int .u64 (hi (mAll))]) ∧ Ext w w' := by
  rw [lo_all, hi_all]
  go_enter Try.func79, Try.ntmps79
  go_wp2
  refine wp_loop_rounds 3 ?_
  rw [rounds_succ]
  go_wp2
  rw [rounds_succ]
  go_wp2
  rw [rounds_succ]
  go_wp2
  exact bodyPost_ret (v := .agg #[.int .u64 18446744073709551615, .int .u64 4294967295]) (by simp [results, Try.results79, go_sem]) rfl ⟨rfl, ((Ext.refl _).alloc _).alloc _⟩

theorem all_any (w : World) : Calls Try.prog 37 #[] w fun e w' => e = .returned (.agg #[.int .u64 (lo (mAll)), .int .u64 (hi (mAll))]) ∧ Ext w w' := by
  go_enter Try.func37, Try.ntmps37
  go_wp2_with (go_at_call 79; refine (below96 _).mono ?_; rintro e W1 ⟨rfl, h1⟩; have kr := (Blk.new' (b := w.heap.size) (by simp)).ext h1; have cr := kr.cell; have fr := kr.frozen)
  have c2 := ((kr.set_ 0 (.int .u64 (lo mAll))).set_ 1 (.int .u64 (hi mAll))).cell
  exact bodyPost_ret (v := .agg #[.int .u64 (lo (mAll)), .int .u64 (hi (mAll))]) (by simp [results, Try.results37, go_sem, c2]) rfl ⟨rfl, ((((Ext.refl _).alloc _).trans h1).set (by simp) _).set (by simp) _⟩

theorem lo_bit (k : Nat) (h : k < 64) : lo (mBit k) = IntKind.u64.wrap (2 ^ k) ∧ hi (mBit k) = 0 := by
  have hk : (2 : Nat) ^ k < 2 ^ 64 := Nat.pow_lt_pow_right (by omega) h
  have e : (BitVec.twoPow 128 k).toNat = 2 ^ k := by rw [BitVec.toNat_twoPow]; exact Nat.mod_eq_of_lt (by omega)
  unfold lo hi mBit
  rw [BitVec.extractLsb'_toNat, BitVec.extractLsb'_toNat, e, IntKind.wrap_u64]
  constructor
  · rw [Nat.shiftRight_zero, Nat.mod_eq_of_lt hk]
    have : ((2 ^ k : Nat) : Int) = 2 ^ k := by simp
    omega
  · rw [Nat.shiftRight_eq_div_pow, Nat.div_eq_of_lt hk]; rfl
theorem hi_bit (k : Nat) (h0 : 64 ≤ k) (h : k < 96) : hi (mBit k) = IntKind.u64.wrap (2 ^ (k - 64)) ∧ lo (mBit k) = 0 := by
  have hk : (2 : Nat) ^ (k - 64) < 2 ^ 64 := Nat.pow_lt_pow_right (by omega) (by omega)
  have hk2 : (2 : Nat) ^ k < 2 ^ 128 := Nat.pow_lt_pow_right (by omega) (by omega)
  have e : (BitVec.twoPow 128 k).toNat = 2 ^ (k - 64) * 2 ^ 64 := by rw [BitVec.toNat_twoPow, Nat.mod_eq_of_lt hk2, ← Nat.pow_add]; congr 1; omega
  unfold lo hi mBit
  rw [BitVec.extractLsb'_toNat, BitVec.extractLsb'_toNat, e, IntKind.wrap_u64]
  constructor
  · rw [Nat.shiftRight_eq_div_pow, Nat.mul_div_cancel _ (by decide), Nat.mod_eq_of_lt hk]
    have : ((2 ^ (k - 64) : Nat) : Int) = 2 ^ (k - 64) := by simp
    omega
  · rw [Nat.shiftRight_zero, Nat.mul_mod_left]; rfl
theorem bit_any (n : Int) (h0 : 0 ≤ n) (h1 : n < 96) (w : World) : Calls Try.prog 47 #[.int .i64 n] w fun e w' => e = .returned (.agg #[.int .u64 (lo (mBit n.toNat)), .int .u64 (hi (mBit n.toNat))]) ∧ Ext w w' := by
  by_cases h : n < 64
  · obtain ⟨e1, e2⟩ := lo_bit n.toNat (by omega)
    rw [e1, e2]
    clear e1 e2
    have hq : n / 64 = 0 := by omega
    have hr : n % 64 = n := by omega
    go_enter Try.func47, Try.ntmps47
    go_wp2
    exact bodyPost_ret (v := .agg #[.int .u64 (IntKind.u64.wrap (2 ^ n.toNat)), .int .u64 0]) (by simp [results, Try.results47, go_sem]) rfl ⟨rfl, ((Ext.refl _).alloc _).alloc _⟩
  · obtain ⟨e1, e2⟩ := hi_bit n.toNat (by omega) (by omega)
    rw [e1, e2]
    clear e1 e2
    have hq : n / 64 = 1 := by omega
    have hr : n % 64 = n - 64 := by omega
    have ht : (n - 64).toNat = n.toNat - 64 := by omega
    go_enter Try.func47, Try.ntmps47
    go_wp2
    exact bodyPost_ret (v := .agg #[.int .u64 0, .int .u64 (IntKind.u64.wrap (2 ^ (n.toNat - 64)))]) (by simp [results, Try.results47, go_sem]) rfl ⟨rfl, ((Ext.refl _).alloc _).alloc _⟩

theorem mask_equal (x y x' y' : Int) (w : World) : (Op.equal 31 (.agg #[.int .u64 x, .int .u64 y]) (.agg #[.int .u64 x', .int .u64 y'])).run Try.prog w = .ok (x == x' && y == y') w := by
  have u := Try.underlying31
  have u2 := Try.underlying29
  have z := Try.sizeOf29
  have ag := Try.isAgg29
  obtain ⟨d, hd⟩ : ∃ d, Op.maxDepth = d + 1 + 1 := ⟨9998, rfl⟩
  unfold Op.equal
  rw [hd, Op.equalIn]
  simp only [Sem.run_bind, run_underlying u, Result.andThen_ok, z, Std.Legacy.Range.forIn_eq_forIn_range', Std.Legacy.Range.size, List.range', Nat.sub_zero, List.forIn_cons, List.forIn_nil]
  by_cases h1 : x = x' <;> by_cases h2 : y = y' <;> simp [h1, h2, go_sem, u2, ag]
theorem words_beq (a b : Mask) : (lo a == lo b && hi a == hi b) = (a == b) := by
  rw [Bool.eq_iff_iff]; simp [mask_eq a b]
theorem lo_zero : lo 0 = 0 := by decide
theorem hi_zero : hi 0 = 0 := by decide
theorem mask_neq (a b : Mask) (w : World) : (binOp .neq 31 (.agg #[.int .u64 (lo (a)), .int .u64 (hi (a))]) (.agg #[.int .u64 (lo (b)), .int .u64 (hi (b))])).run Try.prog w = .ok (.bool (!(a == b))) w := by
  simp only [binOp, Sem.run_bind, mask_equal, Result.andThen_ok, words_beq]; rfl
theorem mask_eql (a b : Mask) (w : World) : (binOp .eql 31 (.agg #[.int .u64 (lo (a)), .int .u64 (hi (a))]) (.agg #[.int .u64 (lo (b)), .int .u64 (hi (b))])).run Try.prog w = .ok (.bool (a == b)) w := by
  simp only [binOp, Sem.run_bind, mask_equal, Result.andThen_ok, words_beq]; rfl
theorem mask_neq0 (a : Mask) (w : World) : (binOp .neq 31 (.agg #[.int .u64 (lo (a)), .int .u64 (hi (a))]) (.agg #[.int .u64 0, .int .u64 0])).run Try.prog w = .ok (.bool (!(a == 0))) w := by
  have := mask_neq a 0 w
  rwa [lo_zero, hi_zero] at this
theorem mask_eql0 (a : Mask) (w : World) : (binOp .eql 31 (.agg #[.int .u64 (lo (a)), .int .u64 (hi (a))]) (.agg #[.int .u64 0, .int .u64 0])).run Try.prog w = .ok (.bool (a == 0)) w := by
  have := mask_eql a 0 w
  rwa [lo_zero, hi_zero] at this
theorem mask_guard : Try.prog.eqGuardType Try.prog.depth 31 = false := by kernel_rfl
theorem check_any (m : Mask) (w : World) : Calls Try.prog 75 #[.agg #[.int .u64 (lo (m)), .int .u64 (hi (m))]] w fun e w' => e = .returned (.int .i64 (if mCheck m then 0 else 200)) ∧ Ext w w' := by
  have hq := mask_neq0 (m &&& ~~~mAll)
  have hg := mask_guard
  rw [show (m &&& ~~~mAll == 0) = mCheck m from rfl] at hq
  generalize mCheck m = b at hq ⊢
  go_enter Try.func75, Try.ntmps75
  go_wp2
  refine named fun W0 hW0 => ?_
  have ka : Blk W0 w.heap.size _ _ := Blk.of_eq hW0 (Blk.new' (by simp))
  have hB : Ext w W0 := Ext.of_eq hW0 ((Ext.refl _).alloc _)
  have ca := ka.cell
  clear hW0
  cases b <;> go_wp2
  all_goals
    refine region_all (Ext _) (by kernel_rfl) (by kernel_rfl) (Ext.drew' (Below.refl _ _)) ?_
    repeat (first | (refine quiet_op ?_ ?_; (focus (go_simp; done)); apply Exists.intro; refine ⟨fun W hW => ?_, ?_⟩; (focus (have hc := hW.cellR; go_simp; first | exact rfl | (go_at_call 37; refine (all_any _).mono ?_; rintro e w' ⟨rfl, hx⟩; exact ⟨rfl, hW.trans hx⟩) | (go_at_call 95; refine (minus_any _ _ _).mono ?_; rintro e w' ⟨rfl, hx⟩; exact ⟨rfl, hW.trans hx⟩))); simp only [Act.put, List.setIfInBounds_toArray, List.set_cons_succ, List.set_cons_zero]) | (refine quiet_skip ?_ ?_; (focus (go_simp; done)); simp only [Act.put, List.setIfInBounds_toArray, List.set_cons_succ, List.set_cons_zero]))
    refine wpQuiet_nil ?_
    intro W1 hW1
    clear hq
    go_wp2
    go_ret
    exact ⟨rfl, hB.trans hW1⟩
theorem has_any (m : Mask) (n : Int) (w : World) : Calls Try.prog 17 #[.agg #[.int .u64 (lo (m)), .int .u64 (hi (m))], .int .i64 n] w fun e w' => e = .returned (.bool (mHas m n)) ∧ Ext w w' := by
  have hg := mask_guard
  have hs := slot_any n
  unfold mHas
  cases hn : mSlot n with
  | true =>
    rw [hn] at hs
    obtain ⟨h0, h1⟩ : 0 ≤ n ∧ n < 96 := by simpa [mSlot] using hn
    have hq := mask_neq0 (m &&& mBit n.toNat)
    have e : (!(m &&& mBit n.toNat == 0)) = m.getLsbD n.toNat := mask_bit_has m n.toNat (by omega)
    rw [e] at hq
    clear hn e
    go_enter Try.func17, Try.ntmps17
    go_wp2
    refine named fun W0 hW0 => ?_
    have ka : Blk W0 w.heap.size _ _ := Blk.of_eq hW0 (Blk.new' (by simp))
    have hB : Ext w W0 := Ext.of_eq hW0 ((Ext.refl _).alloc _)
    have ca := ka.cell
    clear hW0
    go_wp2
    refine region_all (Ext _) (by kernel_rfl) (by kernel_rfl) (Ext.drew' (Below.refl _ _)) ?_
    repeat (first | (refine quiet_op ?_ ?_; (focus (go_simp; done)); apply Exists.intro; refine ⟨fun W hW => ?_, ?_⟩; (focus (have hc := hW.cellR; go_simp; first | exact rfl | (go_at_call 46; refine (hs _).mono ?_; rintro e w' ⟨rfl, rfl⟩; exact ⟨rfl, hW⟩) | (go_at_call 47; refine (bit_any _ h0 h1 _).mono ?_; rintro e w' ⟨rfl, hx⟩; exact ⟨rfl, hW.trans hx⟩) | (go_at_call 36; refine (and_any _ _ _).mono ?_; rintro e w' ⟨rfl, hx⟩; exact ⟨rfl, hW.trans hx⟩))); simp only [Act.put, List.setIfInBounds_toArray, List.set_cons_succ, List.set_cons_zero]) | (refine quiet_skip ?_ ?_; (focus (go_simp; done)); simp only [Act.put, List.setIfInBounds_toArray, List.set_cons_succ, List.set_cons_zero]))
    refine wpQuiet_nil ?_
    intro W1 hW1
    clear hq
    go_wp2
    go_ret
    exact ⟨by simp, hB.trans hW1⟩
  | false =>
    rw [hn] at hs
    clear hn
    go_enter Try.func17, Try.ntmps17
    go_wp2
    refine named fun W0 hW0 => ?_
    have ka : Blk W0 w.heap.size _ _ := Blk.of_eq hW0 (Blk.new' (by simp))
    have hB : Ext w W0 := Ext.of_eq hW0 ((Ext.refl _).alloc _)
    have ca := ka.cell
    clear hW0
    go_wp2
    refine region_all (Ext _) (by kernel_rfl) (by kernel_rfl) (Ext.drew' (Below.refl _ _)) ?_
    repeat (first | (refine quiet_op ?_ ?_; (focus (go_simp; done)); apply Exists.intro; refine ⟨fun W hW => ?_, ?_⟩; (focus (have hc := hW.cellR; go_simp; first | exact rfl | (go_at_call 46; refine (hs _).mono ?_; rintro e w' ⟨rfl, rfl⟩; exact ⟨rfl, hW⟩))); simp only [Act.put, List.setIfInBounds_toArray, List.set_cons_succ, List.set_cons_zero]) | (refine quiet_skip ?_ ?_; (focus (go_simp; done)); simp only [Act.put, List.setIfInBounds_toArray, List.set_cons_succ, List.set_cons_zero]))
    refine wpQuiet_nil ?_
    intro W1 hW1
    go_wp2
    go_ret
    exact ⟨by simp, hB.trans hW1⟩

end Go.Proofs.Ytiolpknfdabijaa
