/- How many bits a word has: the sum by halves (bits.OnesCount64) is the count. Plain mathematics. -/
import Derived.Test.YtiolpknfdabijaaPure
import Derived.WalkKit
set_option linter.unusedVariables false
set_option linter.unusedSimpArgs false
namespace Go.Proofs.Ytiolpknfdabijaa
open Go.RowKit
namespace Pop
def dsum (w : Nat) : Nat → Nat → Nat
  | 0, _ => 0
  | n + 1, x => x % 2 ^ w + dsum w n (x / 2 ^ w)
def fld (w : Nat) : Nat → Nat → Nat
  | 0, _ => 0
  | n + 1, x => x % 2 ^ w + 2 ^ (2 * w) * fld w n (x / 2 ^ (2 * w))
def msk (w : Nat) : Nat → Nat
  | 0 => 0
  | n + 1 => (2 ^ w - 1) + 2 ^ (2 * w) * msk w n
def dle (w : Nat) : Nat → Nat → Nat → Prop
  | 0, _, _ => True
  | n + 1, x, m => x % 2 ^ w ≤ m ∧ dle w n (x / 2 ^ w) m
theorem land_split (k a b c d : Nat) (ha : a < 2 ^ k) (hc : c < 2 ^ k) : (a + 2 ^ k * b) &&& (c + 2 ^ k * d) = (a &&& c) + 2 ^ k * (b &&& d) := by
  apply Nat.eq_of_testBit_eq
  intro i
  have hac : a &&& c < 2 ^ k := Nat.lt_of_le_of_lt Nat.and_le_left ha
  rw [Nat.testBit_and, Nat.add_comm a, Nat.add_comm c, Nat.add_comm (a &&& c), Nat.testBit_two_pow_mul_add _ ha, Nat.testBit_two_pow_mul_add _ hc, Nat.testBit_two_pow_mul_add _ hac]
  split <;> simp [Nat.testBit_and]
theorem land_msk (w : Nat) : ∀ (n x : Nat), x &&& msk w n = fld w n x
  | 0, x => by simp [msk, fld]
  | n + 1, x => by
    have hB : 2 ^ w - 1 < 2 ^ (2 * w) := by
      have : 2 ^ w ≤ 2 ^ (2 * w) := Nat.pow_le_pow_right (by omega) (by omega)
      have := Nat.two_pow_pos w
      omega
    have hx : x = x % 2 ^ (2 * w) + 2 ^ (2 * w) * (x / 2 ^ (2 * w)) := (Nat.mod_add_div x _).symm
    simp only [msk, fld]
    conv => lhs; rw [hx]
    rw [land_split _ _ _ _ _ (Nat.mod_lt _ (Nat.two_pow_pos _)) hB, land_msk w n, Nat.and_two_pow_sub_one_eq_mod, Nat.mod_mod_of_dvd _ (Nat.pow_dvd_pow 2 (by omega))]
theorem fld_le (w : Nat) : ∀ (n x : Nat), fld w n x ≤ msk w n
  | 0, x => by simp [msk, fld]
  | n + 1, x => by
    simp only [msk, fld]
    have := Nat.mod_lt x (Nat.two_pow_pos w)
    have := Nat.mul_le_mul_left (2 ^ (2 * w)) (fld_le w n (x / 2 ^ (2 * w)))
    omega
theorem fld_succ (w n x : Nat) : fld w (n + 1) (x / 2 ^ w) + fld w (n + 1) x = (x / 2 ^ w % 2 ^ w + x % 2 ^ w) + 2 ^ (2 * w) * (fld w n (x / 2 ^ (2 * w) / 2 ^ w) + fld w n (x / 2 ^ (2 * w))) := by
  simp only [fld]
  rw [Nat.div_div_eq_div_mul x (2 ^ w), Nat.mul_comm (2 ^ w), ← Nat.div_div_eq_div_mul, Nat.mul_add]
  omega
theorem part_lt (w x : Nat) (hw : 1 ≤ w) : x / 2 ^ w % 2 ^ w + x % 2 ^ w < 2 ^ (2 * w) := by
  have h1 := Nat.mod_lt (x / 2 ^ w) (Nat.two_pow_pos w)
  have h2 := Nat.mod_lt x (Nat.two_pow_pos w)
  have h3 : 2 ^ (2 * w) = 2 ^ w * 2 ^ w := by rw [← Nat.pow_add]; congr 1; omega
  have h4 : 2 * 2 ^ w ≤ 2 ^ w * 2 ^ w := Nat.mul_le_mul_right _ (by
    have : 2 ^ 1 ≤ 2 ^ w := Nat.pow_le_pow_right (by omega) hw
    omega)
  omega
theorem sq (w x : Nat) : x / 2 ^ w / 2 ^ w = x / 2 ^ (2 * w) := by rw [Nat.div_div_eq_div_mul, ← Nat.pow_add]; congr 2; omega
theorem dsum_step (w : Nat) (hw : 1 ≤ w) : ∀ (n x : Nat), dsum (2 * w) n (fld w n (x / 2 ^ w) + fld w n x) = dsum w (2 * n) x
  | 0, x => by simp [dsum]
  | n + 1, x => by
    rw [fld_succ, show 2 * (n + 1) = 2 * n + 1 + 1 by omega]
    simp only [dsum]
    rw [Nat.add_mul_mod_self_left, Nat.mod_eq_of_lt (part_lt w x hw), Nat.add_mul_div_left _ _ (Nat.two_pow_pos _), Nat.div_eq_of_lt (part_lt w x hw), Nat.zero_add, dsum_step w hw n, sq]
    omega
theorem dle_step (w m : Nat) (hw : 1 ≤ w) : ∀ (n x : Nat), dle w (2 * n) x m → dle (2 * w) n (fld w n (x / 2 ^ w) + fld w n x) (2 * m)
  | 0, x, _ => trivial
  | n + 1, x, h => by
    rw [show 2 * (n + 1) = 2 * n + 1 + 1 by omega] at h
    obtain ⟨h1, h2, h3⟩ := h
    rw [fld_succ]
    refine ⟨?_, ?_⟩
    · rw [Nat.add_mul_mod_self_left, Nat.mod_eq_of_lt (part_lt w x hw)]; omega
    · rw [Nat.add_mul_div_left _ _ (Nat.two_pow_pos _), Nat.div_eq_of_lt (part_lt w x hw), Nat.zero_add]
      exact dle_step w m hw n _ (by rwa [sq] at h3)
theorem dle_one : ∀ (n x : Nat), dle 1 n x 1
  | 0, _ => trivial
  | n + 1, x => ⟨by omega, dle_one n _⟩
theorem fld_add : ∀ (n x : Nat), dle 4 (2 * n) x 4 → fld 4 n (x / 16 + x) = fld 4 n (x / 16) + fld 4 n x
  | 0, x, _ => rfl
  | n + 1, x, h => by
    rw [show 2 * (n + 1) = 2 * n + 1 + 1 by omega] at h
    obtain ⟨h1, h2, h3⟩ := h
    have e := fld_succ 4 n x
    simp only [show (2 : Nat) ^ 4 = 16 from rfl, show (2 : Nat) ^ (2 * 4) = 256 from rfl] at e h1 h2 h3 ⊢
    rw [e]
    simp only [fld, show (2 : Nat) ^ 4 = 16 from rfl, show (2 : Nat) ^ (2 * 4) = 256 from rfl]
    have hm : (x / 16 + x) % 16 = x / 16 % 16 + x % 16 := by omega
    rw [hm]
    cases n with
    | zero => simp [fld]
    | succ n =>
      have h4 := h3
      rw [show 2 * (n + 1) = 2 * n + 1 + 1 by omega] at h4
      have h5 := h4.1
      simp only [show (2 : Nat) ^ 4 = 16 from rfl] at h5
      have hk : x / 16 / 16 = x / 256 := by omega
      rw [hk] at h5
      have hd : (x / 16 + x) / 256 = x / 256 / 16 + x / 256 := by
        generalize hq : x / 256 = q at *
        have e1 : x / 16 = x / 16 % 16 + 16 * q := by omega
        have e2 : x = x % 16 + 16 * (x / 16) := by omega
        generalize x / 16 % 16 = n1 at *
        generalize x % 16 = n0 at *
        generalize x / 16 = y at *
        clear hm hk h4 h3 e hq
        have e3 : q = q % 16 + 16 * (q / 16) := by omega
        generalize q % 16 = q0 at *
        generalize q / 16 = q1 at *
        omega
      rw [hd, fld_add (n + 1) (x / 256) (by rwa [show x / 16 / 16 = x / 256 by omega] at h3)]
/-- The count by halves. -/
def cnt (x : Nat) : Nat :=
  let a := (x / 2 &&& 6148914691236517205) + (x &&& 6148914691236517205)
  let b := (a / 4 &&& 3689348814741910323) + (a &&& 3689348814741910323)
  let c := (b / 16 + b) &&& 1085102592571150095
  let d := c + c / 256
  let e := d + d / 65536
  let f := e + e / 4294967296
  f % 128
theorem ex_eq {α : Type} (x : α) : ∃ a, a = x := ⟨x, rfl⟩
theorem cnt_facts (x : Nat) : ∃ a b c, a = (x / 2 &&& 6148914691236517205) + (x &&& 6148914691236517205) ∧ b = (a / 4 &&& 3689348814741910323) + (a &&& 3689348814741910323) ∧ c = (b / 16 + b) &&& 1085102592571150095 ∧
    a < 18446744073709551616 ∧ b < 9223372036854775808 ∧ c < 4611686018427387904 ∧ dle 8 8 c 8 ∧ dsum 8 8 c = dsum 1 64 x := by
  have m1 : msk 1 32 = 6148914691236517205 := by kernel_rfl
  have m2 : msk 2 16 = 3689348814741910323 := by kernel_rfl
  have m4 : msk 4 8 = 1085102592571150095 := by kernel_rfl
  obtain ⟨a, ha⟩ := ex_eq (fld 1 32 (x / 2 ^ 1) + fld 1 32 x)
  obtain ⟨b, hb⟩ := ex_eq (fld 2 16 (a / 2 ^ 2) + fld 2 16 a)
  obtain ⟨c, hc⟩ := ex_eq (fld 4 8 (b / 2 ^ 4) + fld 4 8 b)
  have da := dle_step 1 1 (by omega) 32 x (dle_one _ _)
  rw [← ha] at da
  have db := dle_step 2 2 (by omega) 16 a da
  rw [← hb] at db
  have dc := dle_step 4 4 (by omega) 8 b db
  rw [← hc] at dc
  have s1 := dsum_step 1 (by omega) 32 x
  have s2 := dsum_step 2 (by omega) 16 a
  have s3 := dsum_step 4 (by omega) 8 b
  rw [← ha] at s1
  rw [← hb] at s2
  rw [← hc] at s3
  simp only [Nat.reduceMul] at da db dc s1 s2 s3
  have l1 := fld_le 1 32 (x / 2 ^ 1)
  have l2 := fld_le 1 32 x
  have l3 := fld_le 2 16 (a / 2 ^ 2)
  have l4 := fld_le 2 16 a
  have l5 := fld_le 4 8 (b / 2 ^ 4)
  have l6 := fld_le 4 8 b
  rw [m1] at l1 l2
  rw [m2] at l3 l4
  rw [m4] at l5 l6
  refine ⟨a, b, c, ?_, ?_, ?_, by omega, by omega, by omega, dc, s3.trans (s2.trans s1)⟩
  · rw [ha, ← m1, land_msk, land_msk]
  · rw [hb, ← m2, land_msk, land_msk]
  · rw [← m4, land_msk, fld_add 8 b db, hc]
theorem dv (a q : Nat) (h : a < 256) : (a + 256 * q) / 256 = q := by omega
theorem dv2 (x : Nat) : x / 65536 = x / 256 / 256 := by omega
theorem dv4 (x : Nat) : x / 4294967296 = x / 65536 / 65536 := by omega
theorem sum8 (c : Nat) (h : dle 8 8 c 8) (hc : c < 4611686018427387904) :
    c + c / 256 < 9223372036854775808 ∧ (c + c / 256) + (c + c / 256) / 65536 < 9223372036854775808 ∧
    ((c + c / 256) + (c + c / 256) / 65536) + ((c + c / 256) + (c + c / 256) / 65536) / 4294967296 < 9223372036854775808 ∧
    (((c + c / 256) + (c + c / 256) / 65536) + ((c + c / 256) + (c + c / 256) / 65536) / 4294967296) % 128 = dsum 8 8 c := by
  have b1 : c + c / 256 < 4656172256743784448 + 36028797018963968 := by omega
  have b2 : (c + c / 256) + (c + c / 256) / 65536 < 4800000000000000000 := by omega
  refine ⟨by omega, by omega, by omega, ?_⟩
  simp only [dle, dsum, show (2 : Nat) ^ 8 = 256 from rfl, and_true] at *
  obtain ⟨h0, h1, h2, h3, h4, h5, h6, h7⟩ := h
  have step : ∀ R, ∃ x q, x = R % 256 ∧ q = R / 256 ∧ R = x + 256 * q := fun R => ⟨_, _, rfl, rfl, by omega⟩
  obtain ⟨c0, r1, e0, q0, f0⟩ := step c
  obtain ⟨c1, r2, e1, q1, f1⟩ := step r1
  obtain ⟨c2, r3, e2, q2, f2⟩ := step r2
  obtain ⟨c3, r4, e3, q3, f3⟩ := step r3
  obtain ⟨c4, r5, e4, q4, f4⟩ := step r4
  obtain ⟨c5, r6, e5, q5, f5⟩ := step r5
  obtain ⟨c6, r7, e6, q6, f6⟩ := step r6
  obtain ⟨c7, r8, e7, q7, f7⟩ := step r7
  rw [← e0] at h0
  rw [← q0] at h1 h2 h3 h4 h5 h6 h7
  rw [← e1] at h1
  rw [← q1] at h2 h3 h4 h5 h6 h7
  rw [← e2] at h2
  rw [← q2] at h3 h4 h5 h6 h7
  rw [← e3] at h3
  rw [← q3] at h4 h5 h6 h7
  rw [← e4] at h4
  rw [← q4] at h5 h6 h7
  rw [← e5] at h5
  rw [← q5] at h6 h7
  rw [← e6] at h6
  rw [← q6] at h7
  rw [← e7] at h7
  rw [← e0, ← q0, ← e1, ← q1, ← e2, ← q2, ← e3, ← q3, ← e4, ← q4, ← e5, ← q5, ← e6, ← q6, ← e7]
  have hr8 : r8 = 0 := by
    have : r8 = c / 18446744073709551616 := by
      rw [q7, q6, q5, q4, q3, q2, q1, q0]
      simp only [Nat.div_div_eq_div_mul]
    omega
  subst hr8
  have D0 : c + r1 = (c0 + c1) + 256 * (r1 + r2) := by omega
  have D1 : r1 + r2 = (c1 + c2) + 256 * (r2 + r3) := by clear D0; omega
  have D2 : r2 + r3 = (c2 + c3) + 256 * (r3 + r4) := by clear D0 D1; omega
  have D3 : r3 + r4 = (c3 + c4) + 256 * (r4 + r5) := by clear D0 D1 D2; omega
  have D4 : r4 + r5 = (c4 + c5) + 256 * (r5 + r6) := by clear D0 D1 D2 D3; omega
  have D5 : r5 + r6 = (c5 + c6) + 256 * (r6 + r7) := by clear D0 D1 D2 D3 D4; omega
  have D6 : r6 + r7 = (c6 + c7) + 256 * (r7 + 0) := by clear D0 D1 D2 D3 D4 D5; omega
  have D7 : r7 + 0 = c7 + 256 * 0 := by omega
  clear f0 f1 f2 f3 f4 f5 f6 f7 e0 e1 e2 e3 e4 e5 e6 e7 q0 q1 q2 q3 q4 q5 q6 q7 step b1 b2 hc
  generalize c + r1 = x0 at *
  generalize r1 + r2 = x1 at *
  generalize r2 + r3 = x2 at *
  generalize r3 + r4 = x3 at *
  generalize r4 + r5 = x4 at *
  generalize r5 + r6 = x5 at *
  generalize r6 + r7 = x6 at *
  generalize r7 + 0 = x7 at *
  have y0 : x0 / 65536 = x2 := by rw [dv2, D0, dv _ _ (by omega), D1, dv _ _ (by omega)]
  rw [y0]
  have E0 : x0 + x2 = (c0 + c1 + c2 + c3) + 256 * (x1 + x3) := by omega
  have E1 : x1 + x3 = (c1 + c2 + c3 + c4) + 256 * (x2 + x4) := by omega
  have E2 : x2 + x4 = (c2 + c3 + c4 + c5) + 256 * (x3 + x5) := by omega
  have E3 : x3 + x5 = (c3 + c4 + c5 + c6) + 256 * (x4 + x6) := by omega
  have E4 : x4 + x6 = (c4 + c5 + c6 + c7) + 256 * (x5 + x7) := by omega
  have y1 : (x0 + x2) / 4294967296 = x4 + x6 := by
    rw [dv4, dv2, dv2, E0, dv _ _ (by omega), E1, dv _ _ (by omega), E2, dv _ _ (by omega), E3, dv _ _ (by omega)]
  rw [y1, E0, E4]
  clear D0 D1 D2 D3 D4 D5 D6 D7 E0 E1 E2 E3 E4 y0 y1
  omega
end Pop

/-- The code's own words, on Int. -/
def oc (x : Int) : Int :=
  let a := IntKind.u64.wrap (bits .and .u64 (x / 2) 6148914691236517205 + bits .and .u64 x 6148914691236517205)
  let b := IntKind.u64.wrap (bits .and .u64 (a / 4) 3689348814741910323 + bits .and .u64 a 3689348814741910323)
  let c := bits .and .u64 (IntKind.u64.wrap (b / 16 + b)) 1085102592571150095
  let d := IntKind.u64.wrap (c + c / 256)
  let e := IntKind.u64.wrap (d + d / 65536)
  let f := IntKind.u64.wrap (e + e / 4294967296)
  bits .and .i64 (wrap64 f) 127
theorem bits_and_nat (a b : Nat) (B : Int) (hB : B = (b : Int)) (ha : a < 18446744073709551616) (hb : b < 18446744073709551616) : bits .and .u64 (a : Int) B = ((a &&& b : Nat) : Int) := by
  subst hB
  have hx : a &&& b ≤ a := Nat.and_le_left
  have h1 : (BitVec.ofInt 64 (a : Int)).toNat = a := by rw [BitVec.ofInt_natCast, BitVec.toNat_ofNat]; exact Nat.mod_eq_of_lt (by omega)
  have h2 : (BitVec.ofInt 64 (b : Int)).toNat = b := by rw [BitVec.ofInt_natCast, BitVec.toNat_ofNat]; exact Nat.mod_eq_of_lt (by omega)
  show IntKind.u64.wrap ((BitVec.ofInt 64 (a : Int) &&& BitVec.ofInt 64 (b : Int)).toNat : Int) = _
  rw [BitVec.toNat_and, h1, h2, IntKind.wrap_u64]
  omega
theorem bits_and_127 (a : Nat) (ha : a < 9223372036854775808) : bits .and .i64 (a : Int) 127 = ((a % 128 : Nat) : Int) := by
  have h1 : (BitVec.ofInt 64 (a : Int)).toNat = a := by rw [BitVec.ofInt_natCast, BitVec.toNat_ofNat]; exact Nat.mod_eq_of_lt (by omega)
  show IntKind.i64.wrap ((BitVec.ofInt 64 (a : Int) &&& BitVec.ofInt 64 127).toNat : Int) = _
  rw [BitVec.toNat_and, h1, show (BitVec.ofInt 64 127).toNat = 2 ^ 7 - 1 from by decide, Nat.and_two_pow_sub_one_eq_mod]
  rw [IntKind.wrap_i64, show (2 : Nat) ^ 7 = 128 from rfl]
  omega
theorem wrap_nat (a : Nat) (h : a < 18446744073709551616) : IntKind.u64.wrap (a : Int) = a := by rw [IntKind.wrap_u64]; omega
theorem oc_nat (x : Nat) (hx : x < 18446744073709551616) : oc (x : Int) = (Pop.dsum 1 64 x : Nat) := by
  obtain ⟨a, b, c, ha, hb, hc, la, lb, lc, hd, hs⟩ := Pop.cnt_facts x
  obtain ⟨s1, s2, s3, s4⟩ := Pop.sum8 c hd lc
  have e1 : IntKind.u64.wrap (bits .and .u64 ((x : Int) / 2) 6148914691236517205 + bits .and .u64 x 6148914691236517205) = (a : Int) := by
    have := bits_and_nat (x / 2) 6148914691236517205 6148914691236517205 rfl (by omega) (by omega)
    have h2 := bits_and_nat x 6148914691236517205 6148914691236517205 rfl (by omega) (by omega)
    rw [show ((x : Int) / 2) = ((x / 2 : Nat) : Int) by omega]
    rw [this, h2, ← Int.natCast_add, ← ha, wrap_nat _ la]
  have e2 : IntKind.u64.wrap (bits .and .u64 ((a : Int) / 4) 3689348814741910323 + bits .and .u64 a 3689348814741910323) = (b : Int) := by
    have := bits_and_nat (a / 4) 3689348814741910323 3689348814741910323 rfl (by omega) (by omega)
    have h2 := bits_and_nat a 3689348814741910323 3689348814741910323 rfl (by omega) (by omega)
    rw [show ((a : Int) / 4) = ((a / 4 : Nat) : Int) by omega]
    rw [this, h2, ← Int.natCast_add, ← hb, wrap_nat _ (by omega)]
  have e3 : bits .and .u64 (IntKind.u64.wrap ((b : Int) / 16 + b)) 1085102592571150095 = (c : Int) := by
    have := bits_and_nat (b / 16 + b) 1085102592571150095 1085102592571150095 rfl (by omega) (by omega)
    rw [show ((b : Int) / 16 + b) = ((b / 16 + b : Nat) : Int) by omega, wrap_nat _ (by omega)]
    rw [this, ← hc]
  unfold oc
  simp only [e1, e2, e3]
  rw [show ((c : Int) + c / 256) = ((c + c / 256 : Nat) : Int) by omega, wrap_nat _ (by omega)]
  generalize hD : c + c / 256 = D at *
  rw [show ((D : Int) + D / 65536) = ((D + D / 65536 : Nat) : Int) by omega, wrap_nat _ (by omega)]
  generalize hE : D + D / 65536 = E at *
  rw [show ((E : Int) + E / 4294967296) = ((E + E / 4294967296 : Nat) : Int) by omega, wrap_nat _ (by omega)]
  generalize hF : E + E / 4294967296 = F' at *
  rw [show wrap64 (F' : Int) = F' by unfold wrap64; omega, bits_and_127 _ s3, s4, hs]
theorem dsum_bits : ∀ (n x : Nat), Pop.dsum 1 n x = (List.range n).countP fun i => x.testBit i
  | 0, x => rfl
  | n + 1, x => by
    rw [List.range_succ_eq_map, List.countP_cons, List.countP_map, Pop.dsum, dsum_bits n]
    have h : (fun i => x.testBit i) ∘ Nat.succ = fun i => (x / 2 ^ 1).testBit i := by
      funext i
      simp [Nat.testBit_succ]
    rw [h]
    have : x % 2 ^ 1 = if x.testBit 0 then 1 else 0 := by
      rw [Nat.testBit_zero]
      rcases Nat.mod_two_eq_zero_or_one x with h | h <;> simp [h]
    rw [this]
    omega

theorem pop_split (m : Mask) : pop m = Pop.dsum 1 64 (m.extractLsb' 0 64).toNat + Pop.dsum 1 64 (m.extractLsb' 64 64).toNat := by
  rw [dsum_bits, dsum_bits]
  unfold pop
  have hr : List.range 128 = List.range 64 ++ (List.range 64).map (64 + ·) := by decide
  rw [hr, List.countP_append, List.countP_map]
  congr 1
  · apply List.countP_congr
    intro i hi
    have h : i < 64 := by simpa using hi
    rw [← BitVec.getLsbD.eq_1, BitVec.getLsbD_extractLsb']
    simp [h]
  · apply List.countP_congr
    intro i hi
    have h : i < 64 := by simpa using hi
    rw [← BitVec.getLsbD.eq_1, BitVec.getLsbD_extractLsb']
    simp [h]

end Go.Proofs.Ytiolpknfdabijaa
