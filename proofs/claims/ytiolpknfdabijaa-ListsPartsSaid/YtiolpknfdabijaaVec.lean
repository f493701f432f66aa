/- The functions of layer 5 on vectors. -/
import Derived.Test.YtiolpknfdabijaaProg
import Derived.Test.YtiolpknfdabijaaLib
import Derived.Test.YtiolpknfdabijaaPure
import Derived.Test.YtiolpknfdabijaaMask2
set_option linter.unusedVariables false
set_option maxRecDepth 4000
set_option linter.unusedSimpArgs false
namespace Go.Proofs.Ytiolpknfdabijaa
open Go.RowKit


theorem idxF_hit {α : Type} (p : α → Bool) (xs : List α) (k : Nat) (hk : k < xs.length) (h : p xs[k] = true) (hm : ∀ x ∈ xs.take k, p x = false) : idxF p xs = k := by
  unfold idxF
  have : xs.findIdx? p = some k := by
    rw [List.findIdx?_eq_some_iff_getElem]
    refine ⟨hk, h, fun j hj => ?_⟩
    have := hm xs[j] (by rw [List.mem_take_iff_getElem]; exact ⟨j, by omega, rfl⟩)
    simp [this]
  rw [this]
theorem idxF_miss {α : Type} (p : α → Bool) (xs : List α) (hm : ∀ x ∈ xs, p x = false) : idxF p xs = -1 := by
  unfold idxF
  have : xs.findIdx? p = none := by rw [List.findIdx?_eq_none_iff]; exact hm
  rw [this]
theorem idxF_any {α : Type} (p : α → Bool) (xs : List α) : decide (0 ≤ idxF p xs) = xs.any p := by
  unfold idxF
  cases h : xs.findIdx? p with
  | none =>
    have : xs.any p = false := by
      rw [List.findIdx?_eq_none_iff] at h
      simpa using h
    rw [this]; rfl
  | some i =>
    have : xs.any p = true := by
      rw [List.findIdx?_eq_some_iff_getElem] at h
      obtain ⟨hi, hp, _⟩ := h
      exact List.any_eq_true.2 ⟨_, List.getElem_mem hi, hp⟩
    rw [this]
    simp
theorem take_false {α : Type} {p : α → Bool} {xs : List α} {k : Nat} (hk : k < xs.length) (hm : ∀ x ∈ xs.take k, p x = false) (h : p xs[k] = false) : ∀ x ∈ xs.take (k + 1), p x = false := by
  intro x hx
  rw [take_snoc _ _ hk, List.mem_append, List.mem_singleton] at hx
  rcases hx with hx | rfl
  · exact hm x hx
  · exact h
abbrev kI32 : Kd Int := Kd.int .i32
abbrev kVec : Kd Vec := kI32.slice
abbrev kVecs : Kd (List Vec) := kVec.slice

set_option maxHeartbeats 1000000 in
/-- slices.IndexFunc, slices.ContainsFunc: elements of one cell. -/
theorem indexF_i32 {α : Type} (d : Kd α) (hsz : d.sz = 1) (p : α → Bool) (g : Nat) (lb : Array Value) (eg : ∀ args w, (callFunc g args).run Try.prog w = .ok (.enter g args) w) (xs : List α) (v : Value) (w : World) (h : d.Sl w v xs)
    (hp : ∀ W x y, Ext w W → x ∈ xs → d.K W x [y] → Calls Try.prog g (#[y] ++ lb) W fun e W' => e = .returned (.bool (p x)) ∧ Ext W W') :
    Calls Try.prog 108 #[v, .func (.func g) #[] lb] w fun e w' => e = .returned (.int .i64 (idxF p xs)) ∧ Ext w w' := by
  obtain ⟨a, c, rfl, hc, hl, hr⟩ := h.form
  go_enter Try.func108, Try.ntmps108
  go_wp2
  go_loopg [8] xs.length (fun gg s8 wr => ∃ k : Nat, k ≤ xs.length ∧ xs.length - k ≤ gg ∧ s8 = .int .i64 k ∧ Hid (∀ x ∈ xs.take k, p x = false) ∧ Ext w wr)
  case atStart => exact ⟨0, Nat.zero_le _, by omega, rfl, by simp [Hid], Ext.refl _⟩
  case round =>
    obtain ⟨k, hk, hg, rfl, hno, hB⟩ := hrel
    by_cases hlt : k < xs.length
    · obtain ⟨b, off, cs, ha, hK, hcell⟩ := (hr.ext hB).at_ hlt
      obtain ⟨y, rfl⟩ : ∃ y, cs = [y] := by
        have := d.len hK
        rw [hsz] at this
        exact List.length_eq_one_iff.1 this
      have hx := run_at (P := Try.prog) 46 21 1 Try.underlying46 Try.sizeOf21 (c := c) ha hlt
      have c0 : wr.cell? ⟨b, off + k * d.sz, none⟩ = some y := hcell 0 _ rfl
      rw [hsz, Nat.mul_one] at c0
      rw [Nat.mul_one] at hx
      have hcall := hp wr _ y hB (List.getElem_mem hlt) hK
      clear hcell ha hK hp
      cases hm : p xs[k] with
      | true =>
        rw [hm] at hcall
        have E : Hid _ := idxF_hit p xs k hlt hm hno.out
        clear hm
        go_wp2_with (go_at_fn g; refine hcall.mono ?_; rintro e w' ⟨rfl, hx'⟩)
        go_ret
        exact ⟨ret_int E.out.symm, hB.trans hx'⟩
      | false =>
        rw [hm] at hcall
        have E : Hid _ := take_false hlt hno.out hm
        clear hm
        go_wp2_with (go_at_fn g; refine hcall.mono ?_; rintro e w' ⟨rfl, hx'⟩)
        go_roundg (xs.length - (k + 1))
        case measure => omega
        case rel => exact ⟨k + 1, by omega, by omega, by go_num, E, hB.trans hx'⟩
    · obtain rfl : k = xs.length := by omega
      rw [List.take_length] at hno
      go_wp2
      go_ret
      exact ⟨ret_int (idxF_miss p xs hno.out).symm, hB⟩
theorem containsF_i32 {α : Type} (d : Kd α) (hsz : d.sz = 1) (p : α → Bool) (g : Nat) (lb : Array Value) (eg : ∀ args w, (callFunc g args).run Try.prog w = .ok (.enter g args) w) (xs : List α) (v : Value) (w : World) (h : d.Sl w v xs)
    (hp : ∀ W x y, Ext w W → x ∈ xs → d.K W x [y] → Calls Try.prog g (#[y] ++ lb) W fun e W' => e = .returned (.bool (p x)) ∧ Ext W W') :
    Calls Try.prog 94 #[v, .func (.func g) #[] lb] w fun e w' => e = .returned (.bool (xs.any p)) ∧ Ext w w' := by
  have H := indexF_i32 d hsz p g lb eg xs v w h hp
  have E : Hid _ := idxF_any p xs
  generalize idxF p xs = r at H E
  go_enter Try.func94, Try.ntmps94
  go_wp2_with (go_at_call 108; refine H.mono ?_; rintro e w' ⟨rfl, hx'⟩)
  go_ret
  exact ⟨ret_bool E.out, hx'⟩

set_option maxHeartbeats 1000000 in
/-- slices.IndexFunc, slices.ContainsFunc: elements of one cell. -/
theorem indexF_vec {α : Type} (d : Kd α) (hsz : d.sz = 1) (p : α → Bool) (g : Nat) (lb : Array Value) (eg : ∀ args w, (callFunc g args).run Try.prog w = .ok (.enter g args) w) (xs : List α) (v : Value) (w : World) (h : d.Sl w v xs)
    (hp : ∀ W x y, Ext w W → x ∈ xs → d.K W x [y] → Calls Try.prog g (#[y] ++ lb) W fun e W' => e = .returned (.bool (p x)) ∧ Ext W W') :
    Calls Try.prog 103 #[v, .func (.func g) #[] lb] w fun e w' => e = .returned (.int .i64 (idxF p xs)) ∧ Ext w w' := by
  obtain ⟨a, c, rfl, hc, hl, hr⟩ := h.form
  go_enter Try.func103, Try.ntmps103
  go_wp2
  go_loopg [8] xs.length (fun gg s8 wr => ∃ k : Nat, k ≤ xs.length ∧ xs.length - k ≤ gg ∧ s8 = .int .i64 k ∧ Hid (∀ x ∈ xs.take k, p x = false) ∧ Ext w wr)
  case atStart => exact ⟨0, Nat.zero_le _, by omega, rfl, by simp [Hid], Ext.refl _⟩
  case round =>
    obtain ⟨k, hk, hg, rfl, hno, hB⟩ := hrel
    by_cases hlt : k < xs.length
    · obtain ⟨b, off, cs, ha, hK, hcell⟩ := (hr.ext hB).at_ hlt
      obtain ⟨y, rfl⟩ : ∃ y, cs = [y] := by
        have := d.len hK
        rw [hsz] at this
        exact List.length_eq_one_iff.1 this
      have hx := run_at (P := Try.prog) 22 46 1 Try.underlying22 Try.sizeOf46 (c := c) ha hlt
      have c0 : wr.cell? ⟨b, off + k * d.sz, none⟩ = some y := hcell 0 _ rfl
      rw [hsz, Nat.mul_one] at c0
      rw [Nat.mul_one] at hx
      have hcall := hp wr _ y hB (List.getElem_mem hlt) hK
      clear hcell ha hK hp
      cases hm : p xs[k] with
      | true =>
        rw [hm] at hcall
        have E : Hid _ := idxF_hit p xs k hlt hm hno.out
        clear hm
        go_wp2_with (go_at_fn g; refine hcall.mono ?_; rintro e w' ⟨rfl, hx'⟩)
        go_ret
        exact ⟨ret_int E.out.symm, hB.trans hx'⟩
      | false =>
        rw [hm] at hcall
        have E : Hid _ := take_false hlt hno.out hm
        clear hm
        go_wp2_with (go_at_fn g; refine hcall.mono ?_; rintro e w' ⟨rfl, hx'⟩)
        go_roundg (xs.length - (k + 1))
        case measure => omega
        case rel => exact ⟨k + 1, by omega, by omega, by go_num, E, hB.trans hx'⟩
    · obtain rfl : k = xs.length := by omega
      rw [List.take_length] at hno
      go_wp2
      go_ret
      exact ⟨ret_int (idxF_miss p xs hno.out).symm, hB⟩
theorem containsF_vec {α : Type} (d : Kd α) (hsz : d.sz = 1) (p : α → Bool) (g : Nat) (lb : Array Value) (eg : ∀ args w, (callFunc g args).run Try.prog w = .ok (.enter g args) w) (xs : List α) (v : Value) (w : World) (h : d.Sl w v xs)
    (hp : ∀ W x y, Ext w W → x ∈ xs → d.K W x [y] → Calls Try.prog g (#[y] ++ lb) W fun e W' => e = .returned (.bool (p x)) ∧ Ext W W') :
    Calls Try.prog 85 #[v, .func (.func g) #[] lb] w fun e w' => e = .returned (.bool (xs.any p)) ∧ Ext w w' := by
  have H := indexF_vec d hsz p g lb eg xs v w h hp
  have E : Hid _ := idxF_any p xs
  generalize idxF p xs = r at H E
  go_enter Try.func85, Try.ntmps85
  go_wp2_with (go_at_call 103; refine H.mono ?_; rintro e w' ⟨rfl, hx'⟩)
  go_ret
  exact ⟨ret_bool E.out, hx'⟩

def vBad (x : Int) : Bool := decide (x < -1073741823) || decide (1073741823 < x)
theorem vOk_eq (v : Vec) : vOk v = (decide (1 ≤ v.length) && decide (v.length ≤ 4) && !v.any vBad) := by
  unfold vOk
  congr 1
  rw [List.not_any_eq_all_not]
  congr 1
  funext x
  unfold vBad
  rw [Bool.not_or, ← decide_not, ← decide_not]
  congr 1 <;> congr 1 <;> (apply propext; omega)
theorem bad_any (x : Int) (w : World) : Calls Try.prog 93 #[.int .i32 x] w fun e w' => e = .returned (.bool (vBad x)) ∧ w = w' := by
  unfold vBad
  by_cases h : x < -1073741823
  · have hd : decide (x < -1073741823) = true := by simpa using h
    go_enter Try.func93, Try.ntmps93
    go_wp2
    go_ret
    exact ⟨ret_bool (by simp [hd]), rfl⟩
  · have hd : decide (x < -1073741823) = false := by simpa using h
    go_enter Try.func93, Try.ntmps93
    go_wp2
    go_ret
    exact ⟨ret_bool (by simp [hd]), rfl⟩
theorem vcheck_any (xs : Vec) (v : Value) (w : World) (h : kI32.Sl w v xs) : Calls Try.prog 51 #[v] w fun e w' => e = .returned (.int .i64 (vCheck xs)) ∧ Ext w w' := by
  have H := fun W (hW : Ext w W) => containsF_i32 kI32 rfl vBad 93 #[] (enters_of Try.func93 (by kernel_rfl) rfl) xs v W (h.ext hW) (fun W x y _ _ hK => by
    obtain rfl : y = .int .i32 x := by simpa [Kd.int, Kd.plain] using hK
    refine (bad_any x W).mono ?_; rintro e w' ⟨rfl, rfl⟩; exact ⟨rfl, Ext.refl _⟩)
  have V : Hid (vCheck xs = if (decide (1 ≤ xs.length) && decide (xs.length ≤ 4) && !xs.any vBad) = true then 0 else 150) := by unfold vCheck; rw [vOk_eq]; rfl
  obtain ⟨a, c, rfl, hc, hl, hr⟩ := h.form
  clear hr
  generalize vCheck xs = r at *
  generalize xs.length = n at *
  generalize xs.any vBad = q at *
  by_cases h1 : n < 1
  · have d1 : decide ((n : Int) < 1) = true := by simp; omega
    have d2 : decide (1 ≤ n) = false := by simp; omega
    have E : Hid (r = 150) := by rw [V.out, d2]; rfl
    clear V
    go_enter Try.func51, Try.ntmps51
    go_wp2
    go_ret
    exact ⟨ret_int E.out.symm, Ext.refl _⟩
  · have d1 : decide ((n : Int) < 1) = false := by simp; omega
    have d2 : decide (1 ≤ n) = true := by simp; omega
    by_cases h4 : 4 < n
    · have d3 : decide ((4 : Int) < (n : Int)) = true := by simp; omega
      have d4 : decide (n ≤ 4) = false := by simp; omega
      have E : Hid (r = 150) := by rw [V.out, d2, d4]; rfl
      clear V
      go_enter Try.func51, Try.ntmps51
      go_wp2
      go_ret
      exact ⟨ret_int E.out.symm, Ext.refl _⟩
    · have d3 : decide ((4 : Int) < (n : Int)) = false := by simp; omega
      have d4 : decide (n ≤ 4) = true := by simp; omega
      cases q
      · have E : Hid (r = 0) := by rw [V.out, d2, d4]; rfl
        clear V
        go_enter Try.func51, Try.ntmps51
        go_wp2_with (go_at_call 94; refine (H _ (Ext.refl _)).mono ?_; rintro e w' ⟨rfl, hx'⟩)
        go_ret
        exact ⟨ret_int E.out.symm, hx'⟩
      · have E : Hid (r = 150) := by rw [V.out, d2, d4]; rfl
        clear V
        go_enter Try.func51, Try.ntmps51
        go_wp2_with (go_at_call 94; refine (H _ (Ext.refl _)).mono ?_; rintro e w' ⟨rfl, hx'⟩)
        go_ret
        exact ⟨ret_int E.out.symm, hx'⟩
theorem vof_any (xs : Vec) (dim : Int) (v : Value) (w : World) (h : kI32.Sl w v xs) : Calls Try.prog 84 #[v, .int .i64 dim] w fun e w' => e = .returned (.int .i64 (vOf xs dim)) ∧ Ext w w' := by
  have H := fun W (hW : Ext w W) => vcheck_any xs v W (h.ext hW)
  have V : Hid (vOf xs dim = if vCheck xs = 0 then (if (xs.length : Int) = dim then 0 else 151) else vCheck xs) := by unfold Hid vOf vCheck; cases vOk xs <;> rfl
  have hv : vCheck xs = 0 ∨ vCheck xs = 150 := by unfold vCheck; cases vOk xs <;> simp
  obtain ⟨a, c, rfl, hc, hl, hr⟩ := h.form
  clear hr
  generalize vCheck xs = q at *
  generalize vOf xs dim = r at *
  rcases hv with rfl | rfl
  · by_cases hd : (xs.length : Int) = dim
    · have E : Hid (r = 0) := by rw [V.out, if_pos rfl, if_pos hd]; rfl
      have d1 : ((xs.length : Int) != dim) = false := by simpa using hd
      clear V hd
      go_enter Try.func84, Try.ntmps84
      go_wp2_with (go_at_call 51; refine (H _ (Ext.refl _)).mono ?_; rintro e w' ⟨rfl, hx'⟩)
      go_ret
      exact ⟨ret_int E.out.symm, hx'⟩
    · have E : Hid (r = 151) := by rw [V.out, if_pos rfl, if_neg hd]; rfl
      have d1 : ((xs.length : Int) != dim) = true := by simpa using hd
      clear V hd
      go_enter Try.func84, Try.ntmps84
      go_wp2_with (go_at_call 51; refine (H _ (Ext.refl _)).mono ?_; rintro e w' ⟨rfl, hx'⟩)
      go_ret
      exact ⟨ret_int E.out.symm, hx'⟩
  · have E : Hid (r = 150) := by rw [V.out, if_neg (by omega)]; rfl
    clear V
    go_enter Try.func84, Try.ntmps84
    go_wp2_with (go_at_call 51; refine (H _ (Ext.refl _)).mono ?_; rintro e w' ⟨rfl, hx'⟩)
    go_ret
    exact ⟨ret_int E.out.symm, hx'⟩
/-- The kind of a row of rows: how an element stands. -/
theorem vec_cell {w : World} {x : Vec} {y : Value} (h : kVec.K w x [y]) : kI32.Sl w y x := h
theorem all1_any (l : List Vec) (lv : Value) (B : Nat) (x : Vec) (y : Value) (w : World) (hB : w.cell? ⟨B, 0, none⟩ = some lv) (hl : kVec.Sl w lv l) (hne : 0 < l.length) (h : kI32.Sl w y x) :
    Calls Try.prog 91 #[y, .pointer (some ⟨B, 0, none⟩)] w fun e w' => e = .returned (.bool (!(x.length == (l.headD []).length))) ∧ w = w' := by
  obtain ⟨a, c, rfl, hc, hl1, hr⟩ := hl.form
  obtain ⟨a2, c2, rfl, hc2, hl2, hr2⟩ := h.form
  obtain ⟨b, off, cs, ha, ⟨a3, c3, rfl, hc3, hl3, hr3⟩, hcell⟩ := hr.at_ hne
  have hx := run_at (P := Try.prog) 22 46 1 Try.underlying22 Try.sizeOf46 (c := c) ha hne
  have c0 : w.cell? ⟨b, off + 0 * 1, none⟩ = _ := hcell 0 _ rfl
  simp only [Nat.zero_mul, Nat.add_zero, Int.natCast_zero] at hx c0
  have e0 : l.headD [] = l[0] := by cases l with | nil => simp at hne | cons => rfl
  rw [e0]
  have hn : (((x.length : Int) != (l[0].length : Int))) = !(x.length == l[0].length) := by
    rw [Bool.eq_iff_iff]; simp; omega
  clear hr hr2 hr3 hcell ha
  generalize l[0].length = n at *
  generalize x.length = m at *
  have hn' : Hid _ := hn
  clear hn
  go_enter Try.func91, Try.ntmps91
  go_wp2
  go_ret
  exact ⟨ret_bool hn'.out, rfl⟩

end Go.Proofs.Ytiolpknfdabijaa
