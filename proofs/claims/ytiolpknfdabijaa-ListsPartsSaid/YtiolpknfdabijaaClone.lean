/- slices.Clone at the rows of this seat. -/
import Derived.Test.YtiolpknfdabijaaProg
import Derived.Test.YtiolpknfdabijaaLib
import Derived.Test.YtiolpknfdabijaaPure
import Derived.Test.YtiolpknfdabijaaLib2
set_option linter.unusedVariables false
set_option maxRecDepth 4000
set_option linter.unusedSimpArgs false
namespace Go.Proofs.Ytiolpknfdabijaa
open Go.RowKit


theorem info_i32 : (Try.prog.info? 21).map (fun i => (i.zero, i.size, i.bytes)) = some (some (.int .i32 0), 1, 4) := by kernel_rfl
set_option maxHeartbeats 1000000 in
/-- slices.Clone of a row that is not empty: a row of the call's own. -/
theorem clone_i32 (b off n c : Nat) (news : List Value) (w : World) (hl : news.length = n * 1) (hnews : ∀ j u, news[j]? = some u → w.cell? ⟨b, off + j, none⟩ = some u) (h1 : ∀ u ∈ news, u.oneCell' = true) (hn : n * 4 ≤ 140737488355328) :
    Calls Try.prog 69 #[.slice (some ⟨b, off, none⟩) n c] w fun e w' => ∃ v', e = .returned v' ∧ w'.ownsRow w.heap.size 21 1 v' n news ∧ v' ≠ .slice none 0 0 ∧ Ext w w' := by
  obtain ⟨i0, hinf, hz0, hz1, hz2⟩ := info_parts info_i32
  have hmax : 140737488355328 ≤ maxLen := by decide
  have hown : (w.alloc (.cells #[] 21)).ownsRow w.heap.size 21 1 (.slice (some ⟨w.heap.size, 0, none⟩) 0 0) 0 [] := ⟨by simp, .inr ⟨w.heap.size, 0, #[], rfl, Nat.le_refl _, heap_alloc_new w _, Nat.le_refl _, by simp, by simp, by simp⟩⟩
  have hnews' : ∀ j u, news[j]? = some u → (w.alloc (.cells #[] 21)).cell? ((⟨b, off, none⟩ : Addr).add j) = some u := fun j u hj => by
    have e : (⟨b, off, none⟩ : Addr).add j = ⟨b, off + j, none⟩ := by unfold Addr.add; split <;> simp_all
    rw [e]
    exact ((Ext.refl w).alloc (.cells #[] 21)).cellS (hnews j u hj)
  have heq : ∀ W, (binOp .eql 46 (.slice (some ⟨b, off, none⟩) n c) (.slice none 0 0)).run Try.prog W = .ok (.bool false) W := fun W => by kernel_rfl
  go_enter Try.func69, Try.ntmps69
  go_wp2_with (at_builtin; refine wpList_append_own _ rfl _ _ 46 rfl w.heap.size 21 i0 (.int .i32 0) 1 4 Try.underlying46 hinf hz0 hz1 hz2 rfl (by decide) _ 0 [] rfl hown ⟨b, off, none⟩ n c news rfl hl hnews' h1 (by omega) (by omega) (by simp) ?_; intro v' w1 hown' hgrow hnil)
  go_ret
  rw [Nat.zero_add, List.nil_append] at hown'
  exact ⟨v', rfl, hown', fun e => by have h0 : (Value.slice (some ⟨w.heap.size, 0, none⟩) 0 0) = .slice none 0 0 := (hnil.1 e).1; simp at h0, ((Ext.refl w).alloc _).append hown (by simp) hgrow⟩

theorem info_cell : (Try.prog.info? 50).map (fun i => (i.zero, i.size, i.bytes)) = some (some (.agg #[.bool false, .int .u64 0, .int .u64 0, .int .u64 0, .slice none 0 0]), 5, 56) := by kernel_rfl
set_option maxHeartbeats 1000000 in
/-- slices.Clone of a row that is not empty: a row of the call's own. -/
theorem clone_cell (b off n c : Nat) (news : List Value) (w : World) (hl : news.length = n * 5) (hnews : ∀ j u, news[j]? = some u → w.cell? ⟨b, off + j, none⟩ = some u) (h1 : ∀ u ∈ news, u.oneCell' = true) (hn : n * 56 ≤ 140737488355328) :
    Calls Try.prog 101 #[.slice (some ⟨b, off, none⟩) n c] w fun e w' => ∃ v', e = .returned v' ∧ w'.ownsRow w.heap.size 50 5 v' n news ∧ v' ≠ .slice none 0 0 ∧ Ext w w' := by
  obtain ⟨i0, hinf, hz0, hz1, hz2⟩ := info_parts info_cell
  have hmax : 140737488355328 ≤ maxLen := by decide
  have hown : (w.alloc (.cells #[] 50)).ownsRow w.heap.size 50 5 (.slice (some ⟨w.heap.size, 0, none⟩) 0 0) 0 [] := ⟨by simp, .inr ⟨w.heap.size, 0, #[], rfl, Nat.le_refl _, heap_alloc_new w _, Nat.le_refl _, by simp, by simp, by simp⟩⟩
  have hnews' : ∀ j u, news[j]? = some u → (w.alloc (.cells #[] 50)).cell? ((⟨b, off, none⟩ : Addr).add j) = some u := fun j u hj => by
    have e : (⟨b, off, none⟩ : Addr).add j = ⟨b, off + j, none⟩ := by unfold Addr.add; split <;> simp_all
    rw [e]
    exact ((Ext.refl w).alloc (.cells #[] 50)).cellS (hnews j u hj)
  have heq : ∀ W, (binOp .eql 37 (.slice (some ⟨b, off, none⟩) n c) (.slice none 0 0)).run Try.prog W = .ok (.bool false) W := fun W => by kernel_rfl
  go_enter Try.func101, Try.ntmps101
  go_wp2_with (at_builtin; refine wpList_append_own _ rfl _ _ 37 rfl w.heap.size 50 i0 (.agg #[.bool false, .int .u64 0, .int .u64 0, .int .u64 0, .slice none 0 0]) 5 56 Try.underlying37 hinf hz0 hz1 hz2 rfl (by decide) _ 0 [] rfl hown ⟨b, off, none⟩ n c news rfl hl hnews' h1 (by omega) (by omega) (by simp) ?_; intro v' w1 hown' hgrow hnil)
  go_ret
  rw [Nat.zero_add, List.nil_append] at hown'
  exact ⟨v', rfl, hown', fun e => by have h0 : (Value.slice (some ⟨w.heap.size, 0, none⟩) 0 0) = .slice none 0 0 := (hnil.1 e).1; simp at h0, ((Ext.refl w).alloc _).append hown (by simp) hgrow⟩

theorem info_vec : (Try.prog.info? 46).map (fun i => (i.zero, i.size, i.bytes)) = some (some (.slice none 0 0), 1, 24) := by kernel_rfl
set_option maxHeartbeats 1000000 in
/-- slices.Clone of a row that is not empty: a row of the call's own. -/
theorem clone_vec (b off n c : Nat) (news : List Value) (w : World) (hl : news.length = n * 1) (hnews : ∀ j u, news[j]? = some u → w.cell? ⟨b, off + j, none⟩ = some u) (h1 : ∀ u ∈ news, u.oneCell' = true) (hn : n * 24 ≤ 140737488355328) :
    Calls Try.prog 40 #[.slice (some ⟨b, off, none⟩) n c] w fun e w' => ∃ v', e = .returned v' ∧ w'.ownsRow w.heap.size 46 1 v' n news ∧ v' ≠ .slice none 0 0 ∧ Ext w w' := by
  obtain ⟨i0, hinf, hz0, hz1, hz2⟩ := info_parts info_vec
  have hmax : 140737488355328 ≤ maxLen := by decide
  have hown : (w.alloc (.cells #[] 46)).ownsRow w.heap.size 46 1 (.slice (some ⟨w.heap.size, 0, none⟩) 0 0) 0 [] := ⟨by simp, .inr ⟨w.heap.size, 0, #[], rfl, Nat.le_refl _, heap_alloc_new w _, Nat.le_refl _, by simp, by simp, by simp⟩⟩
  have hnews' : ∀ j u, news[j]? = some u → (w.alloc (.cells #[] 46)).cell? ((⟨b, off, none⟩ : Addr).add j) = some u := fun j u hj => by
    have e : (⟨b, off, none⟩ : Addr).add j = ⟨b, off + j, none⟩ := by unfold Addr.add; split <;> simp_all
    rw [e]
    exact ((Ext.refl w).alloc (.cells #[] 46)).cellS (hnews j u hj)
  have heq : ∀ W, (binOp .eql 22 (.slice (some ⟨b, off, none⟩) n c) (.slice none 0 0)).run Try.prog W = .ok (.bool false) W := fun W => by kernel_rfl
  go_enter Try.func40, Try.ntmps40
  go_wp2_with (at_builtin; refine wpList_append_own _ rfl _ _ 22 rfl w.heap.size 46 i0 (.slice none 0 0) 1 24 Try.underlying22 hinf hz0 hz1 hz2 rfl (by decide) _ 0 [] rfl hown ⟨b, off, none⟩ n c news rfl hl hnews' h1 (by omega) (by omega) (by simp) ?_; intro v' w1 hown' hgrow hnil)
  go_ret
  rw [Nat.zero_add, List.nil_append] at hown'
  exact ⟨v', rfl, hown', fun e => by have h0 : (Value.slice (some ⟨w.heap.size, 0, none⟩) 0 0) = .slice none 0 0 := (hnil.1 e).1; simp at h0, ((Ext.refl w).alloc _).append hown (by simp) hgrow⟩

end Go.Proofs.Ytiolpknfdabijaa
