/- The reference's programs for a domain: Pin, Unpin. -/
import Derived.Test.YtokoniaoknnggaaProA
namespace Go.Proofs.Ytokoniaoknnggaa
open Go.RowKit
set_option linter.unusedVariables false
set_option linter.unusedSimpArgs false

set_option maxRecDepth 100000 in
set_option maxHeartbeats 6400000 in
theorem rpin_c (s : Nat) (hs : s < 16) (w : World) : Calls Try.prog 41 #[.int .i64 (s : Int)] w (ProgEnd (pinP s ++ tell2) w) := by
  obtain ⟨w0, hw0⟩ : ∃ w0 : World, w0 = w.alloc (.cells #[.slice none 0 0, .slice none 0 0] 46) := ⟨_, rfl⟩
  have r0 : Row w0 w.heap.size #[.slice none 0 0, .slice none 0 0] 46 := by rw [hw0]; exact Row.new _ _ _
  have k0 : Sm (fun _ => False) w w0 := by rw [hw0]; exact (Sm.refl _ _).alloc _
  have z0 : w0.heap.size = w.heap.size + 1 := by rw [hw0]; simp
  obtain ⟨ii, hii, hi0, hi1, hi2⟩ := info_parts info_instr
  have HI := Lib.hid (show Try.prog.info? 161 = some ii ∧ ii.zero = some (.agg zeroI) ∧ ii.size = 7 ∧ ii.bytes = 56 from ⟨hii, hi0, hi1, hi2⟩)
  have HW0 := Lib.hid hw0
  have HC := Lib.hid (pinCode_c s hs w0)
  have HR := Lib.hid (show _ ∧ _ ∧ _ from ⟨r0, k0, z0⟩)
  have HLEN := Lib.hid (show (pinP s).length < 1000 by simp [pinP])
  clear hw0 r0 k0 z0 hii hi0 hi1 hi2
  go_enter Try.func41, Try.ntmps41
  go_wp2_with fail
  rw [← HW0.out]
  refine HC.out.mono ?_
  rintro e w1 ⟨cd, rfl, hown, k1⟩
  have hown' := own_base (B' := w.heap.size + 1) hown (fun b hb => by have := (hown.lt b hb).1; have := HR.out.2.2; omega)
  obtain ⟨ac, cc, hcd⟩ := own_form0 hown
  subst hcd
  have HO := Lib.hid hown'
  have HK := Lib.hid k1
  have HZ := Lib.hid (show w.heap.size + 1 ≤ w1.heap.size by have := k1.size; have := HR.out.2.2; omega)
  clear hown hown' k1
  go_wp2_with (at_builtin; refine wpList_append_own_at _ rfl (.tmp 4) (.tmp 7) 44 rfl (w.heap.size + 1) 161 ii (.agg zeroI) 7 56 Try.underlying44 HI.out.1 HI.out.2.1 HI.out.2.2.1 HI.out.2.2.2 rfl (by decide) _ (pinP s).length (flatI (pinP s)) rfl (HO.out.alloc _) ⟨w1.heap.size, 0, none⟩ 2 2 (flatI tell2) (by simp [Act.eval, Act.put]) rfl (new_cells w1 (flatI tell2) 161) (flatI_one _) (by have := HLEN.out; unfold maxLen; omega) (by have := HLEN.out; omega) (by have := HZ.out; simp; omega) ?_)
  intro v2 w2 hown2 hg2 _ _
  obtain ⟨a2, c2, hv2⟩ := own_form0 hown2
  subst hv2
  have HM := Lib.hid (code_more (P := w.heap.size) (m := tell2) rfl HO.out (HR.out.2.1.trans HK.out) (HR.out.1.sm HK.out (fun h => h)) hg2 hown2)
  have HROW := Lib.hid (HM.out.1.setRow (c' := #[.slice a2 ((pinP s).length + 2) c2, .slice none 0 0]))
  clear hown2 hg2
  go_wp2_with (refine wpList_store_row rfl 46 (.tmp 2) (.tmp 9) rfl w.heap.size #[.slice a2 ((pinP s).length + 2) c2, .slice none 0 0] (by simp [Act.eval, Act.put]) (by simp [Act.eval, Act.put]) 46 _ HM.out.1 (by kernel_rfl) (by rfl) (by simp [Value.oneCell']) ?_)
  refine bodyPost_ret (results_cell_row rfl _ _ w.heap.size 46 _ (0, 0) _ rfl HROW.out Try.underlying46 rfl (by kernel_rfl)) rfl ?_
  exact HM.out.2
set_option maxRecDepth 100000 in
set_option maxHeartbeats 6400000 in
theorem runpin_c (s : Nat) (hs : s < 16) (w : World) : Calls Try.prog 42 #[.int .i64 (s : Int)] w (ProgEnd (unpinP s ++ tell1) w) := by
  obtain ⟨w0, hw0⟩ : ∃ w0 : World, w0 = w.alloc (.cells #[.slice none 0 0, .slice none 0 0] 46) := ⟨_, rfl⟩
  have r0 : Row w0 w.heap.size #[.slice none 0 0, .slice none 0 0] 46 := by rw [hw0]; exact Row.new _ _ _
  have k0 : Sm (fun _ => False) w w0 := by rw [hw0]; exact (Sm.refl _ _).alloc _
  have z0 : w0.heap.size = w.heap.size + 1 := by rw [hw0]; simp
  obtain ⟨ii, hii, hi0, hi1, hi2⟩ := info_parts info_instr
  have HI := Lib.hid (show Try.prog.info? 161 = some ii ∧ ii.zero = some (.agg zeroI) ∧ ii.size = 7 ∧ ii.bytes = 56 from ⟨hii, hi0, hi1, hi2⟩)
  have HW0 := Lib.hid hw0
  have HC := Lib.hid (unpinCode_c s hs w0)
  have HR := Lib.hid (show _ ∧ _ ∧ _ from ⟨r0, k0, z0⟩)
  have HLEN := Lib.hid (show (unpinP s).length < 1000 by simp [unpinP])
  clear hw0 r0 k0 z0 hii hi0 hi1 hi2
  go_enter Try.func42, Try.ntmps42
  go_wp2_with fail
  rw [← HW0.out]
  refine HC.out.mono ?_
  rintro e w1 ⟨cd, rfl, hown, k1⟩
  have hown' := own_base (B' := w.heap.size + 1) hown (fun b hb => by have := (hown.lt b hb).1; have := HR.out.2.2; omega)
  obtain ⟨ac, cc, hcd⟩ := own_form0 hown
  subst hcd
  have HO := Lib.hid hown'
  have HK := Lib.hid k1
  have HZ := Lib.hid (show w.heap.size + 1 ≤ w1.heap.size by have := k1.size; have := HR.out.2.2; omega)
  clear hown hown' k1
  go_wp2_with (at_builtin; refine wpList_append_own_at _ rfl (.tmp 4) (.tmp 6) 44 rfl (w.heap.size + 1) 161 ii (.agg zeroI) 7 56 Try.underlying44 HI.out.1 HI.out.2.1 HI.out.2.2.1 HI.out.2.2.2 rfl (by decide) _ (unpinP s).length (flatI (unpinP s)) rfl (HO.out.alloc _) ⟨w1.heap.size, 0, none⟩ 1 1 (flatI tell1) (by simp [Act.eval, Act.put]) rfl (new_cells w1 (flatI tell1) 161) (flatI_one _) (by have := HLEN.out; unfold maxLen; omega) (by have := HLEN.out; omega) (by have := HZ.out; simp; omega) ?_)
  intro v2 w2 hown2 hg2 _ _
  obtain ⟨a2, c2, hv2⟩ := own_form0 hown2
  subst hv2
  have HM := Lib.hid (code_more (P := w.heap.size) (m := tell1) rfl HO.out (HR.out.2.1.trans HK.out) (HR.out.1.sm HK.out (fun h => h)) hg2 hown2)
  have HROW := Lib.hid (HM.out.1.setRow (c' := #[.slice a2 ((unpinP s).length + 1) c2, .slice none 0 0]))
  clear hown2 hg2
  go_wp2_with (refine wpList_store_row rfl 46 (.tmp 2) (.tmp 8) rfl w.heap.size #[.slice a2 ((unpinP s).length + 1) c2, .slice none 0 0] (by simp [Act.eval, Act.put]) (by simp [Act.eval, Act.put]) 46 _ HM.out.1 (by kernel_rfl) (by rfl) (by simp [Value.oneCell']) ?_)
  refine bodyPost_ret (results_cell_row rfl _ _ w.heap.size 46 _ (0, 0) _ rfl HROW.out Try.underlying46 rfl (by kernel_rfl)) rfl ?_
  exact HM.out.2
end Go.Proofs.Ytokoniaoknnggaa
