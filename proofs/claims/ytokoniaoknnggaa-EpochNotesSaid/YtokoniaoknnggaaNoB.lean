/- EpochNotes: Notes.Marks, the world at the beginning. -/
import Derived.Test.YtokoniaoknnggaaNoA
import Derived.Lib.SliceRun
namespace Go.Proofs.Ytokoniaoknnggaa
open Go.RowKit
set_option linter.unusedVariables false
set_option linter.unusedSimpArgs false

theorem mks_one : ∀ L : List (Int × Int), ∀ u ∈ mks L, u.oneCell' = true
  | [], u, h => by simp [mks] at h
  | a :: l, u, h => by
    have h2 : u ∈ [Value.int .u8 a.1, .int .i64 a.2] ++ mks l := h
    rcases List.mem_append.1 h2 with h3 | h3
    · simp only [List.mem_cons, List.not_mem_nil, or_false] at h3
      rcases h3 with rfl | rfl <;> rfl
    · exact mks_one l u h3
set_option maxRecDepth 100000 in
theorem clone_c (B : Nat) (v : Value) (L : List (Int × Int)) (hl : L.length < 1000000) (w : World) (h : w.ownsRow B 109 2 v L.length (mks L)) :
    Calls Try.prog 45 #[v] w fun e w' => ∃ v', e = .returned v' ∧ w'.ownsRow w.heap.size 109 2 v' L.length (mks L) ∧ Sm (fun _ => False) w w' := by
  obtain ⟨im, him, hm0, hm1, hm2⟩ := info_parts info_mark
  have HIM := Lib.hid (show Try.prog.info? 109 = some im ∧ im.zero = some (.agg #[.int .u8 0, .int .i64 0]) ∧ im.size = 2 ∧ im.bytes = 16 from ⟨him, hm0, hm1, hm2⟩)
  have HH := Lib.hid h
  clear him hm0 hm1 hm2
  obtain ⟨hx, h2⟩ := h
  rcases h2 with ⟨rfl, hz⟩ | ⟨g, cap, cur, rfl, hg, hh, hnc, -⟩
  · have hL : L = [] := List.eq_nil_of_length_eq_zero hz
    subst hL
    have heq : ∀ W : World, (binOp BinOp.eql 41 (.slice none 0 0) (.slice none 0 0)).run Try.prog W = .ok (.bool true) W := fun W => Go.Lib.run_eql_slice_nil W _ _ _ _ _ _ _ Try.underlying41
    go_enter Try.func45, Try.ntmps45
    go_wp2_with fail
    go_ret
    exact ⟨_, rfl, World.ownsRow_nil _ _ _ _, Sm.refl _ _⟩
  · have hc := HH.out.cells rfl
    have heq : ∀ W : World, (binOp BinOp.eql 41 (.slice (some ⟨g, 0, none⟩) L.length cap) (.slice none 0 0)).run Try.prog W = .ok (.bool false) W := fun W => Go.Lib.run_eql_slice_nil W _ _ _ _ _ _ _ Try.underlying41
    clear hh
    go_enter Try.func45, Try.ntmps45
    go_wp2_with (at_builtin; refine wpList_append_own_at _ rfl (.tmp 5) (.tmp 6) 41 rfl w.heap.size 109 im (.agg #[.int .u8 0, .int .i64 0]) 2 16 Try.underlying41 HIM.out.1 HIM.out.2.1 HIM.out.2.2.1 HIM.out.2.2.2 rfl (by decide) _ 0 [] rfl (World.ownsRow_lit w #[] 0 (Nat.le_refl _) (by decide) rfl) ⟨g, 0, none⟩ L.length cap (mks L) (by simp [Act.eval, Act.put]) hx (fun j u hu => ((Sm.refl (fun _ => False) w).alloc _).cell (World.block_lt_of_cell? w _ (hc j u hu)) (fun h => h) |>.trans (hc j u hu)) (by intro u hu; exact mks_one L u hu) (by unfold maxLen; omega) (by omega) (by simp) ?_)
    intro v' w' hown hg' _ _
    try simp only [Nat.zero_add, List.nil_append] at hown
    have HO := Lib.hid hown
    have HS := Lib.hid (show Sm (fun _ => False) w w' from (((Sm.refl (fun b => b = w.heap.size) w).alloc _).trans (sm_grown hg' (fun b e => by cases e; rfl))).new (fun b hb => by omega))
    clear hown hg'
    go_wp2_with fail
    go_ret
    exact ⟨_, rfl, HO.out, HS.out⟩
set_option maxRecDepth 100000 in
theorem marks_c (nb : Nat) (L : List (Int × Int)) (hl : L.length < 1000000) (w : World) (h : Noted nb w L) :
    Calls Try.prog 16 #[.pointer (some ⟨nb, 0, none⟩)] w fun e w' => ∃ v', e = .returned v' ∧ w'.ownsRow w.heap.size 109 2 v' L.length (mks L) ∧ Sm (fun _ => False) w w' := by
  obtain ⟨v, h1, h2⟩ := h
  obtain ⟨a, c, hv⟩ := own_form0 h2
  subst hv
  have c0 : w.cell? ⟨nb, 0, none⟩ = some (.bool true) := h1.cell 0
  have c1 : w.cell? ⟨nb, 1, none⟩ = some (.slice a L.length c) := h1.cell 1
  have HC := Lib.hid (clone_c (nb + 1) _ L hl w h2)
  clear h1 h2
  go_enter Try.func16, Try.ntmps16
  go_wp2_with fail
  refine HC.out.mono ?_
  rintro e w1 ⟨v', rfl, h3, h4⟩
  have H3 := Lib.hid h3
  have H4 := Lib.hid h4
  clear h3 h4
  go_wp2_with fail
  go_ret
  exact ⟨_, rfl, H3.out, H4.out⟩
theorem made_one (n : Nat) (v : Value) : madeCells #[v] n = (List.replicate n v).toArray := by
  apply Array.ext'
  rw [toList_madeCells_one]
theorem make_words (n : Nat) (hn : n ≤ 100) (w : World) :
    (Instr.makeSlice 36 (.int .i64 (1 + (n : Int))) (.int .i64 (1 + (n : Int)))).run Try.prog w = .ok (.slice (some ⟨w.heap.size, 0, none⟩) (n + 1) (n + 1)) (w.alloc (.cells (u64L (List.replicate (n + 1) 0)).toArray 38)) := by
  obtain ⟨i0, hi, hz0, hz1, hz2⟩ := info_parts info_u64
  have h := run_makeSlice (P := Try.prog) w 36 38 i0 _ Try.underlying36 hi hz0 .i64 .i64 ((n + 1 : Nat) : Int) ((n + 1 : Nat) : Int) (by omega) (by omega) (by rw [hz1]; omega) (by rw [hz2]; omega) (by omega)
  rw [hz1] at h
  simp only [Int.toNat_natCast] at h
  have e : madeCells (Value.int .u64 0).cells ((n + 1) * 1) = (u64L (List.replicate (n + 1) 0)).toArray := by
    have := made_one (n + 1) (.int .u64 0)
    simp only [Value.cells]
    rw [Nat.mul_one, this]
    simp [u64L]
  rw [e] at h
  have e2 : ((n + 1 : Nat) : Int) = 1 + (n : Int) := by omega
  rw [e2] at h
  exact h
set_option maxRecDepth 100000 in
theorem rwords_c (n : Nat) (hn : n ≤ 16) (w : World) : Calls Try.prog 36 #[.int .i64 (n : Int)] w fun e w' => ∃ v, e = .returned v ∧ w'.ownsRow w.heap.size 38 1 v (n + 1) (u64L (1 :: List.replicate n 0)) ∧ Sm (fun _ => False) w w' := by
  have hm : ∀ W : World, (Instr.makeSlice 36 (.int .i64 (1 + (n : Int))) (.int .i64 (1 + (n : Int)))).run Try.prog W = .ok (.slice (some ⟨W.heap.size, 0, none⟩) (n + 1) (n + 1)) (W.alloc (.cells (u64L (List.replicate (n + 1) 0)).toArray 38)) := fun W => make_words n (by omega) W
  obtain ⟨w1, hw1⟩ : ∃ w1, w1 = w.alloc (.cells (u64L (List.replicate (n + 1) 0)).toArray 38) := ⟨_, rfl⟩
  have r1 : Row w1 w.heap.size (u64L (List.replicate (n + 1) 0)).toArray 38 := by rw [hw1]; exact Row.new _ _ _
  have c0 : w1.cell? ⟨w.heap.size, 0, none⟩ = some (.int .u64 0) := (r1.cell 0).trans (by simp [u64L, List.replicate_succ])
  have f0 : w1.frozen? ⟨w.heap.size, 0, none⟩ = false := r1.free 0
  have hfin : (w1.setCell ⟨w.heap.size, 0, none⟩ (.int .u64 1)).ownsRow w.heap.size 38 1 (.slice (some ⟨w.heap.size, 0, none⟩) (n + 1) (n + 1)) (n + 1) (u64L (1 :: List.replicate n 0)) := by
    refine ⟨by simp [u64L], .inr ⟨w.heap.size, n + 1, _, rfl, Nat.le_refl _, r1.set 0 (.int .u64 1), Nat.le_refl _, by unfold maxLen; omega, by simp [u64L], ?_⟩⟩
    rw [List.take_of_length_le (by simp [u64L])]
    simp [u64L, List.replicate_succ]
  have HF := Lib.hid hfin
  have HS := Lib.hid (show Sm (fun _ => False) w (w1.setCell ⟨w.heap.size, 0, none⟩ (.int .u64 1)) by rw [hw1]; exact ((Sm.refl _ _).alloc _).setNew (by simp) _)
  have HW1 := Lib.hid hw1
  have j1 : (0 : Int) < 1 + (n : Int) := by omega
  clear hfin r1 hw1
  go_enter Try.func36, Try.ntmps36
  go_upto_region 2 with fail
  rw [← HW1.out]
  go_wp2_with fail
  go_ret
  exact ⟨_, rfl, HF.out, HS.out⟩
set_option maxRecDepth 100000 in
theorem rworld_c (n : Nat) (hn : n ≤ 16) (w : World) : Calls Try.prog 9 #[.int .i64 (n : Int)] w fun e w' => ∃ vW vL, e = .returned (.agg #[vW, vL]) ∧ WV w.heap.size vW vL [1 :: List.replicate n 0] 1 w' ∧ Sm (fun _ => False) w w' := by
  obtain ⟨w0, hw0⟩ : ∃ w0 : World, w0 = w.alloc (.cells #[.slice none 0 0, .slice none 0 0] 32) := ⟨_, rfl⟩
  have r0 : Row w0 w.heap.size #[.slice none 0 0, .slice none 0 0] 32 := by rw [hw0]; exact Row.new _ _ _
  have k0 : Sm (fun _ => False) w w0 := by rw [hw0]; exact (Sm.refl _ _).alloc _
  have z0 : w0.heap.size = w.heap.size + 1 := by rw [hw0]; simp
  have HC := Lib.hid (rwords_c n hn w0)
  have HR := Lib.hid (show _ ∧ _ ∧ _ from ⟨r0, k0, z0⟩)
  have HW0 := Lib.hid hw0
  clear r0 k0 z0 hw0
  go_enter Try.func9, Try.ntmps9
  go_wp2_with fail
  rw [← HW0.out]
  refine HC.out.mono ?_
  rintro e w1 ⟨v, rfl, h1, k1⟩
  obtain ⟨a, c, hv⟩ := own_form0 h1
  subst hv
  obtain ⟨w2, hw2⟩ : ∃ w2 : World, w2 = (w1.alloc (.cells #[.slice a (n + 1) c] 36)).alloc (.cells #[.slice none 0 0] 178) := ⟨_, rfl⟩
  have q1 : Row w2 w1.heap.size #[.slice a (n + 1) c] 36 := by rw [hw2]; exact (Row.new _ _ _).alloc _
  have q2 : Row w2 (w1.heap.size + 1) #[.slice none 0 0] 178 := by
    rw [hw2]
    have := Row.new (w1.alloc (.cells #[.slice a (n + 1) c] 36)) #[.slice none 0 0] 178
    simpa using this
  have k2 : Sm (fun _ => False) w1 w2 := by rw [hw2]; exact ((Sm.refl _ _).alloc _).alloc _
  have r2 := (HR.out.1.sm k1 (fun h => h)).sm k2 (fun h => h)
  obtain ⟨w3, hw3⟩ : ∃ w3 : World, w3 = w2.setRow w.heap.size #[.slice (some ⟨w1.heap.size, 0, none⟩) 1 1, .slice (some ⟨w1.heap.size + 1, 0, none⟩) 1 1] := ⟨_, rfl⟩
  have k3 : Sm (fun b => b = w.heap.size) w2 w3 := by rw [hw3]; exact ⟨rfl, rfl, rfl, by simp [World.setRow], fun k hk hf => setRow_other _ _ k _ hf⟩
  have r3 : Row w3 w.heap.size #[.slice (some ⟨w1.heap.size, 0, none⟩) 1 1, .slice (some ⟨w1.heap.size + 1, 0, none⟩) 1 1] 32 := by rw [hw3]; exact r2.setRow
  have z1 : w.heap.size + 1 ≤ w1.heap.size := by have := k1.size; have := HR.out.2.2; omega
  have HV := Lib.hid (show WV w.heap.size (.slice (some ⟨w1.heap.size, 0, none⟩) 1 1) (.slice (some ⟨w1.heap.size + 1, 0, none⟩) 1 1) [1 :: List.replicate n 0] 1 w3 from by
    have q1' := q1.sm k3 (by omega)
    have q2' := q2.sm k3 (by omega)
    refine ⟨⟨[.slice a (n + 1) c], ⟨rfl, .inr ⟨w1.heap.size, 1, _, rfl, by omega, q1', Nat.le_refl _, by decide, rfl, rfl⟩⟩, fun i l v hl hv => ?_, fun i j vi vj b hi hj _ _ => ?_⟩, ⟨rfl, .inr ⟨w1.heap.size + 1, 1, _, rfl, by omega, q2', Nat.le_refl _, by decide, rfl, rfl⟩⟩, by simp⟩
    · cases i with
      | zero =>
        simp only [List.getElem?_cons_zero, Option.some.injEq] at hl hv
        subst hl hv
        have e : (1 :: List.replicate n 0).length = n + 1 := by simp
        rw [e]
        exact ⟨own_base (own_smF (own_smF h1 k2 (fun _ _ h => h)) k3 (fun b hb e => by have := (h1.lt b hb).1; have := HR.out.2.2; omega)) (fun b hb => by have := (h1.lt b hb).1; have := HR.out.2.2; omega), by omega, by omega⟩
      | succ m => simp at hl
    · cases i with
      | zero => cases j with
        | zero => rfl
        | succ m => simp at hj
      | succ m => simp at hi)
  have HS := Lib.hid (show Sm (fun _ => False) w w3 from ((((HR.out.2.1.trans k1).trans k2).mono (F' := fun b => b = w.heap.size) (fun _ h => h.elim)).trans k3).new (fun b hb => by omega))
  have HR2 := Lib.hid r2
  have HR3 := Lib.hid r3
  have HW2 := Lib.hid hw2
  have HW3 := Lib.hid hw3
  clear h1 k1 q1 q2 k2 r2 k3 r3 hw2 hw3
  go_wp2_with (refine wpList_store_row rfl 32 (.tmp 2) (.tmp 7) rfl w.heap.size #[.slice (some ⟨w1.heap.size, 0, none⟩) 1 1, .slice (some ⟨w1.heap.size + 1, 0, none⟩) 1 1] (by simp [Act.eval, Act.put]) (by simp [Act.eval, Act.put]) 32 _ (by rw [← HW2.out]; exact HR2.out) (by kernel_rfl) (by rfl) (by simp [Value.oneCell']) ?_; rw [← HW2.out, ← HW3.out])
  refine bodyPost_ret (results_cell_row rfl _ _ w.heap.size 32 _ (0, 0) _ rfl HR3.out Try.underlying32 rfl (by kernel_rfl)) rfl ?_
  exact ⟨_, _, rfl, HV.out, HS.out⟩
end Go.Proofs.Ytokoniaoknnggaa
