/- The reference machine: own leaves jumps and tells to turns. -/
import Derived.Test.YtokoniaoknnggaaMacD
namespace Go.Proofs.Ytokoniaoknnggaa
open Go.RowKit
set_option linter.unusedVariables false
set_option linter.unusedSimpArgs false

set_option maxRecDepth 100000 in
set_option maxHeartbeats 3200000 in
theorem own_turns18 (T : Nat) (vc : Value) (call at_ : Nat) (r : List Nat) (va : Value) (over : Bool) (pw : Value) (x : In) (hd : x.d = 18) (hat : at_ < 999999) (w : World) (hT : Thr T vc call at_ r va over w) (R : World → Prop)
    (H : ∀ w2, Thr T vc call (at_ + 1) r va over w2 → Sm (fun b => b = T) w w2 → Calls Try.prog 94 #[.pointer (some ⟨T, 0, none⟩), pw, .agg (instrC x).toArray] w2 fun e w' => e = .returned (.tuple #[]) ∧ R w') :
    Calls Try.prog 82 #[.pointer (some ⟨T, 0, none⟩), pw, .agg (instrC x).toArray] w fun e w' => e = .returned (.tuple #[]) ∧ R w' := by
  obtain ⟨d, o, a, b, c, e, n⟩ := x
  simp only at hd
  subst hd
  have HH := Lib.hid H
  clear H
  have hTl := hT.row.lt
  have hb0 := Row.new w (instrC ⟨18, o, a, b, c, e, n⟩).toArray 161
  have hs : Sm (fun _ => False) w (w.alloc (.cells (instrC ⟨18, o, a, b, c, e, n⟩).toArray 161 (0, 0))) := (Sm.refl _ _).alloc _
  obtain ⟨w1, hw1⟩ : ∃ w1, w1 = w.alloc (.cells (instrC ⟨18, o, a, b, c, e, n⟩).toArray 161 (0, 0)) := ⟨_, rfl⟩
  obtain ⟨X, hX⟩ : ∃ X, X = w.heap.size := ⟨_, rfl⟩
  rw [← hw1, ← hX] at hb0
  rw [← hw1] at hs
  have h1 := hT.sm hs (fun h => h)
  have c2 : w1.cell? ⟨T, 2, none⟩ = some (.int .i64 (at_ : Int)) := h1.row.cell 2
  have f2 : w1.frozen? ⟨T, 2, none⟩ = false := h1.row.free 2
  have H2 := Lib.hid (h1.setAt (at_ + 1) (by omega))
  have HS2 := Lib.hid ((hs.mono (F' := fun b => b = T) (fun _ h => h.elim)).trans (Sm.setCell (F := fun b => b = T) (p := ⟨T, 2, none⟩) (Sm.refl _ w1) rfl (.int .i64 ((at_ + 1 : Nat) : Int))))
  have HB2 := Lib.hid (hb0.set_ne (a := ⟨T, 2, none⟩) (by show T ≠ X; omega) (.int .i64 ((at_ + 1 : Nat) : Int)))
  have HW1 := Lib.hid hw1
  have HX := Lib.hid hX
  clear hb0 hs h1 hw1 hX hT
  go_enter Try.func82, Try.ntmps82
  go_upto_region 1 with fail
  rw [← HW1.out, ← HX.out]
  go_upto_region 3 with fail
  have e1 : ((at_ + 1 : Nat) : Int) = (at_ : Int) + 1 := by omega
  rw [e1] at H2 HS2 HB2
  obtain ⟨w2, hw2⟩ : ∃ w2, w2 = w1.setCell ⟨T, 2, none⟩ (.int .i64 ((at_ : Int) + 1)) := ⟨_, rfl⟩
  rw [← hw2] at H2 HS2 HB2 ⊢
  have b0 : w2.cell? ⟨X, 0, none⟩ = some (.int .i64 18) := HB2.out.cell 0
  have HRB := Lib.hid (show w2.rangeAt X 0 (instrC ⟨18, o, a, b, c, e, n⟩) from fun i u hu => by
    rw [Nat.zero_add]
    exact (HB2.out.cell i).trans (by simpa using hu))
  clear e1 hw2 c2 f2 HW1
  go_wp2_with (refine wpList_load_mid rfl 161 (.tmp 5) rfl X 0 (by simp [Act.eval, Act.put]) (instrC ⟨18, o, a, b, c, e, n⟩) _ HRB.out Try.underlying161 rfl (by kernel_rfl) ?_)
  refine (HH.out w2 H2.out HS2.out).mono ?_
  rintro e3 w3 ⟨rfl, hr⟩
  have HRR := Lib.hid hr
  clear hr
  go_wp2
  refine bodyPost_end (results_none rfl _ _ _) rfl ?_
  exact ⟨rfl, HRR.out⟩
set_option maxRecDepth 100000 in
set_option maxHeartbeats 3200000 in
theorem own_turns19 (T : Nat) (vc : Value) (call at_ : Nat) (r : List Nat) (va : Value) (over : Bool) (pw : Value) (x : In) (hd : x.d = 19) (hat : at_ < 999999) (w : World) (hT : Thr T vc call at_ r va over w) (R : World → Prop)
    (H : ∀ w2, Thr T vc call (at_ + 1) r va over w2 → Sm (fun b => b = T) w w2 → Calls Try.prog 94 #[.pointer (some ⟨T, 0, none⟩), pw, .agg (instrC x).toArray] w2 fun e w' => e = .returned (.tuple #[]) ∧ R w') :
    Calls Try.prog 82 #[.pointer (some ⟨T, 0, none⟩), pw, .agg (instrC x).toArray] w fun e w' => e = .returned (.tuple #[]) ∧ R w' := by
  obtain ⟨d, o, a, b, c, e, n⟩ := x
  simp only at hd
  subst hd
  have HH := Lib.hid H
  clear H
  have hTl := hT.row.lt
  have hb0 := Row.new w (instrC ⟨19, o, a, b, c, e, n⟩).toArray 161
  have hs : Sm (fun _ => False) w (w.alloc (.cells (instrC ⟨19, o, a, b, c, e, n⟩).toArray 161 (0, 0))) := (Sm.refl _ _).alloc _
  obtain ⟨w1, hw1⟩ : ∃ w1, w1 = w.alloc (.cells (instrC ⟨19, o, a, b, c, e, n⟩).toArray 161 (0, 0)) := ⟨_, rfl⟩
  obtain ⟨X, hX⟩ : ∃ X, X = w.heap.size := ⟨_, rfl⟩
  rw [← hw1, ← hX] at hb0
  rw [← hw1] at hs
  have h1 := hT.sm hs (fun h => h)
  have c2 : w1.cell? ⟨T, 2, none⟩ = some (.int .i64 (at_ : Int)) := h1.row.cell 2
  have f2 : w1.frozen? ⟨T, 2, none⟩ = false := h1.row.free 2
  have H2 := Lib.hid (h1.setAt (at_ + 1) (by omega))
  have HS2 := Lib.hid ((hs.mono (F' := fun b => b = T) (fun _ h => h.elim)).trans (Sm.setCell (F := fun b => b = T) (p := ⟨T, 2, none⟩) (Sm.refl _ w1) rfl (.int .i64 ((at_ + 1 : Nat) : Int))))
  have HB2 := Lib.hid (hb0.set_ne (a := ⟨T, 2, none⟩) (by show T ≠ X; omega) (.int .i64 ((at_ + 1 : Nat) : Int)))
  have HW1 := Lib.hid hw1
  have HX := Lib.hid hX
  clear hb0 hs h1 hw1 hX hT
  go_enter Try.func82, Try.ntmps82
  go_upto_region 1 with fail
  rw [← HW1.out, ← HX.out]
  go_upto_region 3 with fail
  have e1 : ((at_ + 1 : Nat) : Int) = (at_ : Int) + 1 := by omega
  rw [e1] at H2 HS2 HB2
  obtain ⟨w2, hw2⟩ : ∃ w2, w2 = w1.setCell ⟨T, 2, none⟩ (.int .i64 ((at_ : Int) + 1)) := ⟨_, rfl⟩
  rw [← hw2] at H2 HS2 HB2 ⊢
  have b0 : w2.cell? ⟨X, 0, none⟩ = some (.int .i64 19) := HB2.out.cell 0
  have HRB := Lib.hid (show w2.rangeAt X 0 (instrC ⟨19, o, a, b, c, e, n⟩) from fun i u hu => by
    rw [Nat.zero_add]
    exact (HB2.out.cell i).trans (by simpa using hu))
  clear e1 hw2 c2 f2 HW1
  go_wp2_with (refine wpList_load_mid rfl 161 (.tmp 5) rfl X 0 (by simp [Act.eval, Act.put]) (instrC ⟨19, o, a, b, c, e, n⟩) _ HRB.out Try.underlying161 rfl (by kernel_rfl) ?_)
  refine (HH.out w2 H2.out HS2.out).mono ?_
  rintro e3 w3 ⟨rfl, hr⟩
  have HRR := Lib.hid hr
  clear hr
  go_wp2
  refine bodyPost_end (results_none rfl _ _ _) rfl ?_
  exact ⟨rfl, HRR.out⟩
set_option maxRecDepth 100000 in
set_option maxHeartbeats 3200000 in
theorem own_turns20 (T : Nat) (vc : Value) (call at_ : Nat) (r : List Nat) (va : Value) (over : Bool) (pw : Value) (x : In) (hd : x.d = 20) (hat : at_ < 999999) (w : World) (hT : Thr T vc call at_ r va over w) (R : World → Prop)
    (H : ∀ w2, Thr T vc call (at_ + 1) r va over w2 → Sm (fun b => b = T) w w2 → Calls Try.prog 94 #[.pointer (some ⟨T, 0, none⟩), pw, .agg (instrC x).toArray] w2 fun e w' => e = .returned (.tuple #[]) ∧ R w') :
    Calls Try.prog 82 #[.pointer (some ⟨T, 0, none⟩), pw, .agg (instrC x).toArray] w fun e w' => e = .returned (.tuple #[]) ∧ R w' := by
  obtain ⟨d, o, a, b, c, e, n⟩ := x
  simp only at hd
  subst hd
  have HH := Lib.hid H
  clear H
  have hTl := hT.row.lt
  have hb0 := Row.new w (instrC ⟨20, o, a, b, c, e, n⟩).toArray 161
  have hs : Sm (fun _ => False) w (w.alloc (.cells (instrC ⟨20, o, a, b, c, e, n⟩).toArray 161 (0, 0))) := (Sm.refl _ _).alloc _
  obtain ⟨w1, hw1⟩ : ∃ w1, w1 = w.alloc (.cells (instrC ⟨20, o, a, b, c, e, n⟩).toArray 161 (0, 0)) := ⟨_, rfl⟩
  obtain ⟨X, hX⟩ : ∃ X, X = w.heap.size := ⟨_, rfl⟩
  rw [← hw1, ← hX] at hb0
  rw [← hw1] at hs
  have h1 := hT.sm hs (fun h => h)
  have c2 : w1.cell? ⟨T, 2, none⟩ = some (.int .i64 (at_ : Int)) := h1.row.cell 2
  have f2 : w1.frozen? ⟨T, 2, none⟩ = false := h1.row.free 2
  have H2 := Lib.hid (h1.setAt (at_ + 1) (by omega))
  have HS2 := Lib.hid ((hs.mono (F' := fun b => b = T) (fun _ h => h.elim)).trans (Sm.setCell (F := fun b => b = T) (p := ⟨T, 2, none⟩) (Sm.refl _ w1) rfl (.int .i64 ((at_ + 1 : Nat) : Int))))
  have HB2 := Lib.hid (hb0.set_ne (a := ⟨T, 2, none⟩) (by show T ≠ X; omega) (.int .i64 ((at_ + 1 : Nat) : Int)))
  have HW1 := Lib.hid hw1
  have HX := Lib.hid hX
  clear hb0 hs h1 hw1 hX hT
  go_enter Try.func82, Try.ntmps82
  go_upto_region 1 with fail
  rw [← HW1.out, ← HX.out]
  go_upto_region 3 with fail
  have e1 : ((at_ + 1 : Nat) : Int) = (at_ : Int) + 1 := by omega
  rw [e1] at H2 HS2 HB2
  obtain ⟨w2, hw2⟩ : ∃ w2, w2 = w1.setCell ⟨T, 2, none⟩ (.int .i64 ((at_ : Int) + 1)) := ⟨_, rfl⟩
  rw [← hw2] at H2 HS2 HB2 ⊢
  have b0 : w2.cell? ⟨X, 0, none⟩ = some (.int .i64 20) := HB2.out.cell 0
  have HRB := Lib.hid (show w2.rangeAt X 0 (instrC ⟨20, o, a, b, c, e, n⟩) from fun i u hu => by
    rw [Nat.zero_add]
    exact (HB2.out.cell i).trans (by simpa using hu))
  clear e1 hw2 c2 f2 HW1
  go_wp2_with (refine wpList_load_mid rfl 161 (.tmp 5) rfl X 0 (by simp [Act.eval, Act.put]) (instrC ⟨20, o, a, b, c, e, n⟩) _ HRB.out Try.underlying161 rfl (by kernel_rfl) ?_)
  refine (HH.out w2 H2.out HS2.out).mono ?_
  rintro e3 w3 ⟨rfl, hr⟩
  have HRR := Lib.hid hr
  clear hr
  go_wp2
  refine bodyPost_end (results_none rfl _ _ _) rfl ?_
  exact ⟨rfl, HRR.out⟩
set_option maxRecDepth 100000 in
set_option maxHeartbeats 3200000 in
theorem own_turns22 (T : Nat) (vc : Value) (call at_ : Nat) (r : List Nat) (va : Value) (over : Bool) (pw : Value) (x : In) (hd : x.d = 22) (hat : at_ < 999999) (w : World) (hT : Thr T vc call at_ r va over w) (R : World → Prop)
    (H : ∀ w2, Thr T vc call (at_ + 1) r va over w2 → Sm (fun b => b = T) w w2 → Calls Try.prog 94 #[.pointer (some ⟨T, 0, none⟩), pw, .agg (instrC x).toArray] w2 fun e w' => e = .returned (.tuple #[]) ∧ R w') :
    Calls Try.prog 82 #[.pointer (some ⟨T, 0, none⟩), pw, .agg (instrC x).toArray] w fun e w' => e = .returned (.tuple #[]) ∧ R w' := by
  obtain ⟨d, o, a, b, c, e, n⟩ := x
  simp only at hd
  subst hd
  have HH := Lib.hid H
  clear H
  have hTl := hT.row.lt
  have hb0 := Row.new w (instrC ⟨22, o, a, b, c, e, n⟩).toArray 161
  have hs : Sm (fun _ => False) w (w.alloc (.cells (instrC ⟨22, o, a, b, c, e, n⟩).toArray 161 (0, 0))) := (Sm.refl _ _).alloc _
  obtain ⟨w1, hw1⟩ : ∃ w1, w1 = w.alloc (.cells (instrC ⟨22, o, a, b, c, e, n⟩).toArray 161 (0, 0)) := ⟨_, rfl⟩
  obtain ⟨X, hX⟩ : ∃ X, X = w.heap.size := ⟨_, rfl⟩
  rw [← hw1, ← hX] at hb0
  rw [← hw1] at hs
  have h1 := hT.sm hs (fun h => h)
  have c2 : w1.cell? ⟨T, 2, none⟩ = some (.int .i64 (at_ : Int)) := h1.row.cell 2
  have f2 : w1.frozen? ⟨T, 2, none⟩ = false := h1.row.free 2
  have H2 := Lib.hid (h1.setAt (at_ + 1) (by omega))
  have HS2 := Lib.hid ((hs.mono (F' := fun b => b = T) (fun _ h => h.elim)).trans (Sm.setCell (F := fun b => b = T) (p := ⟨T, 2, none⟩) (Sm.refl _ w1) rfl (.int .i64 ((at_ + 1 : Nat) : Int))))
  have HB2 := Lib.hid (hb0.set_ne (a := ⟨T, 2, none⟩) (by show T ≠ X; omega) (.int .i64 ((at_ + 1 : Nat) : Int)))
  have HW1 := Lib.hid hw1
  have HX := Lib.hid hX
  clear hb0 hs h1 hw1 hX hT
  go_enter Try.func82, Try.ntmps82
  go_upto_region 1 with fail
  rw [← HW1.out, ← HX.out]
  go_upto_region 3 with fail
  have e1 : ((at_ + 1 : Nat) : Int) = (at_ : Int) + 1 := by omega
  rw [e1] at H2 HS2 HB2
  obtain ⟨w2, hw2⟩ : ∃ w2, w2 = w1.setCell ⟨T, 2, none⟩ (.int .i64 ((at_ : Int) + 1)) := ⟨_, rfl⟩
  rw [← hw2] at H2 HS2 HB2 ⊢
  have b0 : w2.cell? ⟨X, 0, none⟩ = some (.int .i64 22) := HB2.out.cell 0
  have HRB := Lib.hid (show w2.rangeAt X 0 (instrC ⟨22, o, a, b, c, e, n⟩) from fun i u hu => by
    rw [Nat.zero_add]
    exact (HB2.out.cell i).trans (by simpa using hu))
  clear e1 hw2 c2 f2 HW1
  go_wp2_with (refine wpList_load_mid rfl 161 (.tmp 5) rfl X 0 (by simp [Act.eval, Act.put]) (instrC ⟨22, o, a, b, c, e, n⟩) _ HRB.out Try.underlying161 rfl (by kernel_rfl) ?_)
  refine (HH.out w2 H2.out HS2.out).mono ?_
  rintro e3 w3 ⟨rfl, hr⟩
  have HRR := Lib.hid hr
  clear hr
  go_wp2
  refine bodyPost_end (results_none rfl _ _ _) rfl ?_
  exact ⟨rfl, HRR.out⟩
end Go.Proofs.Ytokoniaoknnggaa
