/- The reference machine: own instructions, printed by gen_own.py. -/
import Derived.Test.YtokoniaoknnggaaMacB
namespace Go.Proofs.Ytokoniaoknnggaa
open Go.RowKit
set_option linter.unusedVariables false
set_option linter.unusedSimpArgs false

set_option maxRecDepth 100000 in
set_option maxHeartbeats 3200000 in
theorem own_copy (T : Nat) (vc : Value) (call at_ : Nat) (r : List Nat) (hr : ∀ v ∈ r, v < 18446744073709551616) (va : Value) (over : Bool) (pw : Value) (x : In) (hd : x.d = 7) (ha : x.a < 24) (hb : x.b < 24) (hn : x.n < 18446744073709551616) (hat : at_ < 999999) (w : World) (hT : Thr T vc call at_ r va over w) :
    Calls Try.prog 82 #[.pointer (some ⟨T, 0, none⟩), pw, .agg (instrC x).toArray] w fun e w' =>
      e = .returned (.tuple #[]) ∧ Thr T vc call (at_ + 1) (r.set x.a (r[x.b]?.getD 0)) va over w' ∧ Sm (fun b => b = T) w w' := by
  obtain ⟨d, o, a, b, c, e, n⟩ := x
  simp only at hd ha hn hb
  subst hd
  obtain ⟨V, hV⟩ : ∃ V, V = r[b]?.getD 0 := ⟨_, rfl⟩
  rw [← hV]
  obtain ⟨vb, hvb⟩ : ∃ v, v = r[b]?.getD 0 := ⟨_, rfl⟩
  have hlb : vb < 18446744073709551616 := by
    rw [hvb, List.getElem?_eq_getElem (by rw [hT.len]; exact hb)]
    exact hr _ (List.getElem_mem _)
  rw [← hvb] at hV
  have hTl := hT.row.lt
  have hb0 := Row.new w (instrC ⟨7, o, a, b, c, e, n⟩).toArray 161
  have hs : Sm (fun _ => False) w (w.alloc (.cells (instrC ⟨7, o, a, b, c, e, n⟩).toArray 161 (0, 0))) := (Sm.refl _ _).alloc _
  obtain ⟨w1, hw1⟩ : ∃ w1, w1 = w.alloc (.cells (instrC ⟨7, o, a, b, c, e, n⟩).toArray 161 (0, 0)) := ⟨_, rfl⟩
  obtain ⟨X, hX⟩ : ∃ X, X = w.heap.size := ⟨_, rfl⟩
  rw [← hw1, ← hX] at hb0
  rw [← hw1] at hs
  have h1 := hT.sm hs (fun h => h)
  have c2 : w1.cell? ⟨T, 2, none⟩ = some (.int .i64 (at_ : Int)) := h1.row.cell 2
  have f2 : w1.frozen? ⟨T, 2, none⟩ = false := h1.row.free 2
  have H2 := Lib.hid (h1.setAt (at_ + 1) (by omega))
  have HS2 := Lib.hid ((hs.mono (F' := fun b => b = T) (fun _ h => h.elim)).trans (Sm.setCell (F := fun b => b = T) (p := ⟨T, 2, none⟩) (Sm.refl _ w1) rfl (.int .i64 ((at_ + 1 : Nat) : Int))))
  have HB2 := Lib.hid (hb0.set_ne (a := ⟨T, 2, none⟩) (by show T ≠ X; omega) (.int .i64 ((at_ + 1 : Nat) : Int)))
  have HW1 := Lib.hid hw1
  have HX := Lib.hid hX
  have HVS := Lib.hid (show vb = r[b]?.getD 0 ∧ True from ⟨hvb, trivial⟩)
  have HV := Lib.hid hV
  clear hb0 hs h1 hw1 hX hT hV hvb
  go_enter Try.func82, Try.ntmps82
  go_upto_region 1 with fail
  rw [← HW1.out, ← HX.out]
  go_upto_region 3 with fail
  have e1 : ((at_ + 1 : Nat) : Int) = (at_ : Int) + 1 := by omega
  rw [e1] at H2 HS2 HB2
  obtain ⟨w2, hw2⟩ : ∃ w2, w2 = w1.setCell ⟨T, 2, none⟩ (.int .i64 ((at_ : Int) + 1)) := ⟨_, rfl⟩
  rw [← hw2] at H2 HS2 HB2 ⊢
  have b0 : w2.cell? ⟨X, 0, none⟩ = some (.int .i64 7) := HB2.out.cell 0
  have b2 : w2.cell? ⟨X, 2, none⟩ = some (.int .i64 (a : Int)) := HB2.out.cell 2
  have b3 : w2.cell? ⟨X, 3, none⟩ = some (.int .i64 (b : Int)) := HB2.out.cell 3
  have b4 : w2.cell? ⟨X, 4, none⟩ = some (.int .i64 (c : Int)) := HB2.out.cell 4
  have b6 : w2.cell? ⟨X, 6, none⟩ = some (.int .u64 (n : Int)) := HB2.out.cell 6
  have rb : w2.cell? ⟨T, 3 + b, none⟩ = some (.int .u64 (vb : Int)) := (H2.out.reg b hb).trans (by rw [HVS.out.1])
  have jb : (b : Int) < 24 := by omega
  have kb : (0 : Int) ≤ (b : Int) := Int.natCast_nonneg _
  have ra := H2.out.reg a ha
  have rf := H2.out.row.free (3 + a)
  have ja : (a : Int) < 24 := by omega
  have ka : (0 : Int) ≤ (a : Int) := Int.natCast_nonneg _
  clear e1 hw2 c2 f2 HW1
  go_wp2_with fail
  go_still_tail 11, (by kernel_rfl)
  change wpList _ _ _ _ _ w2.drew
  have H3 := Lib.hid (H2.out.sm (Sm.drew (Sm.refl (fun _ => False) w2)) (fun h => h))
  have HS3 := Lib.hid (HS2.out.drew)
  have rz : w2.drew.cell? ⟨T, 3 + a, none⟩ = some (.int .u64 ((r[a]?.getD 0 : Nat) : Int)) := ra
  have rg : w2.drew.frozen? ⟨T, 3 + a, none⟩ = false := rf
  clear ra rf b0 b2 b3 b4 b6 H2 HS2 HB2 rb
  generalize w2.drew = w3 at H3 HS3 rz rg ⊢
  have HE := Lib.hid (H3.out.setR a V ha)
  have HSE := Lib.hid (HS3.out.trans (Sm.setCell (F := fun b => b = T) (p := ⟨T, 3 + a, none⟩) (Sm.refl _ w3) rfl (.int .u64 (V : Int))))
  go_wp2
  refine bodyPost_end (results_none rfl _ _ _) rfl ?_
  rw [HV.out] at HE HSE
  exact ⟨rfl, by rw [HV.out]; exact HE.out, HSE.out⟩
set_option maxRecDepth 100000 in
set_option maxHeartbeats 3200000 in
theorem own_plus (T : Nat) (vc : Value) (call at_ : Nat) (r : List Nat) (hr : ∀ v ∈ r, v < 18446744073709551616) (va : Value) (over : Bool) (pw : Value) (x : In) (hd : x.d = 8) (ha : x.a < 24) (hb : x.b < 24) (hc : x.c < 24) (hn : x.n < 18446744073709551616) (hat : at_ < 999999) (w : World) (hT : Thr T vc call at_ r va over w) :
    Calls Try.prog 82 #[.pointer (some ⟨T, 0, none⟩), pw, .agg (instrC x).toArray] w fun e w' =>
      e = .returned (.tuple #[]) ∧ Thr T vc call (at_ + 1) (r.set x.a ((r[x.b]?.getD 0 + r[x.c]?.getD 0 + x.n) % 18446744073709551616)) va over w' ∧ Sm (fun b => b = T) w w' := by
  obtain ⟨d, o, a, b, c, e, n⟩ := x
  simp only at hd ha hn hb hc
  subst hd
  obtain ⟨V, hV⟩ : ∃ V, V = (r[b]?.getD 0 + r[c]?.getD 0 + n) % 18446744073709551616 := ⟨_, rfl⟩
  rw [← hV]
  obtain ⟨vb, hvb⟩ : ∃ v, v = r[b]?.getD 0 := ⟨_, rfl⟩
  have hlb : vb < 18446744073709551616 := by
    rw [hvb, List.getElem?_eq_getElem (by rw [hT.len]; exact hb)]
    exact hr _ (List.getElem_mem _)
  obtain ⟨vC, hvC⟩ : ∃ v, v = r[c]?.getD 0 := ⟨_, rfl⟩
  have hlc : vC < 18446744073709551616 := by
    rw [hvC, List.getElem?_eq_getElem (by rw [hT.len]; exact hc)]
    exact hr _ (List.getElem_mem _)
  rw [← hvb, ← hvC] at hV
  have hw : IntKind.u64.wrap (IntKind.u64.wrap ((vb : Int) + (vC : Int)) + (n : Int)) = (V : Int) := by rw [IntKind.wrap_u64, IntKind.wrap_u64]; omega
  have HW := Lib.hid hw
  have hTl := hT.row.lt
  have hb0 := Row.new w (instrC ⟨8, o, a, b, c, e, n⟩).toArray 161
  have hs : Sm (fun _ => False) w (w.alloc (.cells (instrC ⟨8, o, a, b, c, e, n⟩).toArray 161 (0, 0))) := (Sm.refl _ _).alloc _
  obtain ⟨w1, hw1⟩ : ∃ w1, w1 = w.alloc (.cells (instrC ⟨8, o, a, b, c, e, n⟩).toArray 161 (0, 0)) := ⟨_, rfl⟩
  obtain ⟨X, hX⟩ : ∃ X, X = w.heap.size := ⟨_, rfl⟩
  rw [← hw1, ← hX] at hb0
  rw [← hw1] at hs
  have h1 := hT.sm hs (fun h => h)
  have c2 : w1.cell? ⟨T, 2, none⟩ = some (.int .i64 (at_ : Int)) := h1.row.cell 2
  have f2 : w1.frozen? ⟨T, 2, none⟩ = false := h1.row.free 2
  have H2 := Lib.hid (h1.setAt (at_ + 1) (by omega))
  have HS2 := Lib.hid ((hs.mono (F' := fun b => b = T) (fun _ h => h.elim)).trans (Sm.setCell (F := fun b => b = T) (p := ⟨T, 2, none⟩) (Sm.refl _ w1) rfl (.int .i64 ((at_ + 1 : Nat) : Int))))
  have HB2 := Lib.hid (hb0.set_ne (a := ⟨T, 2, none⟩) (by show T ≠ X; omega) (.int .i64 ((at_ + 1 : Nat) : Int)))
  have HW1 := Lib.hid hw1
  have HX := Lib.hid hX
  have HVS := Lib.hid (show vb = r[b]?.getD 0 ∧ vC = r[c]?.getD 0 ∧ True from ⟨hvb, hvC, trivial⟩)
  have HV := Lib.hid hV
  clear hb0 hs h1 hw1 hX hT hV hvb hvC hw
  go_enter Try.func82, Try.ntmps82
  go_upto_region 1 with fail
  rw [← HW1.out, ← HX.out]
  go_upto_region 3 with fail
  have e1 : ((at_ + 1 : Nat) : Int) = (at_ : Int) + 1 := by omega
  rw [e1] at H2 HS2 HB2
  obtain ⟨w2, hw2⟩ : ∃ w2, w2 = w1.setCell ⟨T, 2, none⟩ (.int .i64 ((at_ : Int) + 1)) := ⟨_, rfl⟩
  rw [← hw2] at H2 HS2 HB2 ⊢
  have b0 : w2.cell? ⟨X, 0, none⟩ = some (.int .i64 8) := HB2.out.cell 0
  have b2 : w2.cell? ⟨X, 2, none⟩ = some (.int .i64 (a : Int)) := HB2.out.cell 2
  have b3 : w2.cell? ⟨X, 3, none⟩ = some (.int .i64 (b : Int)) := HB2.out.cell 3
  have b4 : w2.cell? ⟨X, 4, none⟩ = some (.int .i64 (c : Int)) := HB2.out.cell 4
  have b6 : w2.cell? ⟨X, 6, none⟩ = some (.int .u64 (n : Int)) := HB2.out.cell 6
  have rb : w2.cell? ⟨T, 3 + b, none⟩ = some (.int .u64 (vb : Int)) := (H2.out.reg b hb).trans (by rw [HVS.out.1])
  have jb : (b : Int) < 24 := by omega
  have kb : (0 : Int) ≤ (b : Int) := Int.natCast_nonneg _
  have rc : w2.cell? ⟨T, 3 + c, none⟩ = some (.int .u64 (vC : Int)) := (H2.out.reg c hc).trans (by rw [HVS.out.2.1])
  have jc : (c : Int) < 24 := by omega
  have kc : (0 : Int) ≤ (c : Int) := Int.natCast_nonneg _
  have ra := H2.out.reg a ha
  have rf := H2.out.row.free (3 + a)
  have ja : (a : Int) < 24 := by omega
  have ka : (0 : Int) ≤ (a : Int) := Int.natCast_nonneg _
  clear e1 hw2 c2 f2 HW1
  have hw := HW.out
  go_wp2_with fail
  go_still_tail 21, (by kernel_rfl)
  change wpList _ _ _ _ _ w2.drew
  have H3 := Lib.hid (H2.out.sm (Sm.drew (Sm.refl (fun _ => False) w2)) (fun h => h))
  have HS3 := Lib.hid (HS2.out.drew)
  have rz : w2.drew.cell? ⟨T, 3 + a, none⟩ = some (.int .u64 ((r[a]?.getD 0 : Nat) : Int)) := ra
  have rg : w2.drew.frozen? ⟨T, 3 + a, none⟩ = false := rf
  clear ra rf b0 b2 b3 b4 b6 H2 HS2 HB2 rb rc
  generalize w2.drew = w3 at H3 HS3 rz rg ⊢
  have HE := Lib.hid (H3.out.setR a V ha)
  have HSE := Lib.hid (HS3.out.trans (Sm.setCell (F := fun b => b = T) (p := ⟨T, 3 + a, none⟩) (Sm.refl _ w3) rfl (.int .u64 (V : Int))))
  go_wp2
  refine bodyPost_end (results_none rfl _ _ _) rfl ?_
  exact ⟨rfl, HE.out, HSE.out⟩
set_option maxRecDepth 100000 in
set_option maxHeartbeats 3200000 in
theorem own_less (T : Nat) (vc : Value) (call at_ : Nat) (r : List Nat) (hr : ∀ v ∈ r, v < 18446744073709551616) (va : Value) (over : Bool) (pw : Value) (x : In) (hd : x.d = 9) (ha : x.a < 24) (hb : x.b < 24) (hc : x.c < 24) (hn : x.n < 18446744073709551616) (hat : at_ < 999999) (w : World) (hT : Thr T vc call at_ r va over w) :
    Calls Try.prog 82 #[.pointer (some ⟨T, 0, none⟩), pw, .agg (instrC x).toArray] w fun e w' =>
      e = .returned (.tuple #[]) ∧ Thr T vc call (at_ + 1) (r.set x.a ((r[x.b]?.getD 0 + 18446744073709551616 - r[x.c]?.getD 0) % 18446744073709551616)) va over w' ∧ Sm (fun b => b = T) w w' := by
  obtain ⟨d, o, a, b, c, e, n⟩ := x
  simp only at hd ha hn hb hc
  subst hd
  obtain ⟨V, hV⟩ : ∃ V, V = (r[b]?.getD 0 + 18446744073709551616 - r[c]?.getD 0) % 18446744073709551616 := ⟨_, rfl⟩
  rw [← hV]
  obtain ⟨vb, hvb⟩ : ∃ v, v = r[b]?.getD 0 := ⟨_, rfl⟩
  have hlb : vb < 18446744073709551616 := by
    rw [hvb, List.getElem?_eq_getElem (by rw [hT.len]; exact hb)]
    exact hr _ (List.getElem_mem _)
  obtain ⟨vC, hvC⟩ : ∃ v, v = r[c]?.getD 0 := ⟨_, rfl⟩
  have hlc : vC < 18446744073709551616 := by
    rw [hvC, List.getElem?_eq_getElem (by rw [hT.len]; exact hc)]
    exact hr _ (List.getElem_mem _)
  rw [← hvb, ← hvC] at hV
  have hw : IntKind.u64.wrap ((vb : Int) - (vC : Int)) = (V : Int) := by rw [IntKind.wrap_u64]; omega
  have HW := Lib.hid hw
  have hTl := hT.row.lt
  have hb0 := Row.new w (instrC ⟨9, o, a, b, c, e, n⟩).toArray 161
  have hs : Sm (fun _ => False) w (w.alloc (.cells (instrC ⟨9, o, a, b, c, e, n⟩).toArray 161 (0, 0))) := (Sm.refl _ _).alloc _
  obtain ⟨w1, hw1⟩ : ∃ w1, w1 = w.alloc (.cells (instrC ⟨9, o, a, b, c, e, n⟩).toArray 161 (0, 0)) := ⟨_, rfl⟩
  obtain ⟨X, hX⟩ : ∃ X, X = w.heap.size := ⟨_, rfl⟩
  rw [← hw1, ← hX] at hb0
  rw [← hw1] at hs
  have h1 := hT.sm hs (fun h => h)
  have c2 : w1.cell? ⟨T, 2, none⟩ = some (.int .i64 (at_ : Int)) := h1.row.cell 2
  have f2 : w1.frozen? ⟨T, 2, none⟩ = false := h1.row.free 2
  have H2 := Lib.hid (h1.setAt (at_ + 1) (by omega))
  have HS2 := Lib.hid ((hs.mono (F' := fun b => b = T) (fun _ h => h.elim)).trans (Sm.setCell (F := fun b => b = T) (p := ⟨T, 2, none⟩) (Sm.refl _ w1) rfl (.int .i64 ((at_ + 1 : Nat) : Int))))
  have HB2 := Lib.hid (hb0.set_ne (a := ⟨T, 2, none⟩) (by show T ≠ X; omega) (.int .i64 ((at_ + 1 : Nat) : Int)))
  have HW1 := Lib.hid hw1
  have HX := Lib.hid hX
  have HVS := Lib.hid (show vb = r[b]?.getD 0 ∧ vC = r[c]?.getD 0 ∧ True from ⟨hvb, hvC, trivial⟩)
  have HV := Lib.hid hV
  clear hb0 hs h1 hw1 hX hT hV hvb hvC hw
  go_enter Try.func82, Try.ntmps82
  go_upto_region 1 with fail
  rw [← HW1.out, ← HX.out]
  go_upto_region 3 with fail
  have e1 : ((at_ + 1 : Nat) : Int) = (at_ : Int) + 1 := by omega
  rw [e1] at H2 HS2 HB2
  obtain ⟨w2, hw2⟩ : ∃ w2, w2 = w1.setCell ⟨T, 2, none⟩ (.int .i64 ((at_ : Int) + 1)) := ⟨_, rfl⟩
  rw [← hw2] at H2 HS2 HB2 ⊢
  have b0 : w2.cell? ⟨X, 0, none⟩ = some (.int .i64 9) := HB2.out.cell 0
  have b2 : w2.cell? ⟨X, 2, none⟩ = some (.int .i64 (a : Int)) := HB2.out.cell 2
  have b3 : w2.cell? ⟨X, 3, none⟩ = some (.int .i64 (b : Int)) := HB2.out.cell 3
  have b4 : w2.cell? ⟨X, 4, none⟩ = some (.int .i64 (c : Int)) := HB2.out.cell 4
  have b6 : w2.cell? ⟨X, 6, none⟩ = some (.int .u64 (n : Int)) := HB2.out.cell 6
  have rb : w2.cell? ⟨T, 3 + b, none⟩ = some (.int .u64 (vb : Int)) := (H2.out.reg b hb).trans (by rw [HVS.out.1])
  have jb : (b : Int) < 24 := by omega
  have kb : (0 : Int) ≤ (b : Int) := Int.natCast_nonneg _
  have rc : w2.cell? ⟨T, 3 + c, none⟩ = some (.int .u64 (vC : Int)) := (H2.out.reg c hc).trans (by rw [HVS.out.2.1])
  have jc : (c : Int) < 24 := by omega
  have kc : (0 : Int) ≤ (c : Int) := Int.natCast_nonneg _
  have ra := H2.out.reg a ha
  have rf := H2.out.row.free (3 + a)
  have ja : (a : Int) < 24 := by omega
  have ka : (0 : Int) ≤ (a : Int) := Int.natCast_nonneg _
  clear e1 hw2 c2 f2 HW1
  have hw := HW.out
  go_wp2_with fail
  go_still_tail 18, (by kernel_rfl)
  change wpList _ _ _ _ _ w2.drew
  have H3 := Lib.hid (H2.out.sm (Sm.drew (Sm.refl (fun _ => False) w2)) (fun h => h))
  have HS3 := Lib.hid (HS2.out.drew)
  have rz : w2.drew.cell? ⟨T, 3 + a, none⟩ = some (.int .u64 ((r[a]?.getD 0 : Nat) : Int)) := ra
  have rg : w2.drew.frozen? ⟨T, 3 + a, none⟩ = false := rf
  clear ra rf b0 b2 b3 b4 b6 H2 HS2 HB2 rb rc
  generalize w2.drew = w3 at H3 HS3 rz rg ⊢
  have HE := Lib.hid (H3.out.setR a V ha)
  have HSE := Lib.hid (HS3.out.trans (Sm.setCell (F := fun b => b = T) (p := ⟨T, 3 + a, none⟩) (Sm.refl _ w3) rfl (.int .u64 (V : Int))))
  go_wp2
  refine bodyPost_end (results_none rfl _ _ _) rfl ?_
  exact ⟨rfl, HE.out, HSE.out⟩
end Go.Proofs.Ytokoniaoknnggaa
