/- The reference machine: jumps. -/
import Derived.Test.YtokoniaoknnggaaMacC
namespace Go.Proofs.Ytokoniaoknnggaa
open Go.RowKit
set_option linter.unusedVariables false
set_option linter.unusedSimpArgs false

set_option maxRecDepth 100000 in
set_option maxHeartbeats 3200000 in
theorem turns_jump (T : Nat) (vc : Value) (call at_ : Nat) (r : List Nat) (AN na cA : Nat) (over : Bool) (hcall : call < na) (hna : na < 1000000) (pw : Value) (x : In) (hd : x.d = 18) (hn : x.n < 1000000) (w : World) (hT : Thr T vc call at_ r (.slice (some ⟨AN, 0, none⟩) na cA) over w) :
    Calls Try.prog 94 #[.pointer (some ⟨T, 0, none⟩), pw, .agg (instrC x).toArray] w fun e w' =>
      e = .returned (.tuple #[]) ∧ Thr T vc call x.n r (.slice (some ⟨AN, 0, none⟩) na cA) over w' ∧ Sm (fun b => b = T) w w' := by
  obtain ⟨d, o, a, b, c, e, n⟩ := x
  simp only at hd hn
  subst hd
  have hTl := hT.row.lt
  have hb0 := Row.new w (instrC ⟨18, o, a, b, c, e, n⟩).toArray 161
  have hs : Sm (fun _ => False) w (w.alloc (.cells (instrC ⟨18, o, a, b, c, e, n⟩).toArray 161 (0, 0))) := (Sm.refl _ _).alloc _
  obtain ⟨w1, hw1⟩ : ∃ w1, w1 = w.alloc (.cells (instrC ⟨18, o, a, b, c, e, n⟩).toArray 161 (0, 0)) := ⟨_, rfl⟩
  obtain ⟨X, hX⟩ : ∃ X, X = w.heap.size := ⟨_, rfl⟩
  rw [← hw1, ← hX] at hb0
  rw [← hw1] at hs
  have h1 := hT.sm hs (fun h => h)
  have c1 : w1.cell? ⟨T, 1, none⟩ = some (.int .i64 (call : Int)) := h1.row.cell 1
  have c27 : w1.cell? ⟨T, 27, none⟩ = some (.slice (some ⟨AN, 0, none⟩) na cA) := (h1.row.cell 27).trans (by
    have : r.length = 24 := h1.len
    simp [thrC, List.getElem?_append_right, this])
  have j1 : (call : Int) < (na : Int) := by omega
  have k1 : (0 : Int) ≤ (call : Int) := Int.natCast_nonneg _
  have H1 := Lib.hid h1
  have HS1 := Lib.hid hs
  have HB1 := Lib.hid hb0
  have HW1 := Lib.hid hw1
  have HX := Lib.hid hX
  have HN := Lib.hid hn
  clear hb0 hs h1 hw1 hX hT hn
  go_enter Try.func94, Try.ntmps94
  go_upto_region 1 with fail
  rw [← HW1.out, ← HX.out]
  go_wp2_with fail
  try simp only [Act.put]
  refine wp_region_quiet_lit (by kernel_rfl) (by kernel_rfl) ?_
  repeat (first
    | go_big_quiet_skip
    | (go_big_quiet_want; go_big_quiet_op; go_big_quiet_on))
  refine wpQuiet_nil ?_
  intro _ hw'
  obtain ⟨nq, hw''⟩ := hw'
  subst hw''
  obtain ⟨w2, hw2⟩ : ∃ w2, w2 = w1.drewN nq := ⟨_, rfl⟩
  rw [← hw2]
  have hs2 : Sm (fun _ => False) w1 w2 := by rw [hw2]; exact (Sm.refl _ _).drewN _
  have H2 := Lib.hid (H1.out.sm hs2 (fun h => h))
  have HB2 := Lib.hid (HB1.out.sm hs2 (fun h => h))
  have HS2 := Lib.hid (HS1.out.trans hs2)
  have b0 : w2.cell? ⟨X, 0, none⟩ = some (.int .i64 18) := HB2.out.cell 0
  have b6 : w2.cell? ⟨X, 6, none⟩ = some (.int .u64 (n : Int)) := HB2.out.cell 6
  have c2 : w2.cell? ⟨T, 2, none⟩ = some (.int .i64 (at_ : Int)) := H2.out.row.cell 2
  have f2 : w2.frozen? ⟨T, 2, none⟩ = false := H2.out.row.free 2
  have hwr : wrap64 (n : Int) = (n : Int) := by have := HN.out; unfold wrap64; omega
  have HE := Lib.hid (H2.out.setAt n HN.out)
  have HSE := Lib.hid ((HS2.out.mono (F' := fun b => b = T) (fun _ h => h.elim)).trans (Sm.setCell (F := fun b => b = T) (p := ⟨T, 2, none⟩) (Sm.refl _ w2) rfl (.int .i64 (n : Int))))
  clear hw2 hs2 H1 HB1 HS1 c1 c27 HW1
  go_wp2
  refine bodyPost_end (results_none rfl _ _ _) rfl ?_
  exact ⟨rfl, HE.out, HSE.out⟩
set_option maxRecDepth 100000 in
set_option maxHeartbeats 3200000 in
theorem turns_same (T : Nat) (vc : Value) (call at_ : Nat) (r : List Nat) (AN na cA : Nat) (over : Bool) (hcall : call < na) (hna : na < 1000000) (pw : Value) (x : In) (ha : x.a < 24) (hb : x.b < 24) (hd : x.d = 19) (hn : x.n < 1000000) (w : World) (hT : Thr T vc call at_ r (.slice (some ⟨AN, 0, none⟩) na cA) over w) :
    Calls Try.prog 94 #[.pointer (some ⟨T, 0, none⟩), pw, .agg (instrC x).toArray] w fun e w' =>
      e = .returned (.tuple #[]) ∧ Thr T vc call (if r[x.a]?.getD 0 = r[x.b]?.getD 0 then x.n else at_) r (.slice (some ⟨AN, 0, none⟩) na cA) over w' ∧ Sm (fun b => b = T) w w' := by
  obtain ⟨d, o, a, b, c, e, n⟩ := x
  simp only at hd hn ha hb ⊢
  subst hd
  have hTl := hT.row.lt
  have hb0 := Row.new w (instrC ⟨19, o, a, b, c, e, n⟩).toArray 161
  have hs : Sm (fun _ => False) w (w.alloc (.cells (instrC ⟨19, o, a, b, c, e, n⟩).toArray 161 (0, 0))) := (Sm.refl _ _).alloc _
  obtain ⟨w1, hw1⟩ : ∃ w1, w1 = w.alloc (.cells (instrC ⟨19, o, a, b, c, e, n⟩).toArray 161 (0, 0)) := ⟨_, rfl⟩
  obtain ⟨X, hX⟩ : ∃ X, X = w.heap.size := ⟨_, rfl⟩
  rw [← hw1, ← hX] at hb0
  rw [← hw1] at hs
  have h1 := hT.sm hs (fun h => h)
  have c1 : w1.cell? ⟨T, 1, none⟩ = some (.int .i64 (call : Int)) := h1.row.cell 1
  have c27 : w1.cell? ⟨T, 27, none⟩ = some (.slice (some ⟨AN, 0, none⟩) na cA) := (h1.row.cell 27).trans (by
    have : r.length = 24 := h1.len
    simp [thrC, List.getElem?_append_right, this])
  have j1 : (call : Int) < (na : Int) := by omega
  have k1 : (0 : Int) ≤ (call : Int) := Int.natCast_nonneg _
  have H1 := Lib.hid h1
  have HS1 := Lib.hid hs
  have HB1 := Lib.hid hb0
  have HW1 := Lib.hid hw1
  have HX := Lib.hid hX
  have HN := Lib.hid hn
  clear hb0 hs h1 hw1 hX hT hn
  obtain ⟨va, hva⟩ : ∃ v, v = r[a]?.getD 0 := ⟨_, rfl⟩
  obtain ⟨vb, hvb⟩ : ∃ v, v = r[b]?.getD 0 := ⟨_, rfl⟩
  rw [← hva, ← hvb]
  obtain ⟨N2, hN2⟩ : ∃ N2, N2 = (if va = vb then n else at_) := ⟨_, rfl⟩
  rw [← hN2]
  have HN2 := Lib.hid hN2
  clear hN2
  have HVA := Lib.hid hva
  have HVB := Lib.hid hvb
  clear hva hvb
  go_enter Try.func94, Try.ntmps94
  go_upto_region 1 with fail
  rw [← HW1.out, ← HX.out]
  go_wp2_with fail
  try simp only [Act.put]
  refine wp_region_quiet_lit (by kernel_rfl) (by kernel_rfl) ?_
  repeat (first
    | go_big_quiet_skip
    | (go_big_quiet_want; go_big_quiet_op; go_big_quiet_on))
  refine wpQuiet_nil ?_
  intro _ hw'
  obtain ⟨nq, hw''⟩ := hw'
  subst hw''
  obtain ⟨w2, hw2⟩ : ∃ w2, w2 = w1.drewN nq := ⟨_, rfl⟩
  rw [← hw2]
  have hs2 : Sm (fun _ => False) w1 w2 := by rw [hw2]; exact (Sm.refl _ _).drewN _
  have H2 := Lib.hid (H1.out.sm hs2 (fun h => h))
  have HB2 := Lib.hid (HB1.out.sm hs2 (fun h => h))
  have HS2 := Lib.hid (HS1.out.trans hs2)
  have b0 : w2.cell? ⟨X, 0, none⟩ = some (.int .i64 19) := HB2.out.cell 0
  have b6 : w2.cell? ⟨X, 6, none⟩ = some (.int .u64 (n : Int)) := HB2.out.cell 6
  have c2 : w2.cell? ⟨T, 2, none⟩ = some (.int .i64 (at_ : Int)) := H2.out.row.cell 2
  have f2 : w2.frozen? ⟨T, 2, none⟩ = false := H2.out.row.free 2
  have hwr : wrap64 (n : Int) = (n : Int) := by have := HN.out; unfold wrap64; omega
  have b2 : w2.cell? ⟨X, 2, none⟩ = some (.int .i64 (a : Int)) := HB2.out.cell 2
  have b3 : w2.cell? ⟨X, 3, none⟩ = some (.int .i64 (b : Int)) := HB2.out.cell 3
  have hva := HVA.out
  have hvb := HVB.out
  have ra : w2.cell? ⟨T, 3 + a, none⟩ = some (.int .u64 (va : Int)) := by rw [hva]; exact H2.out.reg a ha
  have rb : w2.cell? ⟨T, 3 + b, none⟩ = some (.int .u64 (vb : Int)) := by rw [hvb]; exact H2.out.reg b hb
  have ja : (a : Int) < 24 := by omega
  have jb : (b : Int) < 24 := by omega
  have ka : (0 : Int) ≤ (a : Int) := Int.natCast_nonneg _
  have kb : (0 : Int) ≤ (b : Int) := Int.natCast_nonneg _
  clear hw2 hs2 H1 HB1 HS1 c1 c27 HW1 hva hvb c2 f2 hwr
  go_wp2_with fail
  try simp only [Act.put]
  refine wp_region_quiet_lit (by kernel_rfl) (by kernel_rfl) ?_
  repeat (first
    | go_big_quiet_skip
    | (go_big_quiet_want; go_big_quiet_op; go_big_quiet_on))
  refine wpQuiet_nil ?_
  intro _ hw'
  obtain ⟨nq2, hw''⟩ := hw'
  subst hw''
  obtain ⟨w3, hw3⟩ : ∃ w3, w3 = w2.drewN nq2 := ⟨_, rfl⟩
  rw [← hw3]
  have hs3 : Sm (fun _ => False) w2 w3 := by rw [hw3]; exact (Sm.refl _ _).drewN _
  have H3 := Lib.hid (H2.out.sm hs3 (fun h => h))
  have HS3 := Lib.hid (HS2.out.trans hs3)
  have b6 : w3.cell? ⟨X, 6, none⟩ = some (.int .u64 (n : Int)) := (HB2.out.sm hs3 (fun h => h)).cell 6
  have c2 : w3.cell? ⟨T, 2, none⟩ = some (.int .i64 (at_ : Int)) := H3.out.row.cell 2
  have f2 : w3.frozen? ⟨T, 2, none⟩ = false := H3.out.row.free 2
  have hwr : wrap64 (n : Int) = (n : Int) := by have := HN.out; unfold wrap64; omega
  have HE := Lib.hid (H3.out.setAt n HN.out)
  have HSE := Lib.hid ((HS3.out.mono (F' := fun b => b = T) (fun _ h => h.elim)).trans (Sm.setCell (F := fun b => b = T) (p := ⟨T, 2, none⟩) (Sm.refl _ w3) rfl (.int .i64 (n : Int))))
  clear hs3 hw3 b0 b2 b3 ra rb H2 HB2 HS2
  by_cases hc : va = vb
  · have HC := Lib.hid hc
    have hd1 : decide (va = vb) = true := by simpa using hc
    have hd2 : decide ((va : Int) = (vb : Int)) = true := by simp; omega
    have hd3 : ((va : Int) == (vb : Int)) = true := by simp; omega
    have hd4 : (va == vb) = true := by simp; omega
    clear hc
    go_wp2
    refine bodyPost_end (results_none rfl _ _ _) rfl ?_
    exact ⟨rfl, by rw [HN2.out, if_pos HC.out]; exact HE.out, HSE.out⟩
  · have HC := Lib.hid hc
    have hd1 : decide (va = vb) = false := by simpa using hc
    have hd2 : decide ((va : Int) = (vb : Int)) = false := by simp; omega
    have hd3 : ((va : Int) == (vb : Int)) = false := by simp; omega
    have hd4 : (va == vb) = false := by simp; omega
    clear hc
    go_wp2
    refine bodyPost_end (results_none rfl _ _ _) rfl ?_
    exact ⟨rfl, by rw [HN2.out, if_neg HC.out]; exact H3.out, HS3.out.mono (fun _ h => h.elim)⟩
set_option maxRecDepth 100000 in
set_option maxHeartbeats 3200000 in
theorem turns_below (T : Nat) (vc : Value) (call at_ : Nat) (r : List Nat) (AN na cA : Nat) (over : Bool) (hcall : call < na) (hna : na < 1000000) (pw : Value) (x : In) (ha : x.a < 24) (hb : x.b < 24) (hd : x.d = 20) (hn : x.n < 1000000) (w : World) (hT : Thr T vc call at_ r (.slice (some ⟨AN, 0, none⟩) na cA) over w) :
    Calls Try.prog 94 #[.pointer (some ⟨T, 0, none⟩), pw, .agg (instrC x).toArray] w fun e w' =>
      e = .returned (.tuple #[]) ∧ Thr T vc call (if r[x.a]?.getD 0 < r[x.b]?.getD 0 then x.n else at_) r (.slice (some ⟨AN, 0, none⟩) na cA) over w' ∧ Sm (fun b => b = T) w w' := by
  obtain ⟨d, o, a, b, c, e, n⟩ := x
  simp only at hd hn ha hb ⊢
  subst hd
  have hTl := hT.row.lt
  have hb0 := Row.new w (instrC ⟨20, o, a, b, c, e, n⟩).toArray 161
  have hs : Sm (fun _ => False) w (w.alloc (.cells (instrC ⟨20, o, a, b, c, e, n⟩).toArray 161 (0, 0))) := (Sm.refl _ _).alloc _
  obtain ⟨w1, hw1⟩ : ∃ w1, w1 = w.alloc (.cells (instrC ⟨20, o, a, b, c, e, n⟩).toArray 161 (0, 0)) := ⟨_, rfl⟩
  obtain ⟨X, hX⟩ : ∃ X, X = w.heap.size := ⟨_, rfl⟩
  rw [← hw1, ← hX] at hb0
  rw [← hw1] at hs
  have h1 := hT.sm hs (fun h => h)
  have c1 : w1.cell? ⟨T, 1, none⟩ = some (.int .i64 (call : Int)) := h1.row.cell 1
  have c27 : w1.cell? ⟨T, 27, none⟩ = some (.slice (some ⟨AN, 0, none⟩) na cA) := (h1.row.cell 27).trans (by
    have : r.length = 24 := h1.len
    simp [thrC, List.getElem?_append_right, this])
  have j1 : (call : Int) < (na : Int) := by omega
  have k1 : (0 : Int) ≤ (call : Int) := Int.natCast_nonneg _
  have H1 := Lib.hid h1
  have HS1 := Lib.hid hs
  have HB1 := Lib.hid hb0
  have HW1 := Lib.hid hw1
  have HX := Lib.hid hX
  have HN := Lib.hid hn
  clear hb0 hs h1 hw1 hX hT hn
  obtain ⟨va, hva⟩ : ∃ v, v = r[a]?.getD 0 := ⟨_, rfl⟩
  obtain ⟨vb, hvb⟩ : ∃ v, v = r[b]?.getD 0 := ⟨_, rfl⟩
  rw [← hva, ← hvb]
  obtain ⟨N2, hN2⟩ : ∃ N2, N2 = (if va < vb then n else at_) := ⟨_, rfl⟩
  rw [← hN2]
  have HN2 := Lib.hid hN2
  clear hN2
  have HVA := Lib.hid hva
  have HVB := Lib.hid hvb
  clear hva hvb
  go_enter Try.func94, Try.ntmps94
  go_upto_region 1 with fail
  rw [← HW1.out, ← HX.out]
  go_wp2_with fail
  try simp only [Act.put]
  refine wp_region_quiet_lit (by kernel_rfl) (by kernel_rfl) ?_
  repeat (first
    | go_big_quiet_skip
    | (go_big_quiet_want; go_big_quiet_op; go_big_quiet_on))
  refine wpQuiet_nil ?_
  intro _ hw'
  obtain ⟨nq, hw''⟩ := hw'
  subst hw''
  obtain ⟨w2, hw2⟩ : ∃ w2, w2 = w1.drewN nq := ⟨_, rfl⟩
  rw [← hw2]
  have hs2 : Sm (fun _ => False) w1 w2 := by rw [hw2]; exact (Sm.refl _ _).drewN _
  have H2 := Lib.hid (H1.out.sm hs2 (fun h => h))
  have HB2 := Lib.hid (HB1.out.sm hs2 (fun h => h))
  have HS2 := Lib.hid (HS1.out.trans hs2)
  have b0 : w2.cell? ⟨X, 0, none⟩ = some (.int .i64 20) := HB2.out.cell 0
  have b6 : w2.cell? ⟨X, 6, none⟩ = some (.int .u64 (n : Int)) := HB2.out.cell 6
  have c2 : w2.cell? ⟨T, 2, none⟩ = some (.int .i64 (at_ : Int)) := H2.out.row.cell 2
  have f2 : w2.frozen? ⟨T, 2, none⟩ = false := H2.out.row.free 2
  have hwr : wrap64 (n : Int) = (n : Int) := by have := HN.out; unfold wrap64; omega
  have b2 : w2.cell? ⟨X, 2, none⟩ = some (.int .i64 (a : Int)) := HB2.out.cell 2
  have b3 : w2.cell? ⟨X, 3, none⟩ = some (.int .i64 (b : Int)) := HB2.out.cell 3
  have hva := HVA.out
  have hvb := HVB.out
  have ra : w2.cell? ⟨T, 3 + a, none⟩ = some (.int .u64 (va : Int)) := by rw [hva]; exact H2.out.reg a ha
  have rb : w2.cell? ⟨T, 3 + b, none⟩ = some (.int .u64 (vb : Int)) := by rw [hvb]; exact H2.out.reg b hb
  have ja : (a : Int) < 24 := by omega
  have jb : (b : Int) < 24 := by omega
  have ka : (0 : Int) ≤ (a : Int) := Int.natCast_nonneg _
  have kb : (0 : Int) ≤ (b : Int) := Int.natCast_nonneg _
  clear hw2 hs2 H1 HB1 HS1 c1 c27 HW1 hva hvb c2 f2 hwr
  go_wp2_with fail
  try simp only [Act.put]
  refine wp_region_quiet_lit (by kernel_rfl) (by kernel_rfl) ?_
  repeat (first
    | go_big_quiet_skip
    | (go_big_quiet_want; go_big_quiet_op; go_big_quiet_on))
  refine wpQuiet_nil ?_
  intro _ hw'
  obtain ⟨nq2, hw''⟩ := hw'
  subst hw''
  obtain ⟨w3, hw3⟩ : ∃ w3, w3 = w2.drewN nq2 := ⟨_, rfl⟩
  rw [← hw3]
  have hs3 : Sm (fun _ => False) w2 w3 := by rw [hw3]; exact (Sm.refl _ _).drewN _
  have H3 := Lib.hid (H2.out.sm hs3 (fun h => h))
  have HS3 := Lib.hid (HS2.out.trans hs3)
  have b6 : w3.cell? ⟨X, 6, none⟩ = some (.int .u64 (n : Int)) := (HB2.out.sm hs3 (fun h => h)).cell 6
  have c2 : w3.cell? ⟨T, 2, none⟩ = some (.int .i64 (at_ : Int)) := H3.out.row.cell 2
  have f2 : w3.frozen? ⟨T, 2, none⟩ = false := H3.out.row.free 2
  have hwr : wrap64 (n : Int) = (n : Int) := by have := HN.out; unfold wrap64; omega
  have HE := Lib.hid (H3.out.setAt n HN.out)
  have HSE := Lib.hid ((HS3.out.mono (F' := fun b => b = T) (fun _ h => h.elim)).trans (Sm.setCell (F := fun b => b = T) (p := ⟨T, 2, none⟩) (Sm.refl _ w3) rfl (.int .i64 (n : Int))))
  clear hs3 hw3 b0 b2 b3 ra rb H2 HB2 HS2
  by_cases hc : va < vb
  · have HC := Lib.hid hc
    have hd1 : decide (va < vb) = true := by simpa using hc
    have hd2 : decide ((va : Int) < (vb : Int)) = true := by simp; omega
    clear hc
    go_wp2
    refine bodyPost_end (results_none rfl _ _ _) rfl ?_
    exact ⟨rfl, by rw [HN2.out, if_pos HC.out]; exact HE.out, HSE.out⟩
  · have HC := Lib.hid hc
    have hd1 : decide (va < vb) = false := by simpa using hc
    have hd2 : decide ((va : Int) < (vb : Int)) = false := by simp; omega
    clear hc
    go_wp2
    refine bodyPost_end (results_none rfl _ _ _) rfl ?_
    exact ⟨rfl, by rw [HN2.out, if_neg HC.out]; exact H3.out, HS3.out.mono (fun _ h => h.elim)⟩
end Go.Proofs.Ytokoniaoknnggaa
