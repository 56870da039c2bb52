/- The reference machine: operations. -/
import Derived.Test.YtokoniaoknnggaaMacF
namespace Go.Proofs.Ytokoniaoknnggaa
open Go.RowKit
set_option linter.unusedVariables false
set_option linter.unusedSimpArgs false

/-- The code of call number call of calls vc. -/
structure CodeAt (vc : Value) (call : Nat) (is : List In) (w : World) : Prop where
  ex : ∃ (rows : List (List Value)) (cd dt : Value) (h : call < rows.length), Recs 2 vc rows w ∧ rows[call] = [cd, dt] ∧ Recs 7 cd (is.map instrC) w ∧ is.length < 1000000 ∧ rows.length < 1000000
theorem next_c' (T : Nat) (vc : Value) (call at_ : Nat) (r : List Nat) (va : Value) (over : Bool) (is : List In) (w : World) (hT : Thr T vc call at_ r va over w) (hc : CodeAt vc call is w) :
    Calls Try.prog 80 #[.pointer (some ⟨T, 0, none⟩)] w fun e w' => e = .returned (.agg (instrC (is[at_]?.getD finishI)).toArray) ∧ Sm (fun _ => False) w w' := by
  obtain ⟨rows, cd, dt, h, h1, h2, h3, h4, h5⟩ := hc.ex
  exact next_c T vc call at_ r va over rows cd dt is w hT.row h1 h h2 h3 ⟨h4, h5, hT.hat⟩

set_option maxRecDepth 100000 in
set_option maxHeartbeats 3200000 in
theorem op_load (T : Nat) (vc : Value) (call at_ : Nat) (r : List Nat) (va : Value) (over : Bool) (WB WR nW cW : Nat) (vl : Value) (b nb cb : Nat) (cells : Array Value) (place v : Nat) (is : List In) (x : In) (hx : is[at_]?.getD finishI = x) (hd : x.d = 1) (ha : x.a < 24) (hb : x.b < 24)
    (hp : r[x.b]?.getD 0 + x.n = place) (hpl : place < nb) (hnb : nb < 1000000) (hat : at_ < 999999) (w : World) (hT : Thr T vc call at_ r va over w) (hc : CodeAt vc call is w) (hW : Row w WB #[.slice (some ⟨WR, 0, none⟩) nW cW, vl] 32) (hWR : w.cell? ⟨WR, x.o, none⟩ = some (.slice (some ⟨b, 0, none⟩) nb cb)) (ho : x.o < nW) (hnW : nW < 1000000)
    (hbr : Row w b cells 38) (hv : cells[place]? = some (.int .u64 v)) (hTb : T ≠ b) (F : Nat → Prop) (hF : ∀ b, F b → b < w.heap.size) (R : World → Prop)
    (H : ∀ w2, w.heap.size < w2.heap.size → Thr T vc call (at_ + 1) (r.set x.a v) va over w2 → Row w2 b (cells) 38 → Sm (fun b' => b' = T ∨ b' = b) w w2 → Calls Try.prog 51 #[.pointer (some ⟨T, 0, none⟩), .pointer (some ⟨WB, 0, none⟩)] w2 fun e w' => e = .returned (.tuple #[]) ∧ R w' ∧ Sm F w2 w') :
    Calls Try.prog 52 #[.pointer (some ⟨T, 0, none⟩), .pointer (some ⟨WB, 0, none⟩)] w fun e w' => e = .returned (.agg #[.int .u8 1, .int .i64 (place : Int)]) ∧ ∃ w3, R w3 ∧ Sm (fun b => b = w.heap.size) w3 w' := by
  obtain ⟨d, o, a, xb, c, e, n⟩ := x
  simp only at hd ha hb hp hWR ho
  subst hd
  have hT0 := hT
  have hTl := hT.row.lt
  have HH := Lib.hid H
  clear H
  have s0 : Sm (fun _ => False) w (w.alloc (.cells #[.int .u8 0, .int .i64 0] 109 (0, 0))) := (Sm.refl _ _).alloc _
  obtain ⟨X, hX⟩ : ∃ X, X = w.heap.size := ⟨_, rfl⟩
  obtain ⟨w0, hw0⟩ : ∃ w0, w0 = w.alloc (.cells #[.int .u8 0, .int .i64 0] 109 (0, 0)) := ⟨_, rfl⟩
  have r0 : Row w0 X #[.int .u8 0, .int .i64 0] 109 := by rw [hw0, hX]; exact Row.new _ _ _
  have z0 : w0.heap.size = X + 1 := by rw [hw0, hX]; simp
  rw [← hw0] at s0
  have HN := Lib.hid (next_c' T vc call at_ r va over is w0 (hT.sm s0 (fun h => h)) (by
    obtain ⟨rows, cd, dt, h, h1, h2, h3, h4, h5⟩ := hc.ex
    exact ⟨rows, cd, dt, h, h1.sm s0 (fun _ _ h => h), h2, h3.sm s0 (fun _ _ h => h), h4, h5⟩))
  rw [hx] at HN
  have HW0 := Lib.hid hw0
  have HX := Lib.hid hX
  go_enter Try.func52, Try.ntmps52
  have HW := Lib.hid hW
  have HBR := Lib.hid hbr
  clear hx hc hT s0 hw0 hW hbr
  have HT := Lib.hid hT0
  go_wp2_with fail
  rw [← HW0.out]
  refine HN.out.mono ?_
  rintro e1 w1 ⟨rfl, s1⟩
  have r1 := r0.sm s1 (fun h => h)
  have z1 := s1.size
  have HR1 := Lib.hid r1
  have HS1 := Lib.hid s1
  obtain ⟨Y, hY⟩ : ∃ Y, Y = w1.heap.size := ⟨_, rfl⟩
  have HYe := Lib.hid hY
  have HY := Lib.hid (Row.new w1 zeroI 161)
  have HY2 := Lib.hid (HY.out.setRow (c' := (instrC ⟨1, o, a, xb, c, e, n⟩).toArray))
  clear r0 s1 r1 hY
  go_upto_region 3 with (refine wpList_store_row rfl 161 (.tmp 5) (.tmp 12) rfl w1.heap.size (instrC ⟨1, o, a, xb, c, e, n⟩).toArray (by simp [Act.eval, Act.put]) (by simp [Act.eval, Act.put]) 161 _ HY.out (instrC_size _) (by rfl) (instrC_one _) ?_)
  obtain ⟨w2, hw2⟩ : ∃ w2, w2 = (w1.alloc (.cells zeroI 161)).setRow w1.heap.size (instrC ⟨1, o, a, xb, c, e, n⟩).toArray := ⟨_, rfl⟩
  have s12 : Sm (fun _ => False) w1 w2 := by
    rw [hw2]
    exact ⟨rfl, rfl, rfl, by simp [World.setRow], fun k hk _ => (setRow_other _ _ k _ (by omega)).trans (Below.heap_alloc _ _ _ hk)⟩
  have ry : Row w2 Y (instrC ⟨1, o, a, xb, c, e, n⟩).toArray 161 := by rw [hw2, HYe.out]; exact HY2.out
  unfold zeroI at hw2
  rw [← hw2, ← HYe.out]
  clear hw2
  have s02 : Sm (fun _ => False) w w2 := ((HW0.out ▸ (Sm.refl _ _).alloc _ : Sm (fun _ => False) w w0).trans HS1.out).trans s12
  have HR2 := Lib.hid (HR1.out.sm s12 (fun h => h))
  have HT2 := Lib.hid (HT.out.sm s02 (fun h => h))
  have HS2 := Lib.hid s02
  have b1 : w2.cell? ⟨Y, 1, none⟩ = some (.int .i64 (o : Int)) := ry.cell 1
  have b0 : w2.cell? ⟨Y, 0, none⟩ = some (.int .i64 1) := ry.cell 0
  have b2 : w2.cell? ⟨Y, 2, none⟩ = some (.int .i64 (a : Int)) := ry.cell 2
  have b3 : w2.cell? ⟨Y, 3, none⟩ = some (.int .i64 (xb : Int)) := ry.cell 3
  have b6 : w2.cell? ⟨Y, 6, none⟩ = some (.int .u64 (n : Int)) := ry.cell 6
  obtain ⟨vb, hvb⟩ : ∃ v, v = r[xb]?.getD 0 := ⟨_, rfl⟩
  rw [← hvb] at hp
  have rb : w2.cell? ⟨T, 3 + xb, none⟩ = some (.int .u64 (vb : Int)) := by rw [hvb]; exact HT2.out.reg xb hb
  have ww : w2.cell? ⟨WB, 0, none⟩ = some (.slice (some ⟨WR, 0, none⟩) nW cW) := (HW.out.sm s02 (fun h => h)).cell 0
  have wr : w2.cell? ⟨WR, o, none⟩ = some (.slice (some ⟨b, 0, none⟩) nb cb) := (s02.cell (World.block_lt_of_cell? w _ hWR) (fun h => h)).trans hWR
  have HB2 := Lib.hid (HBR.out.sm s02 (fun h => h))
  have wc : w2.cell? ⟨b, place, none⟩ = some (.int .u64 (v : Int)) := (HB2.out.cell place).trans hv
  have jb : (xb : Int) < 24 := by omega
  have kb : (0 : Int) ≤ (xb : Int) := Int.natCast_nonneg _
  have ja : (a : Int) < 24 := by omega
  have ka : (0 : Int) ≤ (a : Int) := Int.natCast_nonneg _
  have jo : (o : Int) < (nW : Int) := by omega
  have ko : (0 : Int) ≤ (o : Int) := Int.natCast_nonneg _
  have jp : (place : Int) < (nb : Int) := by omega
  have kp : (0 : Int) ≤ (place : Int) := Int.natCast_nonneg _
  have ep : IntKind.u64.wrap ((vb : Int) + (n : Int)) = (place : Int) := by rw [IntKind.wrap_u64]; omega
  have ep2 := Lib.hid (show wrap64 (place : Int) = (place : Int) by unfold wrap64; omega)
  have HY3 := Lib.hid ry
  have HBX := Lib.hid (show b ≠ X by have := HBR.out.lt; have := HX.out; omega)
  have HBY := Lib.hid (show b ≠ Y by have := HBR.out.lt; have := HS1.out.size; have := HYe.out; have := HX.out; omega)
  have HYT := Lib.hid (show T ≠ Y by have := HS1.out.size; have := HYe.out; omega)
  have HYX := Lib.hid (show X < Y by have := HS1.out.size; have := HYe.out; omega)
  have HXT := Lib.hid (show T ≠ X by omega)
  clear s12 s02 ry hvb hWR hX z0 z1
  go_wp2_with fail
  try simp only [Act.put]
  refine wp_region_quiet_lit (by kernel_rfl) (by kernel_rfl) ?_
  repeat (first
    | go_big_quiet_skip
    | (go_big_quiet_want; go_big_quiet_op; go_big_quiet_on))
  refine wpQuiet_nil ?_
  intro _ hw'
  obtain ⟨q1, hw''⟩ := hw'
  subst hw''
  go_wp2_with fail
  try simp only [Act.put]
  refine wp_region_quiet_lit (by kernel_rfl) (by kernel_rfl) ?_
  repeat (first
    | go_big_quiet_skip
    | (go_big_quiet_want; go_big_quiet_op; go_big_quiet_on))
  refine wpQuiet_nil ?_
  intro _ hw'
  obtain ⟨q2, hw''⟩ := hw'
  subst hw''
  obtain ⟨w3, hw3⟩ : ∃ w3, w3 = (w2.drewN q1).drewN q2 := ⟨_, rfl⟩
  have s23 : Sm (fun _ => False) w2 w3 := by rw [hw3]; exact ((Sm.refl _ _).drewN _).drewN _
  rw [← hw3]
  clear hw3
  have hT3 := HT2.out.sm s23 (fun h => h)
  have c0 : w3.cell? ⟨Y, 0, none⟩ = some (.int .i64 1) := (HY3.out.sm s23 (fun h => h)).cell 0
  have c2 : w3.cell? ⟨Y, 2, none⟩ = some (.int .i64 (a : Int)) := (HY3.out.sm s23 (fun h => h)).cell 2
  have c4 : w3.cell? ⟨Y, 4, none⟩ = some (.int .i64 (c : Int)) := (HY3.out.sm s23 (fun h => h)).cell 4
  have c5 : w3.cell? ⟨Y, 5, none⟩ = some (.int .i64 (e : Int)) := (HY3.out.sm s23 (fun h => h)).cell 5
  have hB3 := HB2.out.sm s23 (fun h => h)
  have wc3 : w3.cell? ⟨b, place, none⟩ = some (.int .u64 (v : Int)) := (hB3.cell place).trans hv
  have HS3 := Lib.hid (HS2.out.trans s23)
  have HR3 := Lib.hid (HR2.out.sm s23 (fun h => h))
  have HY4 := Lib.hid (HY3.out.sm s23 (fun h => h))
  have ra : w3.drew.cell? ⟨T, 3 + a, none⟩ = some (.int .u64 ((r[a]?.getD 0 : Nat) : Int)) := hT3.reg a ha
  have fa : w3.drew.frozen? ⟨T, 3 + a, none⟩ = false := hT3.row.free (3 + a)
  have HT3 := Lib.hid hT3
  have HB3 := Lib.hid hB3
  clear b0 b1 b2 b3 b6 rb ww wr wc s23 hT3 hB3
  go_wp2_with fail
  go_still_tail 8, (by kernel_rfl)
  change wpList _ _ _ _ _ w3.drew
  have s34 : Sm (fun _ => False) w3 w3.drew := (Sm.refl _ _).drew
  have HT4 := Lib.hid (HT3.out.sm s34 (fun h => h))
  have HB4 := Lib.hid (HB3.out.sm s34 (fun h => h))
  have HS4 := Lib.hid (HS3.out.trans s34)
  have HR4 := Lib.hid (HR3.out.sm s34 (fun h => h))
  have HY5 := Lib.hid (HY4.out.sm s34 (fun h => h))
  clear c0 c2 c4 c5 wc3 HT3 HS3 HR3 HY4 HT2 HS2 HR2 HY3 HB3 HB2 s34
  generalize w3.drew = w4 at HT4 HS4 HR4 HY5 HB4 ra fa ⊢
  have HT5 := Lib.hid (HT4.out.setR a v ha)
  have HB5 := Lib.hid (HB4.out.set_ne (a := ⟨T, 3 + a, none⟩) hTb (.int .u64 (v : Int)))
  have HS5 := Lib.hid ((HS4.out.mono (F' := fun b' => b' = T ∨ b' = b) (fun _ h => h.elim)).trans (Sm.setCell (F := fun b' => b' = T ∨ b' = b) (p := ⟨T, 3 + a, none⟩) (Sm.refl _ w4) (by simp) (.int .u64 (v : Int))))
  have HY6 := Lib.hid (HY5.out.set_ne (a := ⟨T, 3 + a, none⟩) HYT.out (.int .u64 (v : Int)))
  have HR5 := Lib.hid (HR4.out.set_ne (a := ⟨T, 3 + a, none⟩) HXT.out (.int .u64 (v : Int)))
  go_upto_region 23 with fail
  obtain ⟨w5, hw5⟩ : ∃ w5, w5 = w4.setCell ⟨T, 3 + a, none⟩ (.int .u64 (v : Int)) := ⟨_, rfl⟩
  rw [← hw5] at HT5 HS5 HY6 HR5 HB5 ⊢
  clear hw5 HT4 HS4 HR4 HY5 HB4 ra fa
  have c2 : w5.cell? ⟨T, 2, none⟩ = some (.int .i64 (at_ : Int)) := HT5.out.row.cell 2
  have f2 : w5.frozen? ⟨T, 2, none⟩ = false := HT5.out.row.free 2
  have HT6 := Lib.hid (HT5.out.setAt (at_ + 1) (by omega))
  have HS6 := Lib.hid (HS5.out.trans (Sm.setCell (F := fun b' => b' = T ∨ b' = b) (p := ⟨T, 2, none⟩) (Sm.refl _ w5) (by simp) (.int .i64 ((at_ + 1 : Nat) : Int))))
  have HY7 := Lib.hid (HY6.out.set_ne (a := ⟨T, 2, none⟩) HYT.out (.int .i64 ((at_ + 1 : Nat) : Int)))
  have HR6 := Lib.hid (HR5.out.set_ne (a := ⟨T, 2, none⟩) HXT.out (.int .i64 ((at_ + 1 : Nat) : Int)))
  have HB6 := Lib.hid (HB5.out.set_ne (a := ⟨T, 2, none⟩) hTb (.int .i64 ((at_ + 1 : Nat) : Int)))
  have e1 : ((at_ + 1 : Nat) : Int) = (at_ : Int) + 1 := by omega
  rw [e1] at HT6 HS6 HY7 HR6 HB6
  clear e1
  go_wp2_with fail
  obtain ⟨w6, hw6⟩ : ∃ w6, w6 = w5.setCell ⟨T, 2, none⟩ (.int .i64 ((at_ : Int) + 1)) := ⟨_, rfl⟩
  rw [← hw6] at HT6 HS6 HY7 HR6 HB6 ⊢
  clear hw6 c2 f2 HT5 HS5 HY6 HR5 HB5
  have z6 : w.heap.size < w6.heap.size := by have := HR6.out.lt; have := HX.out; omega
  refine (HH.out w6 z6 HT6.out HB6.out HS6.out).mono ?_
  rintro e7 w7 ⟨rfl, hr7, s67⟩
  have HY8 := Lib.hid (HY7.out.sm s67 (fun h => by have := hF _ h; have := HYX.out; have := HX.out; omega))
  have HR7 := Lib.hid (HR6.out.sm s67 (fun h => by have := hF _ h; have := HX.out; omega))
  have HRR := Lib.hid hr7
  have y0 : w7.cell? ⟨Y, 0, none⟩ = some (.int .i64 1) := HY8.out.cell 0
  have HK := Lib.hid (kind_c 1 (by decide) (by decide) w7)
  have HME := Lib.hid (HR7.out.setRow (c' := #[.int .u8 1, .int .i64 (place : Int)]))
  clear s67 hr7 z6
  go_wp2_with fail
  refine HK.out.mono ?_
  rintro e8 w8 ⟨rfl, rfl⟩
  rw [← HX.out]
  go_wp2_with (refine wpList_store_row rfl 109 (.tmp 4) (.tmp 140) rfl X #[.int .u8 1, .int .i64 (place : Int)] (by simp [Act.eval, Act.put]) (by simp [Act.eval, Act.put]) 109 _ HR7.out (by kernel_rfl) (by rfl) (by simp [Value.oneCell']) ?_)
  refine bodyPost_ret (results_cell_row rfl _ _ X 109 #[.int .u8 1, .int .i64 (place : Int)] (0, 0) _ rfl HME.out Try.underlying109 rfl (by kernel_rfl)) rfl ?_
  exact ⟨rfl, w7, HRR.out, ⟨rfl, rfl, rfl, by simp [World.setRow], fun k hk hf => setRow_other _ _ k _ (fun e => hf (e.trans HX.out))⟩⟩
set_option maxRecDepth 100000 in
set_option maxHeartbeats 3200000 in
theorem op_store (T : Nat) (vc : Value) (call at_ : Nat) (r : List Nat) (va : Value) (over : Bool) (WB WR nW cW : Nat) (vl : Value) (b nb cb : Nat) (cells : Array Value) (place v : Nat) (is : List In) (x : In) (hx : is[at_]?.getD finishI = x) (hd : x.d = 2) (ha : x.a < 24) (hb : x.b < 24)
    (hp : r[x.b]?.getD 0 + x.n = place) (hpl : place < nb) (hnb : nb < 1000000) (hat : at_ < 999999) (w : World) (hT : Thr T vc call at_ r va over w) (hc : CodeAt vc call is w) (hW : Row w WB #[.slice (some ⟨WR, 0, none⟩) nW cW, vl] 32) (hWR : w.cell? ⟨WR, x.o, none⟩ = some (.slice (some ⟨b, 0, none⟩) nb cb)) (ho : x.o < nW) (hnW : nW < 1000000)
    (hbr : Row w b cells 38) (hv : cells[place]? = some (.int .u64 v)) (hTb : T ≠ b) (F : Nat → Prop) (hF : ∀ b, F b → b < w.heap.size) (R : World → Prop)
    (H : ∀ w2, w.heap.size < w2.heap.size → Thr T vc call (at_ + 1) (r) va over w2 → Row w2 b (cells.setIfInBounds place (.int .u64 ((r[x.a]?.getD 0 : Nat) : Int))) 38 → Sm (fun b' => b' = T ∨ b' = b) w w2 → Calls Try.prog 51 #[.pointer (some ⟨T, 0, none⟩), .pointer (some ⟨WB, 0, none⟩)] w2 fun e w' => e = .returned (.tuple #[]) ∧ R w' ∧ Sm F w2 w') :
    Calls Try.prog 52 #[.pointer (some ⟨T, 0, none⟩), .pointer (some ⟨WB, 0, none⟩)] w fun e w' => e = .returned (.agg #[.int .u8 2, .int .i64 (place : Int)]) ∧ ∃ w3, R w3 ∧ Sm (fun b => b = w.heap.size) w3 w' := by
  obtain ⟨d, o, a, xb, c, e, n⟩ := x
  simp only at hd ha hb hp hWR ho
  subst hd
  have hT0 := hT
  have hTl := hT.row.lt
  have HH := Lib.hid H
  clear H
  have s0 : Sm (fun _ => False) w (w.alloc (.cells #[.int .u8 0, .int .i64 0] 109 (0, 0))) := (Sm.refl _ _).alloc _
  obtain ⟨X, hX⟩ : ∃ X, X = w.heap.size := ⟨_, rfl⟩
  obtain ⟨w0, hw0⟩ : ∃ w0, w0 = w.alloc (.cells #[.int .u8 0, .int .i64 0] 109 (0, 0)) := ⟨_, rfl⟩
  have r0 : Row w0 X #[.int .u8 0, .int .i64 0] 109 := by rw [hw0, hX]; exact Row.new _ _ _
  have z0 : w0.heap.size = X + 1 := by rw [hw0, hX]; simp
  rw [← hw0] at s0
  have HN := Lib.hid (next_c' T vc call at_ r va over is w0 (hT.sm s0 (fun h => h)) (by
    obtain ⟨rows, cd, dt, h, h1, h2, h3, h4, h5⟩ := hc.ex
    exact ⟨rows, cd, dt, h, h1.sm s0 (fun _ _ h => h), h2, h3.sm s0 (fun _ _ h => h), h4, h5⟩))
  rw [hx] at HN
  have HW0 := Lib.hid hw0
  have HX := Lib.hid hX
  go_enter Try.func52, Try.ntmps52
  have HW := Lib.hid hW
  have HBR := Lib.hid hbr
  clear hx hc hT s0 hw0 hW hbr
  have HT := Lib.hid hT0
  go_wp2_with fail
  rw [← HW0.out]
  refine HN.out.mono ?_
  rintro e1 w1 ⟨rfl, s1⟩
  have r1 := r0.sm s1 (fun h => h)
  have z1 := s1.size
  have HR1 := Lib.hid r1
  have HS1 := Lib.hid s1
  obtain ⟨Y, hY⟩ : ∃ Y, Y = w1.heap.size := ⟨_, rfl⟩
  have HYe := Lib.hid hY
  have HY := Lib.hid (Row.new w1 zeroI 161)
  have HY2 := Lib.hid (HY.out.setRow (c' := (instrC ⟨2, o, a, xb, c, e, n⟩).toArray))
  clear r0 s1 r1 hY
  go_upto_region 3 with (refine wpList_store_row rfl 161 (.tmp 5) (.tmp 12) rfl w1.heap.size (instrC ⟨2, o, a, xb, c, e, n⟩).toArray (by simp [Act.eval, Act.put]) (by simp [Act.eval, Act.put]) 161 _ HY.out (instrC_size _) (by rfl) (instrC_one _) ?_)
  obtain ⟨w2, hw2⟩ : ∃ w2, w2 = (w1.alloc (.cells zeroI 161)).setRow w1.heap.size (instrC ⟨2, o, a, xb, c, e, n⟩).toArray := ⟨_, rfl⟩
  have s12 : Sm (fun _ => False) w1 w2 := by
    rw [hw2]
    exact ⟨rfl, rfl, rfl, by simp [World.setRow], fun k hk _ => (setRow_other _ _ k _ (by omega)).trans (Below.heap_alloc _ _ _ hk)⟩
  have ry : Row w2 Y (instrC ⟨2, o, a, xb, c, e, n⟩).toArray 161 := by rw [hw2, HYe.out]; exact HY2.out
  unfold zeroI at hw2
  rw [← hw2, ← HYe.out]
  clear hw2
  have s02 : Sm (fun _ => False) w w2 := ((HW0.out ▸ (Sm.refl _ _).alloc _ : Sm (fun _ => False) w w0).trans HS1.out).trans s12
  have HR2 := Lib.hid (HR1.out.sm s12 (fun h => h))
  have HT2 := Lib.hid (HT.out.sm s02 (fun h => h))
  have HS2 := Lib.hid s02
  have b1 : w2.cell? ⟨Y, 1, none⟩ = some (.int .i64 (o : Int)) := ry.cell 1
  have b0 : w2.cell? ⟨Y, 0, none⟩ = some (.int .i64 2) := ry.cell 0
  have b2 : w2.cell? ⟨Y, 2, none⟩ = some (.int .i64 (a : Int)) := ry.cell 2
  have b3 : w2.cell? ⟨Y, 3, none⟩ = some (.int .i64 (xb : Int)) := ry.cell 3
  have b6 : w2.cell? ⟨Y, 6, none⟩ = some (.int .u64 (n : Int)) := ry.cell 6
  obtain ⟨vb, hvb⟩ : ∃ v, v = r[xb]?.getD 0 := ⟨_, rfl⟩
  rw [← hvb] at hp
  have rb : w2.cell? ⟨T, 3 + xb, none⟩ = some (.int .u64 (vb : Int)) := by rw [hvb]; exact HT2.out.reg xb hb
  have ww : w2.cell? ⟨WB, 0, none⟩ = some (.slice (some ⟨WR, 0, none⟩) nW cW) := (HW.out.sm s02 (fun h => h)).cell 0
  have wr : w2.cell? ⟨WR, o, none⟩ = some (.slice (some ⟨b, 0, none⟩) nb cb) := (s02.cell (World.block_lt_of_cell? w _ hWR) (fun h => h)).trans hWR
  have HB2 := Lib.hid (HBR.out.sm s02 (fun h => h))
  have wc : w2.cell? ⟨b, place, none⟩ = some (.int .u64 (v : Int)) := (HB2.out.cell place).trans hv
  have jb : (xb : Int) < 24 := by omega
  have kb : (0 : Int) ≤ (xb : Int) := Int.natCast_nonneg _
  have ja : (a : Int) < 24 := by omega
  have ka : (0 : Int) ≤ (a : Int) := Int.natCast_nonneg _
  have jo : (o : Int) < (nW : Int) := by omega
  have ko : (0 : Int) ≤ (o : Int) := Int.natCast_nonneg _
  have jp : (place : Int) < (nb : Int) := by omega
  have kp : (0 : Int) ≤ (place : Int) := Int.natCast_nonneg _
  have ep : IntKind.u64.wrap ((vb : Int) + (n : Int)) = (place : Int) := by rw [IntKind.wrap_u64]; omega
  have ep2 := Lib.hid (show wrap64 (place : Int) = (place : Int) by unfold wrap64; omega)
  have HY3 := Lib.hid ry
  have HBX := Lib.hid (show b ≠ X by have := HBR.out.lt; have := HX.out; omega)
  have HBY := Lib.hid (show b ≠ Y by have := HBR.out.lt; have := HS1.out.size; have := HYe.out; have := HX.out; omega)
  have HYT := Lib.hid (show T ≠ Y by have := HS1.out.size; have := HYe.out; omega)
  have HYX := Lib.hid (show X < Y by have := HS1.out.size; have := HYe.out; omega)
  have HXT := Lib.hid (show T ≠ X by omega)
  clear s12 s02 ry hvb hWR hX z0 z1
  go_wp2_with fail
  try simp only [Act.put]
  refine wp_region_quiet_lit (by kernel_rfl) (by kernel_rfl) ?_
  repeat (first
    | go_big_quiet_skip
    | (go_big_quiet_want; go_big_quiet_op; go_big_quiet_on))
  refine wpQuiet_nil ?_
  intro _ hw'
  obtain ⟨q1, hw''⟩ := hw'
  subst hw''
  go_wp2_with fail
  try simp only [Act.put]
  refine wp_region_quiet_lit (by kernel_rfl) (by kernel_rfl) ?_
  repeat (first
    | go_big_quiet_skip
    | (go_big_quiet_want; go_big_quiet_op; go_big_quiet_on))
  refine wpQuiet_nil ?_
  intro _ hw'
  obtain ⟨q2, hw''⟩ := hw'
  subst hw''
  obtain ⟨w3, hw3⟩ : ∃ w3, w3 = (w2.drewN q1).drewN q2 := ⟨_, rfl⟩
  have s23 : Sm (fun _ => False) w2 w3 := by rw [hw3]; exact ((Sm.refl _ _).drewN _).drewN _
  rw [← hw3]
  clear hw3
  have hT3 := HT2.out.sm s23 (fun h => h)
  have c0 : w3.cell? ⟨Y, 0, none⟩ = some (.int .i64 2) := (HY3.out.sm s23 (fun h => h)).cell 0
  have c2 : w3.cell? ⟨Y, 2, none⟩ = some (.int .i64 (a : Int)) := (HY3.out.sm s23 (fun h => h)).cell 2
  have c4 : w3.cell? ⟨Y, 4, none⟩ = some (.int .i64 (c : Int)) := (HY3.out.sm s23 (fun h => h)).cell 4
  have c5 : w3.cell? ⟨Y, 5, none⟩ = some (.int .i64 (e : Int)) := (HY3.out.sm s23 (fun h => h)).cell 5
  have hB3 := HB2.out.sm s23 (fun h => h)
  have wc3 : w3.cell? ⟨b, place, none⟩ = some (.int .u64 (v : Int)) := (hB3.cell place).trans hv
  have HS3 := Lib.hid (HS2.out.trans s23)
  have HR3 := Lib.hid (HR2.out.sm s23 (fun h => h))
  have HY4 := Lib.hid (HY3.out.sm s23 (fun h => h))
  obtain ⟨vA, hva⟩ : ∃ v, v = r[a]?.getD 0 := ⟨_, rfl⟩
  have HVA := Lib.hid hva
  have ra3 : w3.cell? ⟨T, 3 + a, none⟩ = some (.int .u64 (vA : Int)) := by rw [hva]; exact hT3.reg a ha
  have ra : w3.drew.cell? ⟨b, place, none⟩ = some (.int .u64 (v : Int)) := wc3
  have fa : w3.drew.frozen? ⟨b, place, none⟩ = false := hB3.free place
  have HT3 := Lib.hid hT3
  have HB3 := Lib.hid hB3
  clear b0 b1 b2 b3 b6 rb ww wr wc s23 hT3 hB3 hva
  go_wp2_with fail
  go_still_tail 8, (by kernel_rfl)
  change wpList _ _ _ _ _ w3.drew
  clear ra3
  have s34 : Sm (fun _ => False) w3 w3.drew := (Sm.refl _ _).drew
  have HT4 := Lib.hid (HT3.out.sm s34 (fun h => h))
  have HB4 := Lib.hid (HB3.out.sm s34 (fun h => h))
  have HS4 := Lib.hid (HS3.out.trans s34)
  have HR4 := Lib.hid (HR3.out.sm s34 (fun h => h))
  have HY5 := Lib.hid (HY4.out.sm s34 (fun h => h))
  clear c0 c2 c4 c5 wc3 HT3 HS3 HR3 HY4 HT2 HS2 HR2 HY3 HB3 HB2 s34
  generalize w3.drew = w4 at HT4 HS4 HR4 HY5 HB4 ra fa ⊢
  have HT5 := Lib.hid (HT4.out.sm (F := fun b' => b' = b) (Sm.setCell (F := fun b' => b' = b) (p := ⟨b, place, none⟩) (Sm.refl _ w4) rfl (.int .u64 (vA : Int))) hTb)
  have HB5 := Lib.hid (HB4.out.set place (.int .u64 (vA : Int)))
  have HS5 := Lib.hid ((HS4.out.mono (F' := fun b' => b' = T ∨ b' = b) (fun _ h => h.elim)).trans (Sm.setCell (F := fun b' => b' = T ∨ b' = b) (p := ⟨b, place, none⟩) (Sm.refl _ w4) (by simp) (.int .u64 (vA : Int))))
  have HY6 := Lib.hid (HY5.out.set_ne (a := ⟨b, place, none⟩) HBY.out (.int .u64 (vA : Int)))
  have HR5 := Lib.hid (HR4.out.set_ne (a := ⟨b, place, none⟩) HBX.out (.int .u64 (vA : Int)))
  rw [HVA.out] at HB5
  go_upto_region 23 with fail
  obtain ⟨w5, hw5⟩ : ∃ w5, w5 = w4.setCell ⟨b, place, none⟩ (.int .u64 (vA : Int)) := ⟨_, rfl⟩
  rw [← HVA.out] at HB5
  rw [← hw5] at HT5 HS5 HY6 HR5 HB5 ⊢
  rw [HVA.out] at HB5
  clear hw5 HT4 HS4 HR4 HY5 HB4 ra fa
  have c2 : w5.cell? ⟨T, 2, none⟩ = some (.int .i64 (at_ : Int)) := HT5.out.row.cell 2
  have f2 : w5.frozen? ⟨T, 2, none⟩ = false := HT5.out.row.free 2
  have HT6 := Lib.hid (HT5.out.setAt (at_ + 1) (by omega))
  have HS6 := Lib.hid (HS5.out.trans (Sm.setCell (F := fun b' => b' = T ∨ b' = b) (p := ⟨T, 2, none⟩) (Sm.refl _ w5) (by simp) (.int .i64 ((at_ + 1 : Nat) : Int))))
  have HY7 := Lib.hid (HY6.out.set_ne (a := ⟨T, 2, none⟩) HYT.out (.int .i64 ((at_ + 1 : Nat) : Int)))
  have HR6 := Lib.hid (HR5.out.set_ne (a := ⟨T, 2, none⟩) HXT.out (.int .i64 ((at_ + 1 : Nat) : Int)))
  have HB6 := Lib.hid (HB5.out.set_ne (a := ⟨T, 2, none⟩) hTb (.int .i64 ((at_ + 1 : Nat) : Int)))
  have e1 : ((at_ + 1 : Nat) : Int) = (at_ : Int) + 1 := by omega
  rw [e1] at HT6 HS6 HY7 HR6 HB6
  clear e1
  go_wp2_with fail
  obtain ⟨w6, hw6⟩ : ∃ w6, w6 = w5.setCell ⟨T, 2, none⟩ (.int .i64 ((at_ : Int) + 1)) := ⟨_, rfl⟩
  rw [← hw6] at HT6 HS6 HY7 HR6 HB6 ⊢
  clear hw6 c2 f2 HT5 HS5 HY6 HR5 HB5
  have z6 : w.heap.size < w6.heap.size := by have := HR6.out.lt; have := HX.out; omega
  refine (HH.out w6 z6 HT6.out HB6.out HS6.out).mono ?_
  rintro e7 w7 ⟨rfl, hr7, s67⟩
  have HY8 := Lib.hid (HY7.out.sm s67 (fun h => by have := hF _ h; have := HYX.out; have := HX.out; omega))
  have HR7 := Lib.hid (HR6.out.sm s67 (fun h => by have := hF _ h; have := HX.out; omega))
  have HRR := Lib.hid hr7
  have y0 : w7.cell? ⟨Y, 0, none⟩ = some (.int .i64 2) := HY8.out.cell 0
  have HK := Lib.hid (kind_c 2 (by decide) (by decide) w7)
  have HME := Lib.hid (HR7.out.setRow (c' := #[.int .u8 2, .int .i64 (place : Int)]))
  clear s67 hr7 z6
  go_wp2_with fail
  refine HK.out.mono ?_
  rintro e8 w8 ⟨rfl, rfl⟩
  rw [← HX.out]
  go_wp2_with (refine wpList_store_row rfl 109 (.tmp 4) (.tmp 140) rfl X #[.int .u8 2, .int .i64 (place : Int)] (by simp [Act.eval, Act.put]) (by simp [Act.eval, Act.put]) 109 _ HR7.out (by kernel_rfl) (by rfl) (by simp [Value.oneCell']) ?_)
  refine bodyPost_ret (results_cell_row rfl _ _ X 109 #[.int .u8 2, .int .i64 (place : Int)] (0, 0) _ rfl HME.out Try.underlying109 rfl (by kernel_rfl)) rfl ?_
  exact ⟨rfl, w7, HRR.out, ⟨rfl, rfl, rfl, by simp [World.setRow], fun k hk hf => setRow_other _ _ k _ (fun e => hf (e.trans HX.out))⟩⟩
end Go.Proofs.Ytokoniaoknnggaa
