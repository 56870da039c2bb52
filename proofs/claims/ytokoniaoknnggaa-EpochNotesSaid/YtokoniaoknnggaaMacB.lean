/- The reference machine: own instructions. -/
import Derived.Test.YtokoniaoknnggaaMacA
import Derived.StillTailTactics
import Derived.Deep.CutRange
import Derived.Deep.CutBlock
import Derived.Deep.DeepCutAuto
namespace Go.Proofs.Ytokoniaoknnggaa
open Go.RowKit
set_option linter.unusedVariables false
set_option linter.unusedSimpArgs false

theorem thrC_get (vc : Value) (call at_ : Nat) (r : List Nat) (va : Value) (over : Bool) (k : Nat) (h : k < r.length) : (thrC vc call at_ r va over)[3 + k]? = some (.int .u64 ((r[k]?.getD 0 : Nat) : Int)) := by
  rw [Nat.add_comm]
  simp [thrC, h, List.getElem?_append_left]
theorem thrC_set (vc : Value) (call at_ : Nat) (r : List Nat) (va : Value) (over : Bool) (k v : Nat) (h : k < r.length) : (thrC vc call at_ r va over).setIfInBounds (3 + k) (.int .u64 (v : Int)) = thrC vc call at_ (r.set k v) va over := by
  rw [Nat.add_comm]
  simp [thrC, List.map_set, List.set_append_left, h]
theorem thrC_at (vc : Value) (call at_ : Nat) (r : List Nat) (va : Value) (over : Bool) (v : Nat) : (thrC vc call at_ r va over).setIfInBounds 2 (.int .i64 (v : Int)) = thrC vc call v r va over := by
  simp [thrC]
/-- A thread in memory. -/
structure Thr (T : Nat) (vc : Value) (call at_ : Nat) (r : List Nat) (va : Value) (over : Bool) (w : World) : Prop where
  row : Row w T (thrC vc call at_ r va over) 143
  len : r.length = 24
  hat : at_ < 1000000
theorem Thr.sm {F : Nat → Prop} {T : Nat} {vc : Value} {call at_ : Nat} {r : List Nat} {va : Value} {over : Bool} {w w' : World} (h : Thr T vc call at_ r va over w) (k : Sm F w w') (hF : ¬ F T) : Thr T vc call at_ r va over w' := ⟨h.row.sm k hF, h.len, h.hat⟩
theorem Thr.reg {T : Nat} {vc : Value} {call at_ : Nat} {r : List Nat} {va : Value} {over : Bool} {w : World} (h : Thr T vc call at_ r va over w) (k : Nat) (hk : k < 24) : w.cell? ⟨T, 3 + k, none⟩ = some (.int .u64 ((r[k]?.getD 0 : Nat) : Int)) := (h.row.cell (3 + k)).trans (thrC_get _ _ _ _ _ _ k (by rw [h.len]; exact hk))
theorem Thr.setR {T : Nat} {vc : Value} {call at_ : Nat} {r : List Nat} {va : Value} {over : Bool} {w : World} (h : Thr T vc call at_ r va over w) (k v : Nat) (hk : k < 24) : Thr T vc call at_ (r.set k v) va over (w.setCell ⟨T, 3 + k, none⟩ (.int .u64 (v : Int))) := by
  refine ⟨?_, by simpa using h.len, h.hat⟩
  have := h.row.set (3 + k) (.int .u64 (v : Int))
  rwa [thrC_set _ _ _ _ _ _ k v (by rw [h.len]; exact hk)] at this
theorem Thr.setAt {T : Nat} {vc : Value} {call at_ : Nat} {r : List Nat} {va : Value} {over : Bool} {w : World} (h : Thr T vc call at_ r va over w) (v : Nat) (hv : v < 1000000) : Thr T vc call v r va over (w.setCell ⟨T, 2, none⟩ (.int .i64 (v : Int))) := by
  refine ⟨?_, h.len, hv⟩
  have := h.row.set 2 (.int .i64 (v : Int))
  rwa [thrC_at] at this

set_option maxRecDepth 100000 in
set_option maxHeartbeats 3200000 in
theorem own_set (T : Nat) (vc : Value) (call at_ : Nat) (r : List Nat) (va : Value) (over : Bool) (pw : Value) (x : In) (hd : x.d = 6) (ha : x.a < 24) (hn : x.n < 18446744073709551616) (hat : at_ < 999999) (w : World) (hT : Thr T vc call at_ r va over w) :
    Calls Try.prog 82 #[.pointer (some ⟨T, 0, none⟩), pw, .agg (instrC x).toArray] w fun e w' =>
      e = .returned (.tuple #[]) ∧ Thr T vc call (at_ + 1) (r.set x.a x.n) va over w' ∧ Sm (fun b => b = T) w w' := by
  obtain ⟨d, o, a, b, c, e, n⟩ := x
  simp only at hd ha hn
  subst hd
  have hTl := hT.row.lt
  have hb := Row.new w (instrC ⟨6, o, a, b, c, e, n⟩).toArray 161
  have hs : Sm (fun _ => False) w (w.alloc (.cells (instrC ⟨6, o, a, b, c, e, n⟩).toArray 161 (0, 0))) := (Sm.refl _ _).alloc _
  obtain ⟨w1, hw1⟩ : ∃ w1, w1 = w.alloc (.cells (instrC ⟨6, o, a, b, c, e, n⟩).toArray 161 (0, 0)) := ⟨_, rfl⟩
  obtain ⟨X, hX⟩ : ∃ X, X = w.heap.size := ⟨_, rfl⟩
  rw [← hw1, ← hX] at hb
  rw [← hw1] at hs
  have h1 := hT.sm hs (fun h => h)
  have c2 : w1.cell? ⟨T, 2, none⟩ = some (.int .i64 (at_ : Int)) := h1.row.cell 2
  have f2 : w1.frozen? ⟨T, 2, none⟩ = false := h1.row.free 2
  have H2 := Lib.hid (h1.setAt (at_ + 1) (by omega))
  have HS2 := Lib.hid ((hs.mono (F' := fun b => b = T) (fun _ h => h.elim)).trans (Sm.setCell (F := fun b => b = T) (p := ⟨T, 2, none⟩) (Sm.refl _ w1) rfl (.int .i64 ((at_ + 1 : Nat) : Int))))
  have HB2 := Lib.hid (hb.set_ne (a := ⟨T, 2, none⟩) (by show T ≠ X; omega) (.int .i64 ((at_ + 1 : Nat) : Int)))
  have HW1 := Lib.hid hw1
  have HX := Lib.hid hX
  have HP := Lib.hid (show wrap64 ((at_ : Int) + 1) = ((at_ + 1 : Nat) : Int) by unfold wrap64; omega)
  clear hb hs h1 hw1 hX hT
  go_enter Try.func82, Try.ntmps82
  go_upto_region 1 with fail
  rw [← HW1.out, ← HX.out]
  go_upto_region 3 with fail
  have e1 : ((at_ + 1 : Nat) : Int) = (at_ : Int) + 1 := by omega
  rw [e1] at H2 HS2 HB2
  obtain ⟨w2, hw2⟩ : ∃ w2, w2 = w1.setCell ⟨T, 2, none⟩ (.int .i64 ((at_ : Int) + 1)) := ⟨_, rfl⟩
  rw [← hw2] at H2 HS2 HB2 ⊢
  have b0 : w2.cell? ⟨X, 0, none⟩ = some (.int .i64 6) := HB2.out.cell 0
  have b2 : w2.cell? ⟨X, 2, none⟩ = some (.int .i64 (a : Int)) := HB2.out.cell 2
  have b6 : w2.cell? ⟨X, 6, none⟩ = some (.int .u64 (n : Int)) := HB2.out.cell 6
  have ra := H2.out.reg a ha
  have rf := H2.out.row.free (3 + a)
  have j1 : (a : Int) < 24 := by omega
  have k1 : (0 : Int) ≤ (a : Int) := Int.natCast_nonneg _
  clear e1 hw2 c2 f2 HW1
  go_wp2_with fail
  go_still_tail 7, (by kernel_rfl)
  change wpList _ _ _ _ _ w2.drew
  have H3 := Lib.hid (H2.out.sm (Sm.drew (Sm.refl (fun _ => False) w2)) (fun h => h))
  have HS3 := Lib.hid (HS2.out.drew)
  have rb : w2.drew.cell? ⟨T, 3 + a, none⟩ = some (.int .u64 ((r[a]?.getD 0 : Nat) : Int)) := ra
  have rg : w2.drew.frozen? ⟨T, 3 + a, none⟩ = false := rf
  clear ra rf b0 b2 b6 H2 HS2 HB2
  generalize w2.drew = w3 at H3 HS3 rb rg ⊢
  have HE := Lib.hid (H3.out.setR a n ha)
  have HSE := Lib.hid (HS3.out.trans (Sm.setCell (F := fun b => b = T) (p := ⟨T, 3 + a, none⟩) (Sm.refl _ w3) rfl (.int .u64 (n : Int))))
  go_wp2
  refine bodyPost_end (results_none rfl _ _ _) rfl ?_
  exact ⟨rfl, HE.out, HSE.out⟩
end Go.Proofs.Ytokoniaoknnggaa
