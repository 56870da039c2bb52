/- epoch: New, Safe, whatever the gate. -/
import Derived.Test.YtpmnmgemdaoigaaEpoD0
namespace Go.Proofs.Ytpmnmgemdaoigaa
open Go.RowKit
set_option linter.unusedVariables false
set_option linter.unusedSimpArgs false

def safeR (ws : List Nat) (e : Nat) : Bool := decide (2 ≤ ws.getD 0 0 ∧ e ≤ ws.getD 0 0 - 2)
set_option maxRecDepth 20000 in
theorem enew_bad (n : Int) (h : n < 1 ∨ 16 < n) (w : World) :
    Calls Try.prog 31 #[.int .i64 n] w fun e w' => e = .returned (.tuple #[.pointer none, .int .i64 2]) ∧ w = w' := by
  have hc : n < 1 ∨ (¬ n < 1 ∧ 16 < n) := by omega
  clear h
  rcases hc with j1 | ⟨j1, j2⟩
  all_goals
    go_enter Try.func31, Try.ntmps31
    go_wp2
    go_ret2
    exact ⟨rfl, rfl⟩
def words0 : List Nat := 1 :: List.replicate 16 0
set_option maxRecDepth 20000 in
theorem enew_ok (n : Nat) (h0 : 0 < n) (h : n ≤ 16) (w : World) :
    Calls Try.prog 31 #[.int .i64 n] w fun e w' => e = .returned (.tuple #[.pointer (some ⟨w.heap.size, 0, none⟩), .int .i64 0]) ∧ Sm (fun _ => False) w w' ∧ Dom w.heap.size n words0 w' := by
  have j1 : ¬ (n : Int) < 1 := by omega
  have j2 : ¬ (16 : Int) < (n : Int) := by omega
  have hr : Row (w.alloc (.cells (domC n (List.replicate 17 0)) 113 (0, 0))) w.heap.size (domC n (List.replicate 17 0)) 113 := Row.new w _ _
  obtain ⟨w1, hw1⟩ : ∃ w1, w1 = w.alloc (.cells (domC n (List.replicate 17 0)) 113 (0, 0)) := ⟨_, rfl⟩
  rw [← hw1] at hr
  have hd : Dom w.heap.size n (List.replicate 17 0) w1 := ⟨hr, by simp, h0, h⟩
  have hs : Sm (fun _ => False) w (w1.setCell ⟨w.heap.size, 1 + 0, none⟩ (.int .u64 ((1 : Nat) : Int))) := by
    rw [hw1]
    exact ((Sm.refl _ w).alloc _).setNew (by simp) _
  have hd2 := hd.set 0 1
  have hc := hd.cell 0 (by omega)
  have hf := hd.row.free 1
  have HW1 := Lib.hid hw1
  have HS := Lib.hid hs
  have HD2 := Lib.hid (show Dom w.heap.size n words0 (w1.setCell ⟨w.heap.size, 1 + 0, none⟩ (.int .u64 ((1 : Nat) : Int))) from hd2)
  clear hr hs hd hd2 hw1
  go_enter Try.func31, Try.ntmps31
  go_wp2_with fail
  refine (astore _ _ _ _ (by have := hc; rw [HW1.out] at this; exact this) (by have := hf; rw [HW1.out] at this; exact this)).mono ?_
  rintro e w2 ⟨rfl, rfl⟩
  go_wp2
  go_ret2
  have hd0 : Dom w.heap.size n words0 (w.alloc (.cells (domC n words0) 113 (0, 0))) := ⟨Row.new w _ _, rfl, h0, h⟩
  have hs0 : Sm (fun _ => False) w (w.alloc (.cells (domC n words0) 113 (0, 0))) := (Sm.refl _ _).alloc _
  exact ⟨rfl, hs0, hd0⟩
end Go.Proofs.Ytpmnmgemdaoigaa
