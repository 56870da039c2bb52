/- epoch: New, Safe, whatever the gate. -/
import Derived.Test.YtokoniaoknnggaaEpoD
namespace Go.Proofs.Ytokoniaoknnggaa
open Go.RowKit
set_option linter.unusedVariables false
set_option linter.unusedSimpArgs false

def safeR (ws : List Nat) (e : Nat) : Bool := decide (2 ≤ ws.getD 0 0 ∧ e ≤ ws.getD 0 0 - 2)
set_option maxRecDepth 20000 in
theorem safe_c {g : Value} {nb : Nat} {G : World → List (Int × Int) → Prop} (hG : GateG g nb G) (S n : Nat) (ws : List Nat) (hS : S < nb) (ep : Nat) (hep : ep < 18446744073709551616) (hb : ws.getD 0 0 < 18446744073709551616) (w : World) (L : List (Int × Int)) (hL : L.length < 1000000) (hg : G w L) (h : Dom S n ws w) :
    Calls Try.prog 31 #[.pointer (some ⟨S, 0, none⟩), g, .int .u64 (ep : Int)] w fun e w' => e = .returned (.tuple #[.bool (safeR ws ep), .int .i64 0]) ∧ G w' (L ++ [(1, 0)]) ∧ Sm (fun b => nb ≤ b) w w' := by
  have H := Lib.hid h
  obtain ⟨now, hnow⟩ : ∃ now, now = ws.getD 0 0 := ⟨_, rfl⟩
  have hr : safeR ws ep = decide (2 ≤ now ∧ ep ≤ now - 2) := by rw [hnow]; rfl
  have HR := Lib.hid hr
  rw [← hnow] at hb
  have HNOW := Lib.hid hnow
  clear h hnow hr
  go_enter Try.func31, Try.ntmps31
  go_wp2_with fail
  refine (there_c S n ws w H.out).mono ?_
  rintro e w1 ⟨rfl, rfl⟩
  go_wp2_with fail
  refine (eload_c hG S n ws hS 0 (by omega) w L hL hg H.out).mono ?_
  rintro e w1 ⟨rfl, h1, h2⟩
  rw [← HNOW.out]
  have HS := Lib.hid h2
  have H1 := Lib.hid h1
  clear h1 h2
  by_cases h2 : 2 ≤ now
  · have j1 : (2 : Int) ≤ (now : Int) := by omega
    have hwr : IntKind.u64.wrap ((now : Int) - 2) = ((now - 2 : Nat) : Int) := by rw [IntKind.wrap_u64]; omega
    have HWR := Lib.hid hwr
    by_cases h3 : ep ≤ now - 2
    · have hs : safeR ws ep = true := by rw [HR.out]; simp [h2, h3]
      have HSR := Lib.hid hs
      have j2 : (ep : Int) ≤ ((now - 2 : Nat) : Int) := by omega
      have j3 : decide ((ep : Int) ≤ ((now - 2 : Nat) : Int)) = true := by simp; omega
      have j4 : decide (ep ≤ now - 2) = true := by simpa using h3
      clear hs
      go_wp2
      go_ret2
      rw [HSR.out]
      exact ⟨by first | rfl | (simp [h3]) | (simp; omega), H1.out, HS.out⟩
    · have hs : safeR ws ep = false := by rw [HR.out]; simp [h3]
      have HSR := Lib.hid hs
      have j3 : decide ((ep : Int) ≤ ((now - 2 : Nat) : Int)) = false := by simp; omega
      have j4 : decide (ep ≤ now - 2) = false := by simpa using h3
      clear hs
      go_wp2
      go_ret2
      rw [HSR.out]
      exact ⟨by first | rfl | (simp [h3]) | (simp; omega), H1.out, HS.out⟩
  · have hs : safeR ws ep = false := by rw [HR.out]; simp [h2]
    have HSR := Lib.hid hs
    have j1 : ¬ (2 : Int) ≤ (now : Int) := by omega
    clear hs
    go_wp2
    go_ret2
    rw [HSR.out]
    exact ⟨by first | rfl | simp, H1.out, HS.out⟩

set_option maxRecDepth 20000 in
theorem enew_bad (n : Int) (h : n < 1 ∨ 16 < n) (w : World) :
    Calls Try.prog 6 #[.int .i64 n] w fun e w' => e = .returned (.tuple #[.pointer none, .int .i64 2]) ∧ w = w' := by
  have hc : n < 1 ∨ (¬ n < 1 ∧ 16 < n) := by omega
  clear h
  rcases hc with j1 | ⟨j1, j2⟩
  all_goals
    go_enter Try.func6, Try.ntmps6
    go_wp2
    go_ret2
    exact ⟨rfl, rfl⟩
def words0 : List Nat := 1 :: List.replicate 16 0
set_option maxRecDepth 20000 in
theorem enew_ok (n : Nat) (h0 : 0 < n) (h : n ≤ 16) (w : World) :
    Calls Try.prog 6 #[.int .i64 n] w fun e w' => e = .returned (.tuple #[.pointer (some ⟨w.heap.size, 0, none⟩), .int .i64 0]) ∧ Sm (fun _ => False) w w' ∧ Dom w.heap.size n words0 w' := by
  have j1 : ¬ (n : Int) < 1 := by omega
  have j2 : ¬ (16 : Int) < (n : Int) := by omega
  have hr : Row (w.alloc (.cells (domC n (List.replicate 17 0)) 98 (0, 0))) w.heap.size (domC n (List.replicate 17 0)) 98 := Row.new w _ _
  obtain ⟨w1, hw1⟩ : ∃ w1, w1 = w.alloc (.cells (domC n (List.replicate 17 0)) 98 (0, 0)) := ⟨_, rfl⟩
  rw [← hw1] at hr
  have hd : Dom w.heap.size n (List.replicate 17 0) w1 := ⟨hr, by simp, h0, h⟩
  have hs : Sm (fun _ => False) w (w1.setCell ⟨w.heap.size, 1 + 0, none⟩ (.int .u64 ((1 : Nat) : Int))) := by
    rw [hw1]
    exact ((Sm.refl _ w).alloc _).setNew (by simp) _
  have hd2 := hd.set 0 1
  have hc := hd.cell 0 (by omega)
  have hf := hd.row.free 1
  have HW1 := Lib.hid hw1
  have HS := Lib.hid hs
  have HD2 := Lib.hid (show Dom w.heap.size n words0 (w1.setCell ⟨w.heap.size, 1 + 0, none⟩ (.int .u64 ((1 : Nat) : Int))) from hd2)
  clear hr hs hd hd2 hw1
  go_enter Try.func6, Try.ntmps6
  go_wp2_with fail
  refine (astore _ _ _ _ (by have := hc; rw [HW1.out] at this; exact this) (by have := hf; rw [HW1.out] at this; exact this)).mono ?_
  rintro e w2 ⟨rfl, rfl⟩
  go_wp2
  go_ret2
  have hd0 : Dom w.heap.size n words0 (w.alloc (.cells (domC n words0) 98 (0, 0))) := ⟨Row.new w _ _, rfl, h0, h⟩
  have hs0 : Sm (fun _ => False) w (w.alloc (.cells (domC n words0) 98 (0, 0))) := (Sm.refl _ _).alloc _
  exact ⟨rfl, hs0, hd0⟩
end Go.Proofs.Ytokoniaoknnggaa
