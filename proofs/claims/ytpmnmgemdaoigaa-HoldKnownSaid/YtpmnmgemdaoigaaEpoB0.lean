/- epoch: New, Slots, Now, word, Pin, Unpin, whatever the gate. -/
import Derived.Test.YtpmnmgemdaoigaaEpoA0
namespace Go.Proofs.Ytpmnmgemdaoigaa
open Go.RowKit
set_option linter.unusedVariables false
set_option linter.unusedSimpArgs false

theorem enow_c {g : Value} {nb : Nat} {G : World → List (Int × Int) → Prop} (hG : GateG g nb G) (S n : Nat) (ws : List Nat) (hS : S < nb) (w : World) (L : List (Int × Int)) (hL : L.length < 1000000) (hg : G w L) (h : Dom S n ws w) :
    Calls Try.prog 23 #[.pointer (some ⟨S, 0, none⟩), g] w fun e w' => e = .returned (.tuple #[.int .u64 (ws.getD 0 0 : Nat), .int .i64 0]) ∧ G w' (L ++ [(1, 0)]) ∧ Sm (fun b => nb ≤ b) w w' := by
  have H := Lib.hid h
  go_enter Try.func23, Try.ntmps23
  go_wp2_with fail
  refine (there_c S n ws w h).mono ?_
  rintro e w1 ⟨rfl, rfl⟩
  go_wp2_with fail
  refine (eload_c hG S n ws hS 0 (by omega) w L hL hg H.out).mono ?_
  rintro e w1 ⟨rfl, h1, h2⟩
  have HS := Lib.hid h2
  clear h2
  go_wp2
  go_ret2
  exact ⟨rfl, h1, HS.out⟩
theorem word_ok (S n : Nat) (ws : List Nat) (s : Nat) (hs : s < n) (w : World) (h : Dom S n ws w) :
    Calls Try.prog 40 #[.pointer (some ⟨S, 0, none⟩), .int .i64 (s : Int)] w fun e w' => e = .returned (.tuple #[.int .i64 ((1 + s : Nat) : Int), .int .i64 0]) ∧ w = w' := by
  have c0 : w.cell? ⟨S, 0, none⟩ = some (.int .i64 (n : Int)) := h.row.cell 0
  have hn := h.le
  have j1 : ¬ (n : Int) ≤ (s : Int) := by omega
  have j2 : decide ((s : Int) < 0) = false := by simp
  have hp : wrap64 (1 + (s : Int)) = ((1 + s : Nat) : Int) := by unfold wrap64; omega
  have HP := Lib.hid hp
  clear hp
  go_enter Try.func40, Try.ntmps40
  go_wp2_with fail
  refine (there_c S n ws w h).mono ?_
  rintro e w1 ⟨rfl, rfl⟩
  go_wp2
  go_ret2
  exact ⟨by first | rfl | (rw [HP.out]; rfl) | (simp; done), rfl⟩
theorem word_bad (S n : Nat) (ws : List Nat) (s : Int) (hs : s < 0 ∨ (n : Int) ≤ s) (w : World) (h : Dom S n ws w) :
    Calls Try.prog 40 #[.pointer (some ⟨S, 0, none⟩), .int .i64 s] w fun e w' => e = .returned (.tuple #[.int .i64 0, .int .i64 5]) ∧ w = w' := by
  have c0 : w.cell? ⟨S, 0, none⟩ = some (.int .i64 (n : Int)) := h.row.cell 0
  have hc : s < 0 ∨ (¬ s < 0 ∧ (n : Int) ≤ s) := by omega
  rcases hc with j1 | ⟨j1, j2⟩
  all_goals
    go_enter Try.func40, Try.ntmps40
    go_wp2_with fail
    refine (there_c S n ws w h).mono ?_
    rintro e w1 ⟨rfl, rfl⟩
    go_wp2
    go_ret2
    exact ⟨rfl, rfl⟩
end Go.Proofs.Ytpmnmgemdaoigaa
