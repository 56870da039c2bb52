/- hold: slices.Sort of at most one number. -/
import Derived.Test.YtpmnmgemdaoigaaHoI
namespace Go.Proofs.Ytpmnmgemdaoigaa
open Go.RowKit Go.MuLone
set_option linter.unusedVariables false
set_option linter.unusedSimpArgs false
set_option maxRecDepth 100000 in
theorem len64_c (n : Nat) (hn : n ≤ 1) (w : World) :
    Calls Try.prog 79 #[.int .u64 (n : Int)] w fun e w' => e = .returned (.int .i64 (n : Int)) ∧ w = w' := by
  have hc : n = 0 ∨ n = 1 := by omega
  rcases hc with rfl | rfl
  all_goals
    go_enter Try.func79, Try.ntmps79
    go_wp2
    go_ret
    exact ⟨by kernel_rfl, rfl⟩
set_option maxRecDepth 100000 in
theorem len_c (n : Nat) (hn : n ≤ 1) (w : World) :
    Calls Try.prog 51 #[.int .u64 (n : Int)] w fun e w' => e = .returned (.int .i64 (n : Int)) ∧ w = w' := by
  go_enter Try.func51, Try.ntmps51
  go_wp2_with fail
  refine (len64_c n hn w).mono ?_
  rintro e w1 ⟨rfl, rfl⟩
  go_wp2
  go_ret
  exact ⟨rfl, rfl⟩
set_option maxRecDepth 100000 in
theorem pdq_c (n : Nat) (a : Option Addr) (c : Nat) (hn : n ≤ 1) (w : World) :
    Calls Try.prog 50 #[.slice a n c, .int .i64 0, .int .i64 (n : Int), .int .i64 (n : Int)] w fun e w' => e = .returned (.tuple #[]) ∧ w = w' := by
  have j1 : ¬ (12 : Int) < (n : Int) := by omega
  have j2 : (n : Int) ≤ 12 := by omega
  have HI := Lib.hid (isort_c (.slice a n c) n a c rfl hn w)
  have hs : wrap64 ((n : Int) - 0) = (n : Int) := by unfold wrap64; omega
  go_enter Try.func50, Try.ntmps50
  go_wp2_with fail
  go_loopw [1, 2, 3, 8, 9] (fun s1 s2 s3 s8 s9 wr => s1 = .int .i64 0 ∧ s2 = .int .i64 (n : Int) ∧ s3 = .int .i64 (n : Int) ∧ s8 = .bool true ∧ s9 = .bool true ∧ wr = w) (fun s1 s2 s3 s8 s9 wr => 0)
  case atStart => exact ⟨rfl, rfl, rfl, rfl, rfl, rfl⟩
  case round =>
    obtain ⟨rfl, rfl, rfl, rfl, rfl, rfl⟩ := hrel
    go_wp2_with fail
    refine HI.out.mono ?_
    rintro e w1 ⟨rfl, rfl⟩
    go_wp2_with fail
    refine bodyPost_ret (results_none rfl _ _ _) rfl ?_
    exact ⟨rfl, rfl⟩
set_option maxRecDepth 100000 in
theorem sort_c (n : Nat) (a : Option Addr) (c : Nat) (hn : n ≤ 1) (w : World) :
    Calls Try.prog 28 #[.slice a n c] w fun e w' => e = .returned (.tuple #[]) ∧ w = w' := by
  have HL := Lib.hid (len_c n hn w)
  have HP := Lib.hid (pdq_c n a c hn w)
  have hm : (n : Int) % 18446744073709551616 = (n : Int) := by omega
  go_enter Try.func28, Try.ntmps28
  go_wp2_with fail
  refine HL.out.mono ?_
  rintro e w1 ⟨rfl, rfl⟩
  go_wp2_with fail
  refine HP.out.mono ?_
  rintro e w1 ⟨rfl, rfl⟩
  go_wp2_with fail
  refine bodyPost_end (results_none rfl _ _ _) rfl ?_
  exact ⟨rfl, rfl⟩
end Go.Proofs.Ytpmnmgemdaoigaa
