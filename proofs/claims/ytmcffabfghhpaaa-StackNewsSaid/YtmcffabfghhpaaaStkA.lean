/- The leaves of package stack, walked alone: follower, nextWord, valueWord, none, step. -/
import Derived.Test.YtmcffabfghhpaaaBase
import Derived.Test.YtmcffabfghhpaaaAtom
import Derived.Laws.BitsAllLaws
namespace Go.Proofs.Ytmcffabfghhpaaa
open Go.RowKit
set_option linter.unusedVariables false

/-- The top that follows t, with m. -/
def fol (t m : Nat) : Nat := (t / 4294967296 + 1) % 4294967296 * 4294967296 + m

theorem fol_lt (t m : Nat) (hm : m < 4294967296) : fol t m < 18446744073709551616 := by
  unfold fol
  have := Nat.mod_lt (t / 4294967296 + 1) (show 0 < 4294967296 by decide)
  omega
theorem fol_low (t m : Nat) (hm : m < 4294967296) : fol t m % 4294967296 = m := by unfold fol; omega

theorem fol_spec (t m : Nat) (ht : t < 18446744073709551616) (hm : m < 4294967296) :
    bits .or .u64 (IntKind.u64.wrap (IntKind.u64.wrap ((t : Int) + 4294967296) / 4294967296 * 4294967296)) (m : Int) = ((fol t m : Nat) : Int) := by
  have e : IntKind.u64.wrap (IntKind.u64.wrap ((t : Int) + 4294967296) / 4294967296 * 4294967296) = (((t / 4294967296 + 1) % 4294967296 * 4294967296 : Nat) : Int) := by
    rw [IntKind.wrap_u64, IntKind.wrap_u64]
    omega
  rw [e, or_join _ _ (by omega) (by have := Nat.mod_lt (t / 4294967296 + 1) (show 0 < 4294967296 by decide); omega) hm]
  rfl

theorem follower_c (t m : Nat) (ht : t < 18446744073709551616) (hm : m < 4294967296) (w : World) :
    Calls Try.prog 69 #[.int .u64 t, .int .u64 m] w fun e w' => e = .returned (.int .u64 (fol t m : Nat)) ∧ w = w' := by
  have H := Lib.hid (fol_spec t m ht hm)
  go_enter Try.func69, Try.ntmps69
  go_wp2
  go_ret
  refine ⟨?_, rfl⟩
  apply ret_u64
  have := H.out
  simpa using this

theorem follower_s (t i : Nat) (ht : t < 18446744073709551616) (hm : i + 1 < 4294967296) (w : World) :
    Calls Try.prog 69 #[.int .u64 t, .int .u64 ((i : Int) + 1)] w fun e w' => e = .returned (.int .u64 (fol t (i + 1) : Nat)) ∧ w = w' := by
  have h := follower_c t (i + 1) ht hm w
  rw [show ((i + 1 : Nat) : Int) = (i : Int) + 1 from by omega] at h
  exact h

theorem nextWord_c (i : Nat) (hi : i < 4294967296) (w : World) :
    Calls Try.prog 67 #[.int .u64 i] w fun e w' => e = .returned (.int .i64 (2 + 2 * (i : Int))) ∧ w = w' := by
  go_enter Try.func67, Try.ntmps67
  go_wp2
  go_ret
  exact ⟨rfl, rfl⟩

theorem valueWord_c (i : Nat) (hi : i < 4294967296) (w : World) :
    Calls Try.prog 46 #[.int .u64 i] w fun e w' => e = .returned (.int .i64 (3 + 2 * (i : Int))) ∧ w = w' := by
  go_enter Try.func46, Try.ntmps46
  go_wp2
  go_ret
  exact ⟨rfl, rfl⟩

theorem step_nil (op wd : Int) (w : World) :
    Calls Try.prog 45 #[.nilIface, .int .u8 op, .int .i64 wd] w fun e w' => e = .returned (.tuple #[]) ∧ w = w' := by
  go_enter Try.func45, Try.ntmps45
  go_wp2
  go_end0
  exact ⟨rfl, rfl⟩
end Go.Proofs.Ytmcffabfghhpaaa
