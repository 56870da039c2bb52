/- patchbayref00.Within, walked alone. -/
import Derived.Test.YtokoniaoknnggaaBase
import Derived.Test.YtokoniaoknnggaaProg
namespace Go.Proofs.Ytokoniaoknnggaa
open Go.RowKit
set_option linter.unusedVariables false

/-- The number from 0 to n - 1 that Within gives. -/
def wi (i n : Int) : Nat := (if i.tmod n < 0 then i.tmod n + n else i.tmod n).toNat
theorem wi_lt (i n : Int) (h0 : 0 < n) : (wi i n : Int) < n := by
  unfold wi
  have h1 : -n < i.tmod n := by have := Int.lt_tmod_of_pos i h0; omega
  have h2 := Int.tmod_lt_of_pos i h0
  split <;> omega

theorem within_c (i n : Int) (h0 : 0 < n) (h1 : n < 1000000) (w : World) :
    Calls Try.prog 17 #[.int .i64 i, .int .i64 n] w fun e w' => e = .returned (.int .i64 (wi i n)) ∧ w = w' := by
  have hb : -n < i.tmod n ∧ i.tmod n < n := by
    constructor
    · have := Int.lt_tmod_of_pos i h0; omega
    · exact Int.tmod_lt_of_pos i h0
  obtain ⟨hb1, hb2⟩ := hb
  have hn : (n == 0) = false := by simp; omega
  have hw : (wi i n : Int) = if i.tmod n < 0 then i.tmod n + n else i.tmod n := by
    unfold wi
    split <;> omega
  have HW := Lib.hid hw
  clear hw
  go_enter Try.func17, Try.ntmps17
  go_wp2
  · have h : i.tmod n < 0 := by assumption
    go_ret
    exact ⟨by rw [HW.out, if_pos h]; rfl, rfl⟩
  · have h : 0 ≤ i.tmod n := by assumption
    go_ret
    exact ⟨by rw [HW.out, if_neg (by omega)]; rfl, rfl⟩
end Go.Proofs.Ytokoniaoknnggaa
