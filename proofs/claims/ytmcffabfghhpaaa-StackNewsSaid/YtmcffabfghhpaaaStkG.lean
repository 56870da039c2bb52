/- stack.step at the gate that writes down; the gates of package stack's walks. -/
import Derived.Test.YtmcffabfghhpaaaStkE
import Derived.Test.YtmcffabfghhpaaaNote
import Derived.Handy
namespace Go.Proofs.Ytmcffabfghhpaaa
open Go.RowKit
set_option linter.unusedVariables false

theorem gate_nil (B S N : Nat) : GateOk .nilIface B S N (fun _ _ => True) where
  step := fun w L op wd _ _ => (step_nil op wd w).mono fun e w' ⟨h1, h2⟩ => by
    subst h2
    exact ⟨h1, trivial, Below.refl _ _, rfl, rfl⟩
  keep := fun _ _ _ _ _ => trivial

theorem gate_nilX (B S N : Nat) (X : World → Prop) (hX : ∀ w w', X w → Sm (fun k => k = S ∨ k = N) w w' → X w') : GateOk .nilIface B S N (fun w _ => X w) where
  step := fun w L op wd _ hg => (step_nil op wd w).mono fun e w' ⟨h1, h2⟩ => by
    subst h2
    exact ⟨h1, hg, Below.refl _ _, rfl, rfl⟩
  keep := fun w w' _ h k => hX w w' h k

theorem stepNote_c (nb : Nat) (op wd : Int) (w : World) (L : List (Int × Int)) (hL : L.length < 1000000) (h : Noted nb w L) :
    Calls Try.prog 45 #[.iface 90 (.pointer (some ⟨nb, 0, none⟩)), .int .u8 op, .int .i64 wd] w fun e w' =>
      e = .returned (.tuple #[]) ∧ Noted nb w' (L ++ [(op, wd)]) ∧ Sm (fun b => nb ≤ b) w w' := by
  have H := Lib.hid (noteStep_c nb op wd w L hL h)
  clear h
  go_enter Try.func45, Try.ntmps45
  go_wp2_with fail
  refine H.out.mono ?_
  rintro e w' ⟨rfl, h1, h2⟩
  have H2 := Lib.hid h2
  clear h2
  go_wp2
  refine bodyPost_end (results_none rfl _ _ _) rfl ?_
  exact ⟨rfl, h1, H2.out⟩

theorem gate_note (B S N nb : Nat) (hS : S < nb) (hN : N < nb) (hB : B ≤ nb) : GateOk (.iface 90 (.pointer (some ⟨nb, 0, none⟩))) B S N (fun w L => nb < w.heap.size ∧ Noted nb w L) where
  step := fun w L op wd hL hg => (stepNote_c nb op wd w L hL hg.2).mono fun e w' ⟨h1, h2, h3⟩ =>
    ⟨h1, ⟨Nat.lt_of_lt_of_le hg.1 h3.size, h2⟩, h3.below (by omega) (fun k hk => by omega), h3.block S (by omega) (by omega), h3.block N (by omega) (by omega)⟩
  keep := fun w w' L hg k => ⟨Nat.lt_of_lt_of_le hg.1 k.size, hg.2.sm k (fun b hb => by omega)⟩
end Go.Proofs.Ytmcffabfghhpaaa
