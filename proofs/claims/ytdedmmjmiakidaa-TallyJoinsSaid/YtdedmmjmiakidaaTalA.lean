/- Package tally, walked alone: the step of a gate; New; Add, Parts, Sum. -/
import Derived.Test.YtdedmmjmiakidaaNote
import Derived.Test.YtdedmmjmiakidaaAtom
import Derived.Test.YtdedmmjmiakidaaMarks
import Derived.Test.YtdedmmjmiakidaaTalLen
import Derived.Handy
namespace Go.Proofs.Ytdedmmjmiakidaa
open Go.RowKit
set_option linter.unusedVariables false

def uw (m : List Nat) : Array Value := (m.map fun (x : Nat) => Value.int .u64 (x : Int)).toArray
theorem uw_get (m : List Nat) (i : Nat) (h : i < m.length) : (uw m)[i]? = some (.int .u64 (m[i] : Nat)) := by
  simp [uw, h]
theorem uw_set (m : List Nat) (i v : Nat) : (uw m).setIfInBounds i (.int .u64 (v : Int)) = uw (m.set i v) := by
  simp [uw, List.map_set]

theorem aadd (a : Addr) (x n s : Nat) (w : World) (h : w.cell? a = some (.int .u64 (x : Int))) (hz : w.frozen? a = false) (hs : (x + n) % 18446744073709551616 = s) :
    Calls Try.prog 47 #[.pointer (some a), .int .u64 (n : Int)] w fun e w' => e = .returned (.int .u64 (s : Int)) ∧ w.setCell a (.int .u64 (s : Int)) = w' := by
  have e : IntKind.u64.wrap ((x : Int) + (n : Int)) = (s : Int) := by rw [IntKind.wrap_u64]; omega
  have hl := run_call_add (P := Try.prog) Try.func70 (by kernel_rfl) (by kernel_rfl) (by kernel_rfl) .u64 (by kernel_rfl) (y := (n : Int)) (s := (s : Int)) h hz (by rw [← e]; rfl)
  clear e hs
  go_enter Try.func47, Try.ntmps47
  go_wp2
  go_ret
  exact ⟨rfl, rfl⟩

theorem tstep_nil (op wd : Int) (w : World) :
    Calls Try.prog 46 #[.nilIface, .int .u8 op, .int .i64 wd] w fun e w' => e = .returned (.tuple #[]) ∧ w = w' := by
  go_enter Try.func46, Try.ntmps46
  go_wp2
  go_end0
  exact ⟨rfl, rfl⟩

theorem tstep_note (nb : Nat) (op wd : Int) (w : World) (L : List (Int × Int)) (hL : L.length < 1000000) (h : Noted nb w L) :
    Calls Try.prog 46 #[.iface 61 (.pointer (some ⟨nb, 0, none⟩)), .int .u8 op, .int .i64 wd] w fun e w' =>
      e = .returned (.tuple #[]) ∧ Noted nb w' (L ++ [(op, wd)]) ∧ Sm (fun b => nb ≤ b) w w' := by
  have H := Lib.hid (noteStep_c nb op wd w L hL h)
  clear h
  go_enter Try.func46, Try.ntmps46
  go_wp2_with fail
  refine H.out.mono ?_
  rintro e w' ⟨rfl, h1, h2⟩
  have H2 := Lib.hid h2
  clear h2
  go_wp2
  refine bodyPost_end (results_none rfl _ _ _) rfl ?_
  exact ⟨rfl, h1, H2.out⟩

/-- What is asked of a gate beside an object whose blocks are X. -/
structure GateOk (g : Value) (B : Nat) (X : Nat → Prop) (G : World → List (Int × Int) → Prop) : Prop where
  step : ∀ (w : World) (L : List (Int × Int)) (op wd : Int), L.length < 1000000 → G w L → Calls Try.prog 46 #[g, .int .u8 op, .int .i64 wd] w fun e w' =>
    e = .returned (.tuple #[]) ∧ G w' (L ++ [(op, wd)]) ∧ Below B w w' ∧ ∀ k, X k → w'.heap[k]? = w.heap[k]?
  keep : ∀ (w w' : World) (L : List (Int × Int)), G w L → Sm X w w' → G w' L

theorem gate_nilX (B : Nat) (X : Nat → Prop) (Y : World → Prop) (hY : ∀ w w', Y w → Sm X w w' → Y w') : GateOk .nilIface B X (fun w _ => Y w) where
  step := fun w L op wd _ hg => (tstep_nil op wd w).mono fun e w' ⟨h1, h2⟩ => by
    subst h2
    exact ⟨h1, hg, Below.refl _ _, fun _ _ => rfl⟩
  keep := fun w w' _ h k => hY w w' h k

theorem gate_note (B nb : Nat) (X : Nat → Prop) (hX : ∀ k, X k → k < nb) (hB : B ≤ nb) : GateOk (.iface 61 (.pointer (some ⟨nb, 0, none⟩))) B X (fun w L => nb < w.heap.size ∧ Noted nb w L) where
  step := fun w L op wd hL hg => (tstep_note nb op wd w L hL hg.2).mono fun e w' ⟨h1, h2, h3⟩ =>
    ⟨h1, ⟨Nat.lt_of_lt_of_le hg.1 h3.size, h2⟩, h3.below (by omega) (fun k hk => by omega), fun k hk => h3.block k (by have := hX k hk; omega) (by have := hX k hk; omega)⟩
  keep := fun w w' L hg k => ⟨Nat.lt_of_lt_of_le hg.1 k.size, hg.2.sm k (fun b hb hf => by have := hX b hf; omega)⟩
end Go.Proofs.Ytdedmmjmiakidaa
