/- Contracts of sync/atomic.Uint64's methods, walked alone. -/
import Derived.Test.YtpmnmgemdaoigaaProg
import Derived.WalkKit
import Derived.WalkLawsBesides
import Derived.WalkSpells
import Derived.RowKit
import Derived.KernelRfl
namespace Go.Proofs.Ytpmnmgemdaoigaa
open Go.RowKit

theorem aload (a : Addr) (v : Int) (w : World) (h : w.cell? a = some (.int .u64 v)) :
    Calls Try.prog 58 #[.pointer (some a)] w fun e w' => e = .returned (.int .u64 v) ∧ w = w' := by
  have hl := run_call_load (P := Try.prog) Try.func81 (by kernel_rfl) (by kernel_rfl) (by kernel_rfl) .u64 (by kernel_rfl) h
  go_enter Try.func58, Try.ntmps58
  go_wp2
  go_ret
  exact ⟨rfl, rfl⟩

theorem astore (a : Addr) (u : Value) (v : Int) (w : World) (h : w.cell? a = some u) (hz : w.frozen? a = false) :
    Calls Try.prog 53 #[.pointer (some a), .int .u64 v] w fun e w' => e = .returned (.tuple #[]) ∧ w.setCell a (.int .u64 v) = w' := by
  have hl := run_call_store (P := Try.prog) Try.func80 (by kernel_rfl) (by kernel_rfl) (by kernel_rfl) (by kernel_rfl) (k := .u64) (y := v) h hz
  go_enter Try.func53, Try.ntmps53
  go_wp2
  go_end0
  exact ⟨rfl, rfl⟩
theorem acas_hit (a : Addr) (x y : Int) (w : World) (h : w.cell? a = some (.int .u64 x)) (hz : w.frozen? a = false) :
    Calls Try.prog 46 #[.pointer (some a), .int .u64 x, .int .u64 y] w fun e w' => e = .returned (.bool true) ∧ w.setCell a (.int .u64 y) = w' := by
  have hl := run_call_cas_hit (P := Try.prog) Try.func60 (by kernel_rfl) (by kernel_rfl) (by kernel_rfl) .u64 (by kernel_rfl) (y := y) h hz
  go_enter Try.func46, Try.ntmps46
  go_wp2
  go_ret
  exact ⟨rfl, rfl⟩

theorem acas_miss (a : Addr) (x o y : Int) (w : World) (h : w.cell? a = some (.int .u64 x)) (hz : w.frozen? a = false) (hne : ¬ x = o) :
    Calls Try.prog 46 #[.pointer (some a), .int .u64 o, .int .u64 y] w fun e w' => e = .returned (.bool false) ∧ w = w' := by
  have hl := run_call_cas_miss (P := Try.prog) Try.func60 (by kernel_rfl) (by kernel_rfl) (by kernel_rfl) .u64 (by kernel_rfl) (y := y) h hz hne
  go_enter Try.func46, Try.ntmps46
  go_wp2
  go_ret
  exact ⟨rfl, rfl⟩
end Go.Proofs.Ytpmnmgemdaoigaa
