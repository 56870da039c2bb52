/- hold: the lock's link, pointers that are atomic, sorting of at most one number. -/
import Derived.Test.YtpmnmgemdaoigaaEpoE0
import Derived.Conc.MuLone
import Derived.Conc.MuData
import Derived.Defers
namespace Go.Proofs.Ytpmnmgemdaoigaa
open Go.RowKit Go.MuLone
set_option linter.unusedVariables false
set_option linter.unusedSimpArgs false

abbrev muLink : Go.Conc.Locks.MuLink := { lock := 24, unlock := 25, ilock := 47, iunlock := 48, lockSlow := 65, unlockSlow := 68, disable := 61, enable := 63, acquire := 64, relMerge := 66, cas32 := 62, add32 := 67, tMutex := 36, tIMutex := 34, tPMutex := 115, tPIMutex := 134, tPI32 := 136, tUP := 27, tNoCopy := 31, tU32 := 32 }
theorem muLib : Go.Conc.Locks.MuLib Try.prog muLink :=
  ⟨Try.func24, Try.func25, Try.func47, Try.func48, Try.func61, Try.func63, Try.func64, Try.func66, Try.func62, Try.func67, Try.underlying34, Try.runUnderlying34, Try.sizeOf34, Try.isAgg34, Try.zeroValue34, Try.underlying36, Try.runUnderlying36, Try.sizeOf36, Try.isAgg36, Try.zeroValue36, Try.underlying115, Try.runUnderlying115, Try.sizeOf115, Try.isAgg115, Try.zeroValue115, Try.underlying134, Try.runUnderlying134, Try.sizeOf134, Try.isAgg134, Try.zeroValue134, Try.underlying136, Try.runUnderlying136, Try.sizeOf136, Try.isAgg136, Try.zeroValue136, Try.underlying27, Try.runUnderlying27, Try.sizeOf27, Try.isAgg27, Try.zeroValue27, Try.underlying31, Try.runUnderlying31, Try.sizeOf31, Try.isAgg31, Try.zeroValue31, Try.underlying21, Try.runUnderlying21, Try.sizeOf21, Try.isAgg21, Try.zeroValue21, (by kernel_rfl)⟩
set_option maxRecDepth 100000 in
theorem isort_c (v : Value) (n : Nat) (a : Option Addr) (c : Nat) (hv : v = .slice a n c) (hn : n ≤ 1) (w : World) : Calls Try.prog 69 #[v, .int .i64 0, .int .i64 (n : Int)] w fun e w' => e = .returned (.tuple #[]) ∧ w = w' := by
  subst hv
  have hc : n = 0 ∨ n = 1 := by omega
  rcases hc with rfl | rfl
  all_goals
    go_enter Try.func69, Try.ntmps69
    go_wp2_with fail
    go_loopw [6] (fun s6 wr => s6 = .int .i64 1 ∧ wr = w) (fun s6 wr => 0)
    case atStart => exact ⟨rfl, rfl⟩
    case round =>
      obtain ⟨rfl, rfl⟩ := hrel
      go_wp2_with fail
      refine bodyPost_end (results_none rfl _ _ _) rfl ?_
      exact ⟨rfl, rfl⟩
end Go.Proofs.Ytpmnmgemdaoigaa
