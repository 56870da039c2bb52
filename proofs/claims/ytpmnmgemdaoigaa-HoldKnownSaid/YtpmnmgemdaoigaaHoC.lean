/- hold: CAS at pointers; atomic.Pointer's methods. -/
import Derived.Test.YtpmnmgemdaoigaaHoB
import Derived.Lib.Builder
import Derived.LaidEql
namespace Go.Proofs.Ytpmnmgemdaoigaa
open Go.RowKit Go.MuLone
set_option linter.unusedVariables false
set_option linter.unusedSimpArgs false

section
variable {P : Program} {f : FuncId} {fn : Func}
theorem run_call_casP_hit (hf : P.funcs[f]? = some fn) (hname : (fn.name == "runtime.NumGoroutine") = false) (hb : fn.body.isNone = true) (hn : Extern.findNext fn = none)
    (he : Extern.find fn = some (Extern.Atomic.casT .ptr)) {a x : Addr} {y : Option Addr} {w : World} (hc : w.cell? a = some (.pointer (some x))) (hz : w.frozen? a = false) :
    (callFunc f #[.pointer (some a), .pointer (some x), .pointer y]).run P w = .ok (.value (.bool true)) (w.setCell a (.pointer y)) := by
  rw [run_callFunc_extern hf hname hb hn he]
  change (Sem.run P (do
    let a' ← asAddr (.pointer (some a))
    if ← Extern.Atomic.touchesFrozen a' then unsupported (.unsafePointer "a write to bytes that a string shares")
    let eq ← match Extern.Atomic.T.ptr, ← Extern.Atomic.read .ptr a', Value.pointer (some x) with
      | _, .int _ x, .int _ y => pure (x == y)
      | .ptr, .pointer x, .pointer y => samePointer x y
      | .int _, .pointer (some _), .int _ 0 | .int _, .int _ 0, .pointer (some _) => pure false
      | .int _, .pointer (some _), _ | .int _, _, .pointer (some _) => unsupported .addressObserved
      | _, _, _ => stuck "atomic.CompareAndSwap: old is no T"
    if eq then store a' (.pointer y) .atomic
    pure (Value.bool eq)) w).andThen _ = _
  simp [Extern.Atomic.touchesFrozen, Extern.Atomic.read, asAddr, viewAt, World.shape?_isSome_of_cell? hc, hc, hz, run_store P w a (.pointer y) .atomic rfl, Result.andThen, samePointer, run_sameAddr_same]
end

theorem lies89 : liesAt Try.prog Try.prog.depth 89 (2 / Try.prog.cellsOf 89) 0 89 1 = true := by kernel_rfl
theorem info89 : ∃ j, Try.prog.info? 89 = some j ∧ j.size ≠ 0 := by
  have h : (Try.prog.info? 89).map (fun j => j.size != 0) = some true := by kernel_rfl
  obtain ⟨j, h1, h2⟩ := Option.map_eq_some_iff.1 h
  exact ⟨j, h1, by simpa using h2⟩
theorem conv_to (p : Nat) (c : Array Value) (w : World) (h : Row w p c 89) (hc : 0 < c.size) :
    (convert 80 27 (.pointer (some ⟨p, 0, none⟩))).run Try.prog w = .ok (.pointer (some ⟨p, 0, none⟩)) w := by
  obtain ⟨j, h1, h2⟩ := info89
  exact Lib.run_to_unsafe w ⟨p, 0, none⟩ Try.underlying80 Try.underlying27 h1 h2 (e := 89) (cells := c.size) (by simp [World.shape?, show w.heap[p]? = _ from h]) hc
theorem conv_from (p : Nat) (x y : Value) (w : World) (h : Row w p #[x, y] 89) :
    (convert 27 80 (.pointer (some ⟨p, 0, none⟩))).run Try.prog w = .ok (.pointer (some ⟨p, 0, none⟩)) w := by
  obtain ⟨j, h1, h2⟩ := info89
  exact Lib.run_from_unsafe w ⟨p, 0, none⟩ Try.underlying27 Try.underlying80 h1 (e := 89) (cells := 2) (by simp [World.shape?, show w.heap[p]? = _ from h]) lies89

theorem pload (a : Addr) (p : Nat) (x y : Value) (w : World) (h : w.cell? a = some (.pointer (some ⟨p, 0, none⟩))) (hp : Row w p #[x, y] 89) :
    Calls Try.prog 55 #[.pointer (some a)] w fun e w' => e = .returned (.pointer (some ⟨p, 0, none⟩)) ∧ w = w' := by
  have hl := run_call_loadP (P := Try.prog) Try.func52 (by kernel_rfl) (by kernel_rfl) (by kernel_rfl) (by kernel_rfl) h
  have hv := conv_from p x y w hp
  go_enter Try.func55, Try.ntmps55
  go_wp2
  go_ret
  exact ⟨rfl, rfl⟩
theorem pstore (a : Addr) (u : Value) (p : Nat) (c : Array Value) (w : World) (h : w.cell? a = some u) (hz : w.frozen? a = false) (hp : Row w p c 89) (hc : 0 < c.size) :
    Calls Try.prog 32 #[.pointer (some a), .pointer (some ⟨p, 0, none⟩)] w fun e w' => e = .returned (.tuple #[]) ∧ w.setCell a (.pointer (some ⟨p, 0, none⟩)) = w' := by
  have hl := run_call_storeP (P := Try.prog) Try.func54 (by kernel_rfl) (by kernel_rfl) (by kernel_rfl) (by kernel_rfl) (y := some ⟨p, 0, none⟩) h hz
  have hv := conv_to p c w hp hc
  go_enter Try.func32, Try.ntmps32
  go_wp2
  go_end0
  exact ⟨rfl, rfl⟩
theorem pcas (a : Addr) (o p : Nat) (co c : Array Value) (w : World) (h : w.cell? a = some (.pointer (some ⟨o, 0, none⟩))) (hz : w.frozen? a = false) (ho : Row w o co 89) (hco : 0 < co.size) (hp : Row w p c 89) (hc : 0 < c.size) :
    Calls Try.prog 56 #[.pointer (some a), .pointer (some ⟨o, 0, none⟩), .pointer (some ⟨p, 0, none⟩)] w fun e w' => e = .returned (.bool true) ∧ w.setCell a (.pointer (some ⟨p, 0, none⟩)) = w' := by
  have hl := run_call_casP_hit (P := Try.prog) Try.func59 (by kernel_rfl) (by kernel_rfl) (by kernel_rfl) (by kernel_rfl) (y := some ⟨p, 0, none⟩) h hz
  have hv := conv_to p c w hp hc
  have hv2 := conv_to o co w ho hco
  go_enter Try.func56, Try.ntmps56
  go_wp2
  go_ret
  exact ⟨rfl, rfl⟩
end Go.Proofs.Ytpmnmgemdaoigaa
