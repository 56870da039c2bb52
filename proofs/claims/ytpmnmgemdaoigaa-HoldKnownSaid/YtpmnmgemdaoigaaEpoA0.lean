/- epoch: a domain in memory; there, load, store, word, whatever the gate. -/
import Derived.Test.YtpmnmgemdaoigaaBase
import Derived.Test.YtpmnmgemdaoigaaAtom
import Derived.BigQuiet
import Derived.Deep.QuietTactic
namespace Go.Proofs.Ytpmnmgemdaoigaa
open Go.RowKit
set_option linter.unusedVariables false
set_option linter.unusedSimpArgs false

theorem Sm.new {F : Nat → Prop} {w w' : World} (h : Sm F w w') (hF : ∀ b, F b → w.heap.size ≤ b) : Sm (fun _ => False) w w' :=
  ⟨h.os, h.tape, h.output, h.size, fun k hk _ => h.block k hk (fun e => by have := hF k e; omega)⟩
/-- A domain's cells. -/
def domC (n : Nat) (ws : List Nat) : Array Value := (Value.int .i64 (n : Int) :: ws.map fun (x : Nat) => Value.int .u64 (x : Int)).toArray
theorem domC_0 (n : Nat) (ws : List Nat) : (domC n ws)[0]? = some (.int .i64 (n : Int)) := rfl
theorem domC_get (n : Nat) (ws : List Nat) (k : Nat) (h : k < ws.length) : (domC n ws)[1 + k]? = some (.int .u64 (ws.getD k 0 : Nat)) := by
  rw [Nat.add_comm]
  simp [domC, h, List.getD]
theorem domC_set (n : Nat) (ws : List Nat) (k v : Nat) : (domC n ws).setIfInBounds (1 + k) (.int .u64 (v : Int)) = domC n (ws.set k v) := by
  rw [Nat.add_comm]
  simp [domC, List.map_set]
/-- A domain of n slots in block S. -/
structure Dom (S n : Nat) (ws : List Nat) (w : World) : Prop where
  row : Row w S (domC n ws) 113
  len : ws.length = 17
  pos : 0 < n
  le : n ≤ 16
theorem Dom.sm {F : Nat → Prop} {S n : Nat} {ws : List Nat} {w w' : World} (h : Dom S n ws w) (k : Sm F w w') (hF : ¬ F S) : Dom S n ws w' := ⟨h.row.sm k hF, h.len, h.pos, h.le⟩
theorem Dom.set {S n : Nat} {ws : List Nat} {w : World} (h : Dom S n ws w) (k v : Nat) : Dom S n (ws.set k v) (w.setCell ⟨S, 1 + k, none⟩ (.int .u64 (v : Int))) := by
  refine ⟨?_, by simpa using h.len, h.pos, h.le⟩
  have := h.row.set (1 + k) (.int .u64 (v : Int))
  rwa [domC_set] at this
theorem Dom.cell {S n : Nat} {ws : List Nat} {w : World} (h : Dom S n ws w) (k : Nat) (hk : k ≤ 16) : w.cell? ⟨S, 1 + k, none⟩ = some (.int .u64 (ws.getD k 0 : Nat)) := (h.row.cell (1 + k)).trans (domC_get n ws k (by rw [h.len]; omega))

/-- A gate: none, or one that writes down (its block nb, and all it makes lie behind nb). -/
structure GateG (g : Value) (nb : Nat) (G : World → List (Int × Int) → Prop) : Prop where
  kind : g = .nilIface ∧ ∀ w L, G w L
theorem GateG.keep {g : Value} {nb : Nat} {G : World → List (Int × Int) → Prop} (h : GateG g nb G) {F : Nat → Prop} {w w' : World} {L : List (Int × Int)} (hg : G w L) (k : Sm F w w') (hF : ∀ b, nb ≤ b → ¬ F b) : G w' L := h.kind.2 _ _
theorem gateG_nil (nb : Nat) : GateG .nilIface nb (fun _ _ => True) := ⟨⟨rfl, fun _ _ => trivial⟩⟩

theorem there_c (S n : Nat) (ws : List Nat) (w : World) (h : Dom S n ws w) :
    Calls Try.prog 44 #[.pointer (some ⟨S, 0, none⟩)] w fun e w' => e = .returned (.bool true) ∧ w = w' := by
  have c0 : w.cell? ⟨S, 0, none⟩ = some (.int .i64 (n : Int)) := h.row.cell 0
  have j : 0 < n := h.pos
  go_enter Try.func44, Try.ntmps44
  go_wp2
  go_ret
  exact ⟨rfl, rfl⟩
theorem there_nil (w : World) :
    Calls Try.prog 44 #[.pointer none] w fun e w' => e = .returned (.bool false) ∧ w = w' := by
  go_enter Try.func44, Try.ntmps44
  go_wp2
  go_ret
  exact ⟨rfl, rfl⟩

set_option maxRecDepth 20000 in
theorem eload_c {g : Value} {nb : Nat} {G : World → List (Int × Int) → Prop} (hG : GateG g nb G) (S n : Nat) (ws : List Nat) (hS : S < nb) (k : Nat) (hk : k ≤ 16) (w : World) (L : List (Int × Int)) (hL : L.length < 1000000) (hg : G w L) (h : Dom S n ws w) :
    Calls Try.prog 41 #[.pointer (some ⟨S, 0, none⟩), g, .int .i64 (k : Int)] w fun e w' => e = .returned (.int .u64 (ws.getD k 0 : Nat)) ∧ G w' (L ++ [(1, (k : Int))]) ∧ Sm (fun b => nb ≤ b) w w' := by
  have j1 : (k : Int) < 17 := by omega
  have j2 : (0 : Int) ≤ (k : Int) := Int.natCast_nonneg _
  obtain ⟨rfl, h1⟩ := hG.kind
  · have hc := h.cell k hk
    clear h
    go_enter Try.func41, Try.ntmps41
    go_wp2_with fail
    refine (aload _ _ _ hc).mono ?_
    rintro e w1 ⟨rfl, rfl⟩
    go_wp2
    go_ret
    exact ⟨rfl, h1 _ _, Sm.refl _ _⟩
set_option maxRecDepth 20000 in
theorem estore_c {g : Value} {nb : Nat} {G : World → List (Int × Int) → Prop} (hG : GateG g nb G) (S n : Nat) (ws : List Nat) (hS : S < nb) (k v : Nat) (hk : k ≤ 16) (w : World) (L : List (Int × Int)) (hL : L.length < 1000000) (hg : G w L) (h : Dom S n ws w) :
    Calls Try.prog 42 #[.pointer (some ⟨S, 0, none⟩), g, .int .i64 (k : Int), .int .u64 (v : Int)] w fun e w' => e = .returned (.tuple #[]) ∧ G w' (L ++ [(2, (k : Int))]) ∧ Sm (fun b => b = S ∨ nb ≤ b) w w' ∧ Dom S n (ws.set k v) w' := by
  have j1 : (k : Int) < 17 := by omega
  have j2 : (0 : Int) ≤ (k : Int) := Int.natCast_nonneg _
  have hfin : ∀ w1 : World, Sm (fun b => nb ≤ b) w w1 → Hid (Dom S n ws w1 ∧ Sm (fun b => b = S ∨ nb ≤ b) w (w1.setCell ⟨S, 1 + k, none⟩ (.int .u64 (v : Int))) ∧ Dom S n (ws.set k v) (w1.setCell ⟨S, 1 + k, none⟩ (.int .u64 (v : Int)))) := fun w1 hs =>
    Lib.hid ⟨h.sm hs (by omega), (hs.mono (fun b hb => .inr hb)).trans (Sm.setCell (F := fun b => b = S ∨ nb ≤ b) (p := ⟨S, 1 + k, none⟩) (Sm.refl _ _) (.inl rfl) _), (h.sm hs (by omega)).set k v⟩
  obtain ⟨rfl, h1⟩ := hG.kind
  · have HF := hfin w (Sm.refl _ _)
    have hc := h.cell k hk
    have hf := h.row.free (1 + k)
    clear h hfin
    go_enter Try.func42, Try.ntmps42
    go_wp2_with fail
    refine (astore _ _ _ _ hc hf).mono ?_
    rintro e w1 ⟨rfl, rfl⟩
    go_wp2
    refine bodyPost_end (results_none rfl _ _ _) rfl ?_
    exact ⟨rfl, h1 _ _, HF.out.2.1, HF.out.2.2⟩
end Go.Proofs.Ytpmnmgemdaoigaa
