/- Keys' bytes and hashes, walked alone: octets.width, octets.Put, octets.Hash. -/
import Derived.Test.YthjdnhlckjchgaaBase
import Derived.Test.YthjdnhlckjchgaaAtom
import Derived.Handy
import Derived.Laws.CopyOwn
import Derived.Laws.MakeOwn
namespace Go.Proofs.Ythjdnhlckjchgaa
open Go.RowKit
set_option linter.unusedVariables false

def uw (m : List Nat) : Array Value := (m.map fun (x : Nat) => Value.int .u64 (x : Int)).toArray
theorem uw_get (m : List Nat) (i : Nat) (h : i < m.length) : (uw m)[i]? = some (.int .u64 (m[i] : Nat)) := by
  simp [uw, h]
theorem uw_set (m : List Nat) (i v : Nat) : (uw m).setIfInBounds i (.int .u64 (v : Int)) = uw (m.set i v) := by
  simp [uw, List.map_set]
/-- Bytes, as cells. -/
def ub (m : List Nat) : List Value := m.map fun (x : Nat) => Value.int .u8 (x : Int)
theorem ub_len (m : List Nat) : (ub m).length = m.length := by simp [ub]
theorem ub_app (a b : List Nat) : ub (a ++ b) = ub a ++ ub b := by simp [ub]
theorem ub_get (m : List Nat) (j : Nat) (u : Value) (h : (ub m)[j]? = some u) : j < m.length ∧ u.oneCell' = true := by
  have h2 := (List.getElem?_eq_some_iff.1 h).1
  rw [ub_len] at h2
  refine ⟨h2, ?_⟩
  simp [ub, h2] at h
  rw [← h]
  rfl

theorem info_parts {T : TypeId} {z : Option Value} {s b : Nat} (h : (Try.prog.info? T).map (fun i => (i.zero, i.size, i.bytes)) = some (z, s, b)) :
    ∃ i, Try.prog.info? T = some i ∧ i.zero = z ∧ i.size = s ∧ i.bytes = b := by
  cases h' : Try.prog.info? T with
  | none => simp [h'] at h
  | some i =>
    simp [h'] at h
    exact ⟨i, rfl, h.1, h.2.1, h.2.2⟩
theorem info_u8 : (Try.prog.info? 5).map (fun i => (i.zero, i.size, i.bytes)) = some (some (.int .u8 0), 1, 1) := by kernel_rfl
theorem info_u64 : (Try.prog.info? 36).map (fun i => (i.zero, i.size, i.bytes)) = some (some (.int .u64 0), 1, 8) := by kernel_rfl
theorem made_one (n : Nat) (z : Value) : madeCells #[z] (n * 1) = (List.replicate n z).toArray := by
  apply Array.ext
  · simp [size_madeCells]
  · intro j h1 h2
    simp [madeCells, Nat.mod_one]
theorem make_u8s (n c : Nat) (hnc : n ≤ c) (hn : c ≤ 1000000) (w : World) :
    (Instr.makeSlice 177 (.int .i64 n) (.int .i64 c)).run Try.prog w = .ok (.slice (some ⟨w.heap.size, 0, none⟩) n c) (w.alloc (.cells (ub (List.replicate c 0)).toArray 5)) := by
  obtain ⟨i0, hi, hz0, hz1, hz2⟩ := info_parts info_u8
  have h := run_makeSlice (P := Try.prog) w 177 5 i0 _ Try.underlying177 hi hz0 .i64 .i64 n c (by omega) (by omega) (by rw [hz1]; omega) (by rw [hz2]; omega) (by omega)
  rw [hz1] at h
  simp only [Int.toNat_natCast] at h
  have e : madeCells (Value.int .u8 0).cells (c * 1) = (ub (List.replicate c 0)).toArray := by
    have := made_one c (.int .u8 0)
    simp only [Value.cells]
    rw [this]
    simp [ub]
  rw [e] at h
  exact h

theorem width8 (w : World) : Calls Try.prog 92 #[] w fun e w' => e = .returned (.int .i64 1) ∧ w = w' := by
  go_enter Try.func92, Try.ntmps92
  go_wp2
  go_loop [1, 2] (fun s1 s2 => (s1 = .int .i64 0 ∧ s2 = .int .u64 255) ∨ (s1 = .int .i64 1 ∧ s2 = .int .u64 0)) (fun s1 s2 => 1 - (intOf s1).toNat)
  case atStart => exact .inl ⟨rfl, rfl⟩
  case round =>
    rcases hrel with ⟨rfl, rfl⟩ | ⟨rfl, rfl⟩
    · go_wp2
      go_round
      case rel => exact .inr ⟨rfl, rfl⟩
      case measure => decide
    · go_wp2
      go_ret
      exact ⟨rfl, rfl⟩
theorem width16 (w : World) : Calls Try.prog 93 #[] w fun e w' => e = .returned (.int .i64 2) ∧ w = w' := by
  go_enter Try.func93, Try.ntmps93
  go_wp2
  go_loop [1, 2] (fun s1 s2 => (s1 = .int .i64 0 ∧ s2 = .int .u64 65535) ∨ (s1 = .int .i64 1 ∧ s2 = .int .u64 255) ∨ (s1 = .int .i64 2 ∧ s2 = .int .u64 0)) (fun s1 s2 => 2 - (intOf s1).toNat)
  case atStart => exact .inl ⟨rfl, rfl⟩
  case round =>
    rcases hrel with ⟨rfl, rfl⟩ | ⟨rfl, rfl⟩ | ⟨rfl, rfl⟩
    · go_wp2
      go_round
      case rel => exact .inr (.inl ⟨rfl, rfl⟩)
      case measure => decide
    · go_wp2
      go_round
      case rel => exact .inr (.inr ⟨rfl, rfl⟩)
      case measure => decide
    · go_wp2
      go_ret
      exact ⟨rfl, rfl⟩

end Go.Proofs.Ythjdnhlckjchgaa
