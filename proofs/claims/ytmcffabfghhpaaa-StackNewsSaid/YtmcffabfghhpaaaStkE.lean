/- stack.New, walked alone. -/
import Derived.Test.YtmcffabfghhpaaaStkD
import Derived.LoopTactic
namespace Go.Proofs.Ytmcffabfghhpaaa
open Go.RowKit
set_option linter.unusedVariables false

def memK (n k : Nat) : List Nat := (List.range (2 * n)).map fun j => if j % 2 = 0 ∧ j / 2 < k then j / 2 + 2 else 0
theorem memK_len (n k : Nat) : (memK n k).length = 2 * n := by simp [memK]
theorem memK_zero (n : Nat) : memK n 0 = List.replicate (2 * n) 0 := by
  apply List.ext_getElem <;> simp [memK]
theorem memK_get (n k j : Nat) (h : j < (memK n k).length) : (memK n k)[j] = if j % 2 = 0 ∧ j / 2 < k then j / 2 + 2 else 0 := by simp [memK]
theorem memK_succ (n k : Nat) : (memK n k).set (2 * k) (k + 2) = memK n (k + 1) := by
  apply List.ext_getElem
  · simp [memK]
  · intro j h1 h2
    rw [List.getElem_set, memK_get, memK_get]
    split
    · rw [if_pos (by omega)]; omega
    · split
      · rw [if_pos (by omega)]
      · rw [if_neg (by omega)]

theorem info_node : (Try.prog.info? 113).map (fun i => (i.zero, i.size, i.bytes)) = some (some (.agg #[.int .u64 0, .int .u64 0]), 2, 16) := by kernel_rfl

theorem made_nodes (n : Nat) : madeCells (Value.agg #[.int .u64 0, .int .u64 0]).cells (n * 2) = uw (List.replicate (2 * n) 0) := by
  apply Array.ext
  · simp [size_madeCells, uw]; omega
  · intro j h1 h2
    have : j % 2 = 0 ∨ j % 2 = 1 := by omega
    rcases this with h | h <;> simp [madeCells, uw, Value.cells, h]

theorem make_nodes (n : Nat) (hn : n ≤ 1024) (w : World) :
    (Instr.makeSlice 105 (.int .i64 n) (.int .i64 n)).run Try.prog w = .ok (.slice (some ⟨w.heap.size, 0, none⟩) n n) (w.alloc (.cells (uw (List.replicate (2 * n) 0)) 113)) := by
  obtain ⟨i0, hi, hz0, hz1, hz2⟩ := info_parts info_node
  have h := run_makeSlice (P := Try.prog) w 105 113 i0 _ Try.underlying105 hi hz0 .i64 .i64 n n (by omega) (by omega) (by rw [hz1]; omega) (by rw [hz2]; omega) (by omega)
  rw [hz1] at h
  simp only [Int.toNat_natCast, made_nodes] at h
  exact h

set_option maxRecDepth 100000 in
set_option maxHeartbeats 400000 in
theorem new_ok (n : Nat) (hn0 : 0 < n) (hn : n ≤ 1024) (hb : bits .and .i64 (n : Int) ((n : Int) - 1) = 0) (w : World) :
    Calls Try.prog 12 #[.int .i64 n] w fun e w' =>
      e = .returned (.tuple #[.pointer (some ⟨w.heap.size + 1, 0, none⟩), .int .i64 0]) ∧ Below w.heap.size w w' ∧ Stk (w.heap.size + 1) w.heap.size n 0 1 (memK n (n - 1)) w' := by
  have hm := Lib.hid (make_nodes n hn w)
  have HB := Lib.hid hb
  clear hb
  go_enter Try.func12, Try.ntmps12
  have hb := HB.out
  have hm' := hm.out
  go_wp2_with fail
  clear hb hm'
  obtain ⟨N, hN⟩ : ∃ N, N = w.heap.size := ⟨_, rfl⟩
  have hS0 : Row ((w.alloc (Obj.cells (uw (List.replicate (2 * n) 0)) 113)).alloc (Obj.cells #[Value.int IntKind.u64 0, Value.int IntKind.u64 0, Value.slice (some { block := w.heap.size, off := 0 }) n n] 107)) (N + 1) (hdr 0 0 N n) 107 := by
    have := Row.new (w.alloc (Obj.cells (uw (List.replicate (2 * n) 0)) 113)) #[Value.int IntKind.u64 0, Value.int IntKind.u64 0, Value.slice (some { block := w.heap.size, off := 0 }) n n] 107
    rw [World.size_alloc] at this
    rw [hN]
    exact this
  have hN0 : Row ((w.alloc (Obj.cells (uw (List.replicate (2 * n) 0)) 113)).alloc (Obj.cells #[Value.int IntKind.u64 0, Value.int IntKind.u64 0, Value.slice (some { block := w.heap.size, off := 0 }) n n] 107)) N (uw (memK n 0)) 113 := by
    rw [hN, memK_zero]
    exact (Row.new w _ _).alloc _
  have hB0 : Below N w ((w.alloc (Obj.cells (uw (List.replicate (2 * n) 0)) 113)).alloc (Obj.cells #[Value.int IntKind.u64 0, Value.int IntKind.u64 0, Value.slice (some { block := w.heap.size, off := 0 }) n n] 107)) := by
    rw [hN]
    exact ((Below.refl _ _).alloc (Nat.le_refl _) _).alloc (by simp) _
  generalize (w.alloc (Obj.cells (uw (List.replicate (2 * n) 0)) 113)).alloc (Obj.cells #[Value.int IntKind.u64 0, Value.int IntKind.u64 0, Value.slice (some { block := w.heap.size, off := 0 }) n n] 107) = w1 at *
  rw [← hN]
  have HN := Lib.hid hN
  clear hN
  refine (astore _ _ _ _ (hS0.cell 1) (hS0.free 1)).mono ?_
  rintro e wx ⟨rfl, rfl⟩
  have hS1 : Row (w1.setCell ⟨N + 1, 1, none⟩ (.int .u64 1)) (N + 1) (hdr 0 1 N n) 107 := hS0.set 1 _
  have hN1 : Row (w1.setCell ⟨N + 1, 1, none⟩ (.int .u64 1)) N (uw (memK n 0)) 113 := hN0.set_ne (by simp) _
  have hB1 : Below N w (w1.setCell ⟨N + 1, 1, none⟩ (.int .u64 1)) := hB0.setCell (by simp) _
  generalize w1.setCell ⟨N + 1, 1, none⟩ (.int .u64 1) = w2 at *
  clear hS0 hN0 hB0
  have HS1 := Lib.hid hS1
  go_wp2
  go_loopw [30] (fun s30 wr => ∃ k : Nat, k ≤ n - 1 ∧ s30 = .int .i64 k ∧ Row wr (N + 1) (hdr 0 1 N n) 107 ∧ Row wr N (uw (memK n k)) 113 ∧ Below N w wr) (fun s30 _ => n - (intOf s30).toNat)
  case atStart => exact ⟨0, by omega, rfl, hS1, hN1, hB1⟩
  case round =>
    obtain ⟨k, hk, rfl, hSr, hNr, hBr⟩ := hrel
    have hx : wr.cell? ⟨N + 1, 2, none⟩ = some (.slice (some ⟨N, 0, none⟩) n n) := hSr.cell 2
    by_cases hlt : k < n - 1
    · have hd : wr.cell? ⟨N, k * 2, none⟩ = some (.int .u64 ((memK n k)[2 * k]'(by rw [memK_len]; omega) : Nat)) := by
        rw [Nat.mul_comm]
        exact (hNr.cell (2 * k)).trans (uw_get _ _ _)
      have hf : wr.frozen? ⟨N, k * 2, none⟩ = false := hNr.free _
      have Hd := Lib.hid hd
      clear hd
      go_wp2_with fail
      refine (astore _ _ _ _ Hd.out hf).mono ?_
      rintro e wx ⟨rfl, rfl⟩
      have hS2 : Row (wr.setCell ⟨N, k * 2, none⟩ (.int .u64 ((k : Int) + 2))) (N + 1) (hdr 0 1 N n) 107 := hSr.set_ne (by simp) _
      have hN2 : Row (wr.setCell ⟨N, k * 2, none⟩ (.int .u64 ((k : Int) + 2))) N (uw (memK n (k + 1))) 113 := by
        have := hNr.set (2 * k) (.int .u64 ((k + 2 : Nat) : Int))
        rw [uw_set, memK_succ, Nat.mul_comm] at this
        exact this
      have hB2 : Below N w (wr.setCell ⟨N, k * 2, none⟩ (.int .u64 ((k : Int) + 2))) := hBr.setCell (by simp) _
      generalize wr.setCell ⟨N, k * 2, none⟩ (.int .u64 ((k : Int) + 2)) = w3 at *
      clear hSr hNr hBr hx Hd hf
      have HS2 := Lib.hid hS2
      have HN2 := Lib.hid hN2
      clear hS2 hN2
      go_wp2
      go_roundw
      case rel => exact ⟨k + 1, by omega, by go_num, HS2.out, HN2.out, hB2⟩
      case measure => simp [intOf]; omega
    · have hk1 : k = n - 1 := by omega
      have HK := Lib.hid hk1
      have hge : ¬ ((k : Int) < (n : Int) - 1) := by omega
      clear hk1 hlt
      have HSr := Lib.hid hSr
      have HNr := Lib.hid hNr
      clear hSr hNr hx
      go_wp2
      go_ret2
      rw [HN.out] at *
      have h1 := HNr.out
      rw [HK.out] at h1
      refine ⟨rfl, hBr, HSr.out, h1, by simp, memK_len _ _, hn0, hn, by decide, by decide, ?_⟩
      intro j hj
      rw [memK_get]
      split <;> omega
end Go.Proofs.Ytmcffabfghhpaaa
