/- Package tally, walked alone: New, Add, Parts, Sum; NewHist, Hist.Add, Hist.Get. -/
import Derived.Test.YtdedmmjmiakidaaTalA
namespace Go.Proofs.Ytdedmmjmiakidaa
open Go.RowKit
set_option linter.unusedVariables false

/-- A tally in memory: its shards. -/
structure Tal (T A : Nat) (m : List Nat) (w : World) : Prop where
  rT : Row w T #[.slice (some ⟨A, 0, none⟩) m.length m.length] 50
  rA : Row w A (uw m) 55
  ne : T ≠ A
  pos : 0 < m.length
  le : m.length ≤ 64

theorem Tal.sm {F : Nat → Prop} {T A : Nat} {m : List Nat} {w w' : World} (h : Tal T A m w) (k : Sm F w w') (hT : ¬ F T) (hA : ¬ F A) : Tal T A m w' :=
  { h with rT := h.rT.sm k hT, rA := h.rA.sm k hA }

theorem info_au64 : (Try.prog.info? 55).map (fun i => (i.zero, i.size, i.bytes)) = some (some (.agg #[.int .u64 0]), 1, 8) := by kernel_rfl
theorem info_u64 : (Try.prog.info? 23).map (fun i => (i.zero, i.size, i.bytes)) = some (some (.int .u64 0), 1, 8) := by kernel_rfl

theorem made_one (n : Nat) (z : Value) : madeCells #[z] (n * 1) = (List.replicate n z).toArray := by
  apply Array.ext
  · simp [size_madeCells]
  · intro j h1 h2
    simp [madeCells, Nat.mod_one]

theorem make_shards (n : Nat) (hn : n ≤ 64) (w : World) :
    (Instr.makeSlice 48 (.int .i64 n) (.int .i64 n)).run Try.prog w = .ok (.slice (some ⟨w.heap.size, 0, none⟩) n n) (w.alloc (.cells (uw (List.replicate n 0)) 55)) := by
  obtain ⟨i0, hi, hz0, hz1, hz2⟩ := info_parts info_au64
  have h := run_makeSlice (P := Try.prog) w 48 55 i0 _ Try.underlying48 hi hz0 .i64 .i64 n n (by omega) (by omega) (by rw [hz1]; omega) (by rw [hz2]; omega) (by omega)
  rw [hz1] at h
  simp only [Int.toNat_natCast] at h
  have e : madeCells (Value.agg #[Value.int .u64 0]).cells (n * 1) = uw (List.replicate n 0) := by
    have := made_one n (.int .u64 0)
    simp only [Value.cells]
    rw [this]
    simp [uw]
  rw [e] at h
  exact h

theorem make_u64s (n : Nat) (hn : n ≤ 1000000) (w : World) :
    (Instr.makeSlice 38 (.int .i64 n) (.int .i64 n)).run Try.prog w = .ok (.slice (some ⟨w.heap.size, 0, none⟩) n n) (w.alloc (.cells (uw (List.replicate n 0)) 23)) := by
  obtain ⟨i0, hi, hz0, hz1, hz2⟩ := info_parts info_u64
  have h := run_makeSlice (P := Try.prog) w 38 23 i0 _ Try.underlying38 hi hz0 .i64 .i64 n n (by omega) (by omega) (by rw [hz1]; omega) (by rw [hz2]; omega) (by omega)
  rw [hz1] at h
  simp only [Int.toNat_natCast] at h
  have e : madeCells (Value.int .u64 0).cells (n * 1) = uw (List.replicate n 0) := by
    have := made_one n (.int .u64 0)
    simp only [Value.cells]
    rw [this]
    simp [uw]
  rw [e] at h
  exact h

set_option maxRecDepth 100000 in
theorem tnew_ok (n : Nat) (h0 : 0 < n) (hn : n ≤ 64) (w : World) :
    Calls Try.prog 22 #[.int .i64 n] w fun e w' => e = .returned (.tuple #[.pointer (some ⟨w.heap.size + 1, 0, none⟩), .int .i64 0]) ∧ Sm (fun _ => False) w w' ∧ Tal (w.heap.size + 1) w.heap.size (List.replicate n 0) w' := by
  have hm := make_shards n hn w
  go_enter Try.func22, Try.ntmps22
  go_wp2
  go_ret2
  refine ⟨rfl, ((Sm.refl _ _).alloc _).alloc _, ?_, ?_, by simp, by simpa using h0, by simpa using hn⟩
  · have := Row.new (w.alloc (Obj.cells (uw (List.replicate n 0)) 55)) #[.slice (some ⟨w.heap.size, 0, none⟩) n n] 50
    simpa using this
  · exact (Row.new w _ _).alloc _

set_option maxRecDepth 100000 in
theorem tnew_err (n : Int) (h : n < 1 ∨ 64 < n) (w : World) :
    Calls Try.prog 22 #[.int .i64 n] w fun e w' => e = .returned (.tuple #[.pointer none, .int .i64 2]) ∧ w = w' := by
  rcases h with h | h
  · go_enter Try.func22, Try.ntmps22
    go_wp2
    go_ret2
    exact ⟨rfl, rfl⟩
  · have h' : ¬ n < 1 := by omega
    go_enter Try.func22, Try.ntmps22
    go_wp2
    go_ret2
    exact ⟨rfl, rfl⟩

set_option maxRecDepth 100000 in
theorem tnone_c (T A : Nat) (m : List Nat) (w : World) (h : Tal T A m w) :
    Calls Try.prog 50 #[.pointer (some ⟨T, 0, none⟩)] w fun e w' => e = .returned (.bool false) ∧ w = w' := by
  have h0 : w.cell? ⟨T, 0, none⟩ = some (.slice (some ⟨A, 0, none⟩) m.length m.length) := h.rT.cell 0
  have hp := h.pos
  have hz : (((m.length : Nat) : Int) == 0) = false := by rw [beq_eq_false_iff_ne]; omega
  go_enter Try.func50, Try.ntmps50
  go_wp2
  go_ret
  exact ⟨rfl, rfl⟩

set_option maxRecDepth 100000 in
set_option maxHeartbeats 400000 in
theorem tadd_c {g : Value} {B T A : Nat} {G : World → List (Int × Int) → Prop} (hG : GateOk g B (fun k => k = T ∨ k = A) G) (hBA : B ≤ A) (m : List Nat) (i n s : Nat) (hi : i < m.length) (hs : (m[i] + n) % 18446744073709551616 = s) (w : World) (L : List (Int × Int)) (hL : L.length + 20 ≤ 1000000) (hg : G w L) (h : Tal T A m w) :
    Calls Try.prog 19 #[.pointer (some ⟨T, 0, none⟩), g, .int .i64 i, .int .u64 n] w fun e w' =>
      e = .returned (.tuple #[.int .u64 s, .int .i64 0]) ∧ G w' (L ++ [(3, (i : Int))]) ∧ Below B w w' ∧ Tal T A (m.set i s) w' := by
  have hle := h.le
  have hne := h.ne
  have h0 : w.cell? ⟨T, 0, none⟩ = some (.slice (some ⟨A, 0, none⟩) m.length m.length) := h.rT.cell 0
  have H0 := Lib.hid (tnone_c T A m w h)
  have j1 : (i : Int) < (m.length : Int) := by omega
  have HS := Lib.hid hs
  clear hs
  go_enter Try.func19, Try.ntmps19
  go_wp2_with fail
  refine H0.out.mono ?_
  rintro e w' ⟨rfl, rfl⟩
  go_wp2_with fail
  refine (hG.step _ _ _ _ (by omega) hg).mono ?_
  rintro e w1 ⟨rfl, hg1, hb1, hk1⟩
  have hr1 := Row.of_heap h.rT (hk1 T (.inl rfl))
  have ha1 := Row.of_heap h.rA (hk1 A (.inr rfl))
  clear hk1 h0
  have h1 : w1.cell? ⟨T, 0, none⟩ = some (.slice (some ⟨A, 0, none⟩) m.length m.length) := hr1.cell 0
  go_wp2_with fail
  refine (aadd ⟨A, i, none⟩ m[i] n s _ ((ha1.cell i).trans (uw_get m i hi)) (ha1.free i) HS.out).mono ?_
  rintro e w2 ⟨rfl, hw2⟩
  have HW2 := Lib.hid hw2
  clear hw2 h1
  go_wp2
  go_ret2
  rw [← HW2.out]
  refine ⟨rfl, hG.keep _ _ _ hg1 ((Sm.refl _ _).setCell (.inr rfl) _), hb1.setCell hBA _, ?_, ?_, hne, by simpa using h.pos, by simpa using hle⟩
  · simp only [List.length_set]
    exact hr1.set_ne (fun e => hne e.symm) _
  · rw [← uw_set]
    exact ha1.set i _
end Go.Proofs.Ytdedmmjmiakidaa
