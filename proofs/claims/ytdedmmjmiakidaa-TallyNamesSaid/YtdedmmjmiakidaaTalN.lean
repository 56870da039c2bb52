/- What is not there: tallies and histograms that are none; shards out of range. -/
import Derived.Test.YtdedmmjmiakidaaTalJ
import Derived.Test.YtdedmmjmiakidaaTalG
namespace Go.Proofs.Ytdedmmjmiakidaa
open Go.RowKit
set_option linter.unusedVariables false
set_option linter.unusedSimpArgs false

def BadT (v : Value) (w : World) : Prop := v = .pointer none ∨ ∃ b, v = .pointer (some ⟨b, 0, none⟩) ∧ Row w b #[.slice none 0 0] 50
def BadH (v : Value) (w : World) : Prop := v = .pointer none ∨ ∃ b, v = .pointer (some ⟨b, 0, none⟩) ∧ w.cell? ⟨b, 0, none⟩ = some (.bool false)

theorem tnone_bad (v : Value) (w : World) (h : BadT v w) :
    Calls Try.prog 50 #[v] w fun e w' => e = .returned (.bool true) ∧ w = w' := by
  rcases h with rfl | ⟨b, rfl, hr⟩
  · go_enter Try.func50, Try.ntmps50
    go_wp2
    go_ret
    exact ⟨rfl, rfl⟩
  · have h0 : w.cell? ⟨b, 0, none⟩ = some (.slice none 0 0) := hr.cell 0
    go_enter Try.func50, Try.ntmps50
    go_wp2
    go_ret
    exact ⟨rfl, rfl⟩

set_option maxRecDepth 100000 in
theorem tadd_bad (v : Value) (w : World) (h : BadT v w) (g : Value) (i n : Int) :
    Calls Try.prog 19 #[v, g, .int .i64 i, .int .u64 n] w fun e w' => e = .returned (.tuple #[.int .u64 0, .int .i64 1]) ∧ w = w' := by
  have H := Lib.hid (tnone_bad v w h)
  clear h
  go_enter Try.func19, Try.ntmps19
  go_wp2_with fail
  refine H.out.mono ?_
  rintro e w1 ⟨rfl, rfl⟩
  go_wp2
  go_ret2
  exact ⟨rfl, rfl⟩

set_option maxRecDepth 100000 in
theorem tparts_bad (v : Value) (w : World) (h : BadT v w) (g : Value) :
    Calls Try.prog 21 #[v, g] w fun e w' => e = .returned (.tuple #[.slice none 0 0, .int .i64 1]) ∧ w = w' := by
  have H := Lib.hid (tnone_bad v w h)
  clear h
  go_enter Try.func21, Try.ntmps21
  go_wp2_with fail
  refine H.out.mono ?_
  rintro e w1 ⟨rfl, rfl⟩
  go_wp2
  go_ret2
  exact ⟨rfl, rfl⟩

set_option maxRecDepth 100000 in
theorem tsum_bad (v : Value) (w : World) (h : BadT v w) (g : Value) :
    Calls Try.prog 20 #[v, g] w fun e w' => e = .returned (.tuple #[.int .u64 0, .int .i64 1]) ∧ w = w' := by
  have H := Lib.hid (tparts_bad v w h g)
  clear h
  go_enter Try.func20, Try.ntmps20
  go_wp2_with fail
  refine H.out.mono ?_
  rintro e w1 ⟨rfl, rfl⟩
  go_wp2
  refine wp_loop_rounds 1 ?_
  rw [rounds_succ]
  go_wp2
  go_ret2
  exact ⟨rfl, rfl⟩

set_option maxRecDepth 100000 in
theorem hadd_bad (v : Value) (w : World) (h : BadH v w) (g : Value) (n : Int) :
    Calls Try.prog 17 #[v, g, .int .u64 n] w fun e w' => e = .returned (.int .i64 1) ∧ w = w' := by
  rcases h with rfl | ⟨b, rfl, h0⟩
  · go_enter Try.func17, Try.ntmps17
    go_wp2
    go_ret
    exact ⟨rfl, rfl⟩
  · go_enter Try.func17, Try.ntmps17
    go_wp2
    go_ret
    exact ⟨rfl, rfl⟩

theorem built_h0 : (Try.prog.built 26 []) = some (uw hzero) := by kernel_rfl

set_option maxRecDepth 100000 in
set_option maxHeartbeats 1600000 in
theorem hget_bad (v : Value) (w : World) (h : BadH v w) (g : Value) :
    Calls Try.prog 18 #[v, g] w fun e w' => e = .returned (.tuple #[.agg (uw hzero), .int .i64 1]) ∧ Sm (fun _ => False) w w' := by
  have r0 : Row (w.alloc (.cells Try.zeroCells26 26)) w.heap.size (uw hzero) 26 := by rw [zero_ah]; exact Row.new w _ _
  have hz : uw hzero = Try.zeroCells26 := zero_ah.symm
  have fin : Sm (fun _ => False) w ((w.alloc (.cells Try.zeroCells26 26)).setRow w.heap.size (uw hzero)) := sm_setRow ((Sm.refl _ _).alloc _) _ _ (Nat.le_refl _)
  rcases h with rfl | ⟨b, rfl, h0⟩
  · go_enter Try.func18, Try.ntmps18
    go_wp2_with (refine wpList_store_u67 rfl (.tmp 4) (.tmp 19) rfl w.heap.size _ (by simp [Act.eval, Act.put]) hzero hzero (by simp [Act.eval, Act.put, hz]) (by simp [hzero]) (by simp [hzero]) r0 ?_)
    refine bodyPost_ret (results_u67 rfl _ _ w.heap.size _ hzero (by simp [hzero]) rfl r0.setRow) rfl ?_
    exact ⟨rfl, fin⟩
  · have hbl : b < w.heap.size := by
      unfold World.cell? at h0
      split at h0
      · rename_i hh; exact (Array.getElem?_eq_some_iff.1 hh).1
      · cases h0
    have hm1 : ∀ o, (w.alloc o).cell? ⟨b, 0, none⟩ = some (.bool false) := fun o => (World.cell?_of_block (w := w) (a := ⟨b, 0, none⟩) (Below.heap_alloc _ _ _ hbl)).trans h0
    clear h0 hbl
    go_enter Try.func18, Try.ntmps18
    go_wp2_with (refine wpList_store_u67 rfl (.tmp 4) (.tmp 19) rfl w.heap.size _ (by simp [Act.eval, Act.put]) hzero hzero (by simp [Act.eval, Act.put, hz]) (by simp [hzero]) (by simp [hzero]) r0 ?_)
    refine bodyPost_ret (results_u67 rfl _ _ w.heap.size _ hzero (by simp [hzero]) rfl r0.setRow) rfl ?_
    exact ⟨rfl, fin⟩

set_option maxRecDepth 100000 in
theorem tadd_out (T A : Nat) (m : List Nat) (w : World) (h : Tal T A m w) (g : Value) (i n : Int) (hi : i < 0 ∨ (m.length : Int) ≤ i) :
    Calls Try.prog 19 #[.pointer (some ⟨T, 0, none⟩), g, .int .i64 i, .int .u64 n] w fun e w' => e = .returned (.tuple #[.int .u64 0, .int .i64 5]) ∧ w = w' := by
  have h0 : w.cell? ⟨T, 0, none⟩ = some (.slice (some ⟨A, 0, none⟩) m.length m.length) := h.rT.cell 0
  have H0 := Lib.hid (tnone_c T A m w h)
  clear h
  by_cases hn : i < 0
  · go_enter Try.func19, Try.ntmps19
    go_wp2_with fail
    refine H0.out.mono ?_
    rintro e w1 ⟨rfl, rfl⟩
    go_wp2
    go_ret2
    exact ⟨rfl, rfl⟩
  · have hj : (m.length : Int) ≤ i := by rcases hi with h | h <;> first | omega | exact h
    go_enter Try.func19, Try.ntmps19
    go_wp2_with fail
    refine H0.out.mono ?_
    rintro e w1 ⟨rfl, rfl⟩
    go_wp2
    go_ret2
    exact ⟨rfl, rfl⟩
end Go.Proofs.Ytdedmmjmiakidaa
