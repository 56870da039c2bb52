/- NewOrder of the code and of the reference, for all arguments. -/
import Derived.Test.YthjdnhlckjchgaaLanU
namespace Go.Proofs.Ythjdnhlckjchgaa
open Go.RowKit
set_option linter.unusedVariables false
set_option linter.unusedSimpArgs false

def okOrd (lanes room : Int) : Prop := 1 ≤ lanes ∧ lanes ≤ 16 ∧ 0 ≤ room ∧ room ≤ 4096
set_option maxRecDepth 100000 in
theorem lneworder_bad (lanes room : Int) (h : ¬ okOrd lanes room) (w : World) :
    Calls Try.prog 9 #[.int .i64 lanes, .int .i64 room] w fun e w' => e = .returned (.tuple #[.pointer none, .int .i64 2]) ∧ w = w' := by
  have hc : lanes < 1 ∨ (¬ lanes < 1 ∧ 16 < lanes) ∨ (¬ lanes < 1 ∧ ¬ 16 < lanes ∧ room < 0) ∨ (¬ lanes < 1 ∧ ¬ 16 < lanes ∧ ¬ room < 0 ∧ 4096 < room) := by unfold okOrd at h; omega
  clear h
  go_enter Try.func9, Try.ntmps9
  rcases hc with h1 | ⟨h1, h2⟩ | ⟨h1, h2, h3⟩ | ⟨h1, h2, h3, h4⟩
  all_goals
    go_wp2
    go_ret2
    exact ⟨rfl, rfl⟩
set_option maxRecDepth 100000 in
theorem rneworder_bad (lanes room : Int) (h : ¬ okOrd lanes room) (w : World) :
    Calls Try.prog 10 #[.int .i64 lanes, .int .i64 room] w fun e w' => e = .returned (.tuple #[.pointer none, .bool false]) ∧ w = w' := by
  have hc : lanes < 1 ∨ (¬ lanes < 1 ∧ 16 < lanes) ∨ (¬ lanes < 1 ∧ ¬ 16 < lanes ∧ room < 0) ∨ (¬ lanes < 1 ∧ ¬ 16 < lanes ∧ ¬ room < 0 ∧ 4096 < room) := by unfold okOrd at h; omega
  clear h
  go_enter Try.func10, Try.ntmps10
  rcases hc with h1 | ⟨h1, h2⟩ | ⟨h1, h2, h3⟩ | ⟨h1, h2, h3, h4⟩
  all_goals
    go_wp2
    go_ret2
    exact ⟨rfl, rfl⟩
set_option maxRecDepth 100000 in
theorem rneworder_ok (n room : Nat) (h0 : 0 < n) (hn : n ≤ 16) (hr : room ≤ 4096) (w : World) :
    Calls Try.prog 10 #[.int .i64 n, .int .i64 room] w fun e w' => e = .returned (.tuple #[.pointer (some ⟨w.heap.size + 1, 0, none⟩), .bool true]) ∧ Sm (fun _ => False) w w' ∧
      RefL w.heap.size (w.heap.size + 1) w.heap.size (List.replicate n 0) room [] (.slice none 0 0) w' := by
  have hm := make_u64s n (by omega) w
  have j1 : ¬ (n : Int) < 1 := by omega
  have j2 : ¬ (16 : Int) < (n : Int) := by omega
  have j3 : ¬ (room : Int) < 0 := by omega
  have j4 : ¬ (4096 : Int) < (room : Int) := by omega
  go_enter Try.func10, Try.ntmps10
  go_wp2
  go_ret2
  refine ⟨by simp, ((Sm.refl _ _).alloc _).alloc _, ?_⟩
  have r1 := Row.new (w.alloc (.cells (uw (List.replicate n 0)) 36)) #[.slice (some ⟨w.heap.size, 0, none⟩) n n, .int .i64 (room : Int), .slice none 0 0] 45
  rw [World.size_alloc] at r1
  exact ⟨by simpa using r1, (Row.new w _ _).alloc _, World.ownsRow_nil _ _ _ _, Nat.le_refl _, by omega⟩
end Go.Proofs.Ythjdnhlckjchgaa
