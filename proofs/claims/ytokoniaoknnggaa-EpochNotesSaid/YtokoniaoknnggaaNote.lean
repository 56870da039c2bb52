/- The gate that writes down what it is told, walked alone. -/
import Derived.Test.YtokoniaoknnggaaBase
import Derived.Test.YtokoniaoknnggaaProg
namespace Go.Proofs.Ytokoniaoknnggaa
open Go.RowKit
set_option linter.unusedVariables false

/-- Marks as cells. -/
def mks (L : List (Int × Int)) : List Value := L.flatMap fun p => [.int .u8 p.1, .int .i64 p.2]
theorem mks_len (L : List (Int × Int)) : (mks L).length = L.length * 2 := by
  induction L with
  | nil => rfl
  | cons a l ih => simp [mks] at ih ⊢; omega
theorem mks_snoc (L : List (Int × Int)) (o d : Int) : mks (L ++ [(o, d)]) = mks L ++ [.int .u8 o, .int .i64 d] := by simp [mks]

/-- The gate at block nb has been told L. -/
def Noted (nb : Nat) (w : World) (L : List (Int × Int)) : Prop :=
  ∃ v : Value, Row w nb #[.bool true, v] 104 ∧ w.ownsRow (nb + 1) 109 2 v L.length (mks L)

theorem Noted.sm {F : Nat → Prop} {nb : Nat} {w w' : World} {L : List (Int × Int)} (h : Noted nb w L) (k : Sm F w w') (hF : ∀ b, nb ≤ b → ¬ F b) : Noted nb w' L := by
  obtain ⟨v, h1, h2⟩ := h
  exact ⟨v, h1.sm k (hF nb (Nat.le_refl _)), own_sm h2 k fun b hb => hF b (by omega)⟩

theorem Noted.alloc {nb : Nat} {w : World} {L : List (Int × Int)} (h : Noted nb w L) (o : Obj) : Noted nb (w.alloc o) L :=
  h.sm (F := fun _ => False) ((Sm.refl _ _).alloc o) (fun _ _ h => h)

theorem info_mark : (Try.prog.info? 109).map (fun i => (i.zero, i.size, i.bytes)) = some (some (.agg #[.int .u8 0, .int .i64 0]), 2, 16) := by kernel_rfl

theorem newNotes_c (w : World) :
    Calls Try.prog 10 #[] w fun e w' => e = .returned (.pointer (some ⟨w.heap.size, 0, none⟩)) ∧ Sm (fun _ => False) w w' ∧ Noted w.heap.size w' [] ∧ w'.heap.size = w.heap.size + 1 := by
  go_enter Try.func10, Try.ntmps10
  go_wp2
  go_ret
  exact ⟨rfl, (Sm.refl _ _).alloc _, ⟨_, Row.new _ _ _, World.ownsRow_nil _ _ _ _⟩, by simp⟩

set_option maxHeartbeats 800000 in
theorem noteStep_c (nb : Nat) (op wd : Int) (w : World) (L : List (Int × Int)) (hL : L.length < 1000000) (h : Noted nb w L) :
    Calls Try.prog 114 #[.pointer (some ⟨nb, 0, none⟩), .agg #[.int .u8 op, .int .i64 wd]] w fun e w' =>
      e = .returned (.tuple #[]) ∧ Noted nb w' (L ++ [(op, wd)]) ∧ Sm (fun b => nb ≤ b) w w' := by
  obtain ⟨v, h1, h2⟩ := h
  obtain ⟨i0, hi, hz0, hz1, hz2⟩ := info_parts info_mark
  have hlt := h1.lt
  have c0 : w.cell? ⟨nb, 0, none⟩ = some (.bool true) := h1.cell 0
  have c1 : w.cell? ⟨nb, 1, none⟩ = some v := h1.cell 1
  have f1 : w.frozen? ⟨nb, 1, none⟩ = false := h1.free 1
  have Hi := Lib.hid hi
  have Hz0 := Lib.hid hz0
  have Hz1 := Lib.hid hz1
  have Hz2 := Lib.hid hz2
  have H1 := Lib.hid h1
  have H2 := Lib.hid h2
  clear h1 h2 hi hz0 hz1 hz2
  go_enter Try.func114, Try.ntmps114
  go_wp2_with fail
  obtain ⟨wa, hwa⟩ : ∃ wa : World, wa = w.alloc (Obj.cells #[Value.int IntKind.u8 op, Value.int IntKind.i64 wd] 109) := ⟨_, rfl⟩
  have c0a : wa.cell? ⟨nb, 0, none⟩ = some (.bool true) := by rw [hwa]; exact (H1.out.alloc _).cell 0
  have H1a : Row wa nb #[Value.bool true, v] 104 := by rw [hwa]; exact H1.out.alloc _
  have c1a : wa.cell? ⟨nb, 1, none⟩ = some v := H1a.cell 1
  have m0 : wa.cell? ⟨w.heap.size, 0, none⟩ = some (.int .u8 op) := by rw [hwa]; exact (Row.new w _ _).cell 0
  have m1 : wa.cell? ⟨w.heap.size, 1, none⟩ = some (.int .i64 wd) := by rw [hwa]; exact (Row.new w _ _).cell 1
  have ha : wa.ownsRow (nb + 1) 109 2 v L.length (mks L) := by rw [hwa]; exact H2.out.alloc _
  have sa : Sm (fun b => nb ≤ b) w wa := by rw [hwa]; exact (Sm.refl _ _).alloc _
  have za : nb + 1 ≤ wa.heap.size := by rw [hwa, World.size_alloc]; omega
  rw [← hwa]
  have HA := Lib.hid ha
  have H1A := Lib.hid H1a
  clear hwa c0 c1 f1 ha H1a
  have hone : ∀ u ∈ [Value.int .u8 op, Value.int .i64 wd], u.oneCell' = true := by simp [Value.oneCell']
  have c1b : (wa.alloc (Obj.cells #[Value.int IntKind.u8 op, Value.int IntKind.i64 wd] 109)).cell? ⟨nb, 1, none⟩ = some v := (H1A.out.alloc _).cell 1
  go_region_law (refine step_append_own rfl (.tmp 16) (.tmp 18) 41 rfl (nb + 1) 109 i0 (.agg #[.int .u8 0, .int .i64 0]) 2 16 Try.underlying41 Hi.out Hz0.out Hz1.out Hz2.out rfl (by decide) v L.length (mks L) (by simp [Act.eval]) (HA.out.drew.alloc _) ⟨wa.heap.size, 0, none⟩ 1 1 [.int .u8 op, .int .i64 wd] (by simp [Act.eval]) rfl (new_cells wa.drew [.int .u8 op, .int .i64 wd] 109) hone (by unfold maxLen; omega) (by omega) (by simp; omega) ?_; intro v' w' hown' hg'; obtain ⟨g', cap', hv'⟩ := own_form hown' (by omega); subst hv'; have H1' := Lib.hid (((H1A.out.alloc _).drew).grown hg' (fun e => by have := (HA.out.lt nb e).1; omega)); have c1' : w'.cell? ⟨nb, 1, none⟩ = some v := H1'.out.cell 1; have f1' : w'.frozen? ⟨nb, 1, none⟩ = false := H1'.out.free 1)
  all_goals
    go_wp2
    refine bodyPost_end (results_none rfl _ _ _) rfl ?_
    have H1' := Row.grown ((Row.alloc H1A.out _).drew) hg' (fun e => by have := (HA.out.lt nb e).1; omega)
    have hs' : Sm (fun b => nb ≤ b) wa w' := ((Sm.refl _ wa).alloc _).drew.trans (sm_grown hg' fun k e => by have := (HA.out.lt k e).1; omega)
    refine ⟨rfl, ⟨_, H1'.set 1 _, ?_⟩, sa.trans (hs'.setCell (Nat.le_refl _) _)⟩
    rw [mks_snoc, List.length_append]
    exact ownsRow_setCell_below hown' (by simp) _
end Go.Proofs.Ytokoniaoknnggaa
