/- The reference's programs for a domain. -/
import Derived.Test.YtokoniaoknnggaaMacR
import Derived.Laws.OwnMore
namespace Go.Proofs.Ytokoniaoknnggaa
open Go.RowKit
set_option linter.unusedVariables false
set_option linter.unusedSimpArgs false

def flatI (l : List In) : List Value := (l.map instrC).flatten
theorem flatI_len (l : List In) : (flatI l).length = l.length * 7 := by
  induction l with
  | nil => rfl
  | cons a l ih => simp [flatI, instrC] at ih ⊢; omega
theorem flatI_app (a b : List In) : flatI (a ++ b) = flatI a ++ flatI b := by simp [flatI]
theorem flatI_one : ∀ l : List In, ∀ u ∈ flatI l, u.oneCell' = true
  | [], u, h => by simp [flatI] at h
  | a :: l, u, h => by
    have h2 : u ∈ instrC a ++ flatI l := h
    rcases List.mem_append.1 h2 with h3 | h3
    · have := instrC_one a
      exact (Array.all_eq_true_iff_forall_mem.1 this) u (by simpa using h3)
    · exact flatI_one l u h3
theorem flat_get (l : List In) : ∀ (j : Nat) (h : j < l.length) (k : Nat) (u : Value), (instrC l[j])[k]? = some u → (flatI l)[j * 7 + k]? = some u := by
  induction l with
  | nil => intro j h; simp at h
  | cons a l ih =>
    intro j h k u hu
    have hk : k < 7 := by
      have := (List.getElem?_eq_some_iff.1 hu).1
      simpa [instrC] using this
    have e : flatI (a :: l) = instrC a ++ flatI l := rfl
    cases j with
    | zero =>
      rw [e, List.getElem?_append_left (by simp [instrC]; omega)]
      simpa using hu
    | succ j =>
      have := ih j (by simpa using h) k u (by simpa using hu)
      rw [e, List.getElem?_append_right (by simp [instrC]; omega)]
      rw [show (j + 1) * 7 + k - (instrC a).length = j * 7 + k by simp [instrC]; omega]
      exact this
theorem recs_own {w : World} {B : Nat} {v : Value} {l : List In} (h : w.ownsRow B 161 7 v l.length (flatI l)) : RecsB w.heap.size 7 v (l.map instrC) w := by
  obtain ⟨a, c, hv⟩ := own_form0 h
  refine ⟨⟨a, c, by simp [hv], by rw [List.length_map]; exact own_cap (hv ▸ h), fun h0 => ?_⟩, fun _ b hb => (h.lt b hb).2⟩
  rw [List.length_map] at h0
  obtain ⟨g, c', hg⟩ := own_form h h0
  rw [hg] at hv
  simp only [Value.slice.injEq] at hv
  refine ⟨g, 0, hv.1.symm, (h.lt g (by rw [hg]; rfl)).2, fun j hj u x hx => ?_⟩
  rw [List.length_map] at hj
  rw [List.getElem_map] at hx
  have h1 := h.cells (g := g) (by rw [hg]; rfl) (j * 7 + u) x (flat_get l j hj u x hx)
  rw [add0] at h1
  rw [show 0 + j * 7 + u = j * 7 + u by omega]
  exact h1
/-- What a program's function returns. -/
def ProgEnd (l : List In) (w : World) (e : Ending) (w' : World) : Prop := ∃ cd, e = .returned (.agg #[cd, .slice none 0 0]) ∧ w'.ownsRow w.heap.size 161 7 cd l.length (flatI l) ∧ Sm (fun _ => False) w w'
def nowP : List In := [⟨1, 0, 17, 9, 0, 0, 0⟩, ⟨22, 0, 17, 0, 0, 0, 0⟩]
theorem prog_two {w : World} {l : List In} {c : Array Value} (hc : c.toList = flatI l) (hl : l.length < 1000000) :
    let w' := (w.alloc (.cells #[.slice (some ⟨w.heap.size + 1, 0, none⟩) l.length l.length, .slice none 0 0] 46)).alloc (.cells c 161)
    Row w' w.heap.size #[.slice (some ⟨w.heap.size + 1, 0, none⟩) l.length l.length, .slice none 0 0] 46 ∧ ProgEnd l w (.returned (.agg #[.slice (some ⟨w.heap.size + 1, 0, none⟩) l.length l.length, .slice none 0 0])) w' := by
  intro w'
  refine ⟨(Row.new w _ _).alloc _, _, rfl, ?_, ((Sm.refl _ _).alloc _).alloc _⟩
  have h := World.ownsRow_lit (base := w.heap.size) (e := 161) (size := 7) (w.alloc (.cells #[.slice (some ⟨w.heap.size + 1, 0, none⟩) l.length l.length, .slice none 0 0] 46)) c l.length (by simp) (by unfold maxLen; omega) (by rw [← Array.length_toList, hc, flatI_len])
  rw [hc] at h
  simpa using h
set_option maxRecDepth 100000 in
theorem now_c (w : World) : Calls Try.prog 39 #[] w (ProgEnd nowP w) := by
  have hp := prog_two (w := w) (l := nowP) (c := (flatI nowP).toArray) (by simp) (by decide)
  have HP := Lib.hid hp
  clear hp
  go_enter Try.func39, Try.ntmps39
  go_wp2_with fail
  refine bodyPost_ret (results_cell_row rfl _ _ w.heap.size 46 _ (0, 0) _ rfl HP.out.1 Try.underlying46 rfl (by kernel_rfl)) rfl ?_
  exact HP.out.2
def safeP (v : Nat) : List In := [⟨1, 0, 17, 9, 0, 0, 0⟩, ⟨6, 0, 18, 0, 0, 0, 2⟩, ⟨20, 0, 17, 18, 0, 0, 8⟩, ⟨9, 0, 17, 17, 18, 0, 0⟩, ⟨6, 0, 19, 0, 0, 0, v⟩, ⟨20, 0, 17, 19, 0, 0, 8⟩, ⟨6, 0, 20, 0, 0, 0, 1⟩, ⟨18, 0, 0, 0, 0, 0, 8⟩, ⟨22, 0, 20, 0, 0, 0, 0⟩]
set_option maxRecDepth 100000 in
theorem rsafe_c (v : Nat) (w : World) : Calls Try.prog 44 #[.int .u64 (v : Int)] w (ProgEnd (safeP v) w) := by
  have hp := prog_two (w := w) (l := safeP v) (c := (flatI (safeP v)).toArray) (by simp) (by simp [safeP])
  have HP := Lib.hid hp
  clear hp
  go_enter Try.func44, Try.ntmps44
  go_wp2_with fail
  refine bodyPost_ret (results_cell_row rfl _ _ w.heap.size 46 _ (0, 0) _ rfl HP.out.1 Try.underlying46 rfl (by kernel_rfl)) rfl ?_
  exact HP.out.2
def pinP (s : Nat) : List In := [⟨6, 0, 0, 0, 0, 0, 0⟩, ⟨6, 0, 1, 0, 0, 0, 90⟩, ⟨1, 0, 19, 9, 0, 0, 1 + s⟩, ⟨19, 0, 19, 9, 0, 0, 5⟩, ⟨18, 0, 0, 0, 0, 0, 13⟩, ⟨1, 0, 17, 9, 0, 0, 0⟩, ⟨2, 0, 17, 9, 0, 0, 1 + s⟩, ⟨1, 0, 18, 9, 0, 0, 0⟩, ⟨7, 0, 0, 17, 0, 0, 0⟩, ⟨7, 0, 17, 18, 0, 0, 0⟩, ⟨19, 0, 0, 18, 0, 0, 12⟩, ⟨18, 0, 0, 0, 0, 0, 6⟩, ⟨6, 0, 1, 0, 0, 0, 0⟩]
def unpinP (s : Nat) : List In := [⟨6, 0, 1, 0, 0, 0, 90⟩, ⟨1, 0, 19, 9, 0, 0, 1 + s⟩, ⟨19, 0, 19, 9, 0, 0, 5⟩, ⟨6, 0, 1, 0, 0, 0, 0⟩, ⟨2, 0, 9, 9, 0, 0, 1 + s⟩]
/-- What a code's function returns. -/
def CodeEnd (l : List In) (w : World) (e : Ending) (w' : World) : Prop := ∃ cd, e = .returned cd ∧ w'.ownsRow w.heap.size 161 7 cd l.length (flatI l) ∧ Sm (fun _ => False) w w'
theorem code_one {w : World} {l : List In} {c : Array Value} (hc : c.toList = flatI l) (hl : l.length < 1000000) : CodeEnd l w (.returned (.slice (some ⟨w.heap.size, 0, none⟩) l.length l.length)) (w.alloc (.cells c 161)) := by
  refine ⟨_, rfl, ?_, (Sm.refl _ _).alloc _⟩
  have h := World.ownsRow_lit (base := w.heap.size) (e := 161) (size := 7) w c l.length (Nat.le_refl _) (by unfold maxLen; omega) (by rw [← Array.length_toList, hc, flatI_len])
  rw [hc] at h
  exact h
set_option maxRecDepth 100000 in
set_option maxHeartbeats 6400000 in
theorem pinCode_c (s : Nat) (hs : s < 16) (w : World) : Calls Try.prog 63 #[.int .i64 0, .int .i64 (s : Int), .int .i64 0, .int .i64 0, .int .i64 1] w (CodeEnd (pinP s) w) := by
  have hp := code_one (w := w) (l := pinP s) (c := (flatI (pinP s)).toArray) (by simp) (by simp [pinP])
  have HP := Lib.hid hp
  have e1 : ((1 + s : Nat) : Int) = 1 + (s : Int) := by omega
  clear hp
  go_enter Try.func63, Try.ntmps63
  go_wp2_with fail
  go_ret
  exact HP.out
set_option maxRecDepth 100000 in
set_option maxHeartbeats 6400000 in
theorem unpinCode_c (s : Nat) (hs : s < 16) (w : World) : Calls Try.prog 64 #[.int .i64 0, .int .i64 (s : Int), .int .i64 0, .int .i64 1] w (CodeEnd (unpinP s) w) := by
  have hp := code_one (w := w) (l := unpinP s) (c := (flatI (unpinP s)).toArray) (by simp) (by simp [unpinP])
  have HP := Lib.hid hp
  clear hp
  go_enter Try.func64, Try.ntmps64
  go_wp2_with fail
  go_ret
  exact HP.out
theorem info_instr : (Try.prog.info? 161).map (fun i => (i.zero, i.size, i.bytes)) = some (some (.agg zeroI), 7, 56) := by kernel_rfl
/-- A code with some more, as a call. -/
theorem code_more {w w1 w2 : World} {l m : List In} {P : Nat} {cd : Value} {o : Obj} {old : Value} (hP : P = w.heap.size) (h1 : w1.ownsRow (P + 1) 161 7 old l.length (flatI l)) (k1 : Sm (fun _ => False) w w1) (hr : Row w1 P #[.slice none 0 0, .slice none 0 0] 46) (hg : (w1.alloc o).grownBy w2 old.ownBlock)
    (h2 : w2.ownsRow (P + 1) 161 7 cd (l.length + m.length) (flatI l ++ flatI m)) :
    Row w2 P #[.slice none 0 0, .slice none 0 0] 46 ∧ ProgEnd (l ++ m) w (.returned (.agg #[cd, .slice none 0 0])) (w2.setRow P #[cd, .slice none 0 0]) := by
  have ka : Sm (fun _ => False) w1 (w1.alloc o) := (Sm.refl _ _).alloc o
  have kg : Sm (fun b => old.ownBlock = some b) (w1.alloc o) w2 := sm_grown hg (fun b e => e)
  have n1 : old.ownBlock ≠ some P := fun e => by have := (h1.lt P e).1; omega
  have n2 : cd.ownBlock ≠ some P := fun e => by have := (h2.lt P e).1; omega
  have kr : Sm (fun b => b = P) w2 (w2.setRow P #[cd, .slice none 0 0]) := ⟨rfl, rfl, rfl, by simp [World.setRow], fun k hk hf => setRow_other _ _ k _ hf⟩
  refine ⟨(hr.sm ka (fun h => h)).sm kg n1, cd, rfl, ?_, ?_⟩
  · rw [flatI_app, List.length_append]
    exact own_base (own_smF h2 kr (fun b hb e => n2 (e ▸ hb))) (fun b hb => by have := (h2.lt b hb).1; omega)
  · exact ((((k1.trans ka).mono (F' := fun b => old.ownBlock = some b ∨ b = P) (fun _ h => h.elim)).trans (kg.mono (fun b e => .inl e))).trans (kr.mono (fun b e => .inr e))).new (fun b hb => by
      rcases hb with e | e
      · have := (h1.lt b e).1
        omega
      · omega)
def tell2 : List In := [⟨22, 0, 0, 0, 0, 0, 0⟩, ⟨22, 0, 1, 0, 0, 0, 0⟩]
def tell1 : List In := [⟨22, 0, 1, 0, 0, 0, 0⟩]
end Go.Proofs.Ytokoniaoknnggaa
