/- A slice literal of one histogram, of two. -/
import Derived.Test.YtdedmmjmiakidaaTalV
namespace Go.Proofs.Ytdedmmjmiakidaa
open Go.RowKit
set_option linter.unusedVariables false

theorem fold_get (off : Nat) : ∀ (l : List Value) (n : Nat) (cs : Array Value) (k : Nat),
    ((l.zipIdx n).foldl (fun cs x => cs.setIfInBounds (off + x.2) x.1) cs)[k]? = if off + n ≤ k ∧ k < off + n + l.length ∧ k < cs.size then l[k - (off + n)]? else cs[k]?
  | [], n, cs, k => by simp; intro h1 h2; omega
  | v :: l, n, cs, k => by
    rw [List.zipIdx_cons, List.foldl_cons, fold_get off l (n + 1)]
    simp only [Array.size_setIfInBounds, List.length_cons]
    by_cases h1 : off + n = k
    · subst h1
      rw [if_neg (by omega)]
      by_cases h2 : off + n < cs.size
      · rw [if_pos (by omega), Array.getElem?_setIfInBounds_self_of_lt h2]; simp
      · rw [if_neg (by omega), Array.getElem?_eq_none (by simpa using h2), Array.getElem?_eq_none (by simpa using h2)]
    · rw [Array.getElem?_setIfInBounds_ne h1]
      by_cases h2 : off + (n + 1) ≤ k ∧ k < off + (n + 1) + l.length ∧ k < cs.size
      · rw [if_pos h2, if_pos (by omega)]
        obtain ⟨j, rfl⟩ : ∃ j, k = off + n + (j + 1) := ⟨k - (off + n + 1), by omega⟩
        rw [show off + n + (j + 1) - (off + (n + 1)) = j by omega, show off + n + (j + 1) - (off + n) = j + 1 by omega]
        simp
      · rw [if_neg h2, if_neg (by omega)]

theorem fold_arr (off : Nat) (vs : Array Value) (cs : Array Value) : (vs.zipIdx.foldl (fun cs x => cs.setIfInBounds (off + x.2) x.1) cs) = (vs.toList.zipIdx.foldl (fun cs x => cs.setIfInBounds (off + x.2) x.1) cs) := by
  rw [← Array.foldl_toList, Array.toList_zipIdx]

theorem bs_one (a z : Array Value) (ha : a.size = 67) (hz : z.size = 67) : a.zipIdx.foldl (fun cs x => cs.setIfInBounds (0 * 67 + x.2) x.1) z = a := by
  rw [fold_arr]
  apply Array.ext_getElem?
  intro k
  rw [fold_get]
  by_cases h : k < 67
  · rw [if_pos (by simp [ha, hz]; omega)]
    simp
  · rw [if_neg (by simp [ha, hz]; omega), Array.getElem?_eq_none (by omega), Array.getElem?_eq_none (by omega)]

theorem bs_two (a b z : Array Value) (ha : a.size = 67) (hb : b.size = 67) (hz : z.size = 134) : b.zipIdx.foldl (fun cs x => cs.setIfInBounds (1 * 67 + x.2) x.1) (a.zipIdx.foldl (fun cs x => cs.setIfInBounds (0 * 67 + x.2) x.1) z) = a ++ b := by
  rw [fold_arr, fold_arr]
  apply Array.ext_getElem?
  intro k
  have hs : ∀ (l : List (Value × Nat)) (cs : Array Value), (l.foldl (fun cs x => cs.setIfInBounds (0 * 67 + x.2) x.1) cs).size = cs.size := by
    intro l
    induction l with
    | nil => intro cs; rfl
    | cons x l ih => intro cs; rw [List.foldl_cons, ih]; simp
  rw [fold_get, fold_get, hs]
  by_cases h : k < 67
  · rw [if_neg (by omega), if_pos (by simp [ha, hz]; omega), Array.getElem?_append_left (by omega)]
    simp
  · by_cases h2 : k < 134
    · rw [if_pos (by simp [hb, hz]; omega), Array.getElem?_append_right (by omega), ha]
      simp
    · rw [if_neg (by simp [hb, hz]; omega), if_neg (by simp [ha, hz]; omega), Array.getElem?_eq_none (by omega), Array.getElem?_eq_none (by simp [ha, hb]; omega)]

theorem run_bs1 (w : World) (a : List Nat) (ha : a.length = 67) : (Instr.buildSlice 22 1 #[(0, .agg (uw a))]).run Try.prog w = .ok (.slice (some ⟨w.heap.size, 0, none⟩) 1 1) (w.alloc (.cells (uw a) 26)) := by
  obtain ⟨i0, h2, h3, h4, h5⟩ := info_parts info_hist
  have hs : (uw a).size = 67 := by rw [uw_size, ha]
  have hz : ((Value.agg (uw hzero)).cells).size = 67 := by simp [Value.cells, uw_size, hzero]
  unfold Instr.buildSlice
  simp only [Sem.run_bind, underlying, program, sizeOf, typeInfo, zeroValue]
  simp [Sem.run, bind, Sem.bind, pure, Try.underlying22, h2, h3, h4, Instr.fill, hs, Value.cells, newRow, newObj]
  have := bs_one (uw a) ((Array.range 67).map fun x => (uw hzero)[x % (uw hzero).size]!) hs (by simp)
  simp [hs] at this
  rw [this]
theorem run_bs2 (w : World) (a b : List Nat) (ha : a.length = 67) (hb : b.length = 67) : (Instr.buildSlice 22 2 #[(0, .agg (uw a)), (1, .agg (uw b))]).run Try.prog w = .ok (.slice (some ⟨w.heap.size, 0, none⟩) 2 2) (w.alloc (.cells (uw a ++ uw b) 26)) := by
  obtain ⟨i0, h2, h3, h4, h5⟩ := info_parts info_hist
  have hs : (uw a).size = 67 := by rw [uw_size, ha]
  have hsb : (uw b).size = 67 := by rw [uw_size, hb]
  have hq : ∀ (l : List (Value × Nat)) (cs : Array Value), (l.foldl (fun cs x => cs.setIfInBounds x.2 x.1) cs).size = cs.size := by
    intro l
    induction l with
    | nil => intro cs; rfl
    | cons x l ih => intro cs; rw [List.foldl_cons, ih]; simp
  have hq2 : ∀ (z : Array Value), (Array.foldl (fun cs x => cs.setIfInBounds x.2 x.1) z (uw a).zipIdx 0 67).size = z.size := by
    intro z
    have e : 67 = (uw a).zipIdx.size := by simp [hs]
    rw [e, ← Array.foldl_toList, hq]
  unfold Instr.buildSlice
  simp only [Sem.run_bind, underlying, program, sizeOf, typeInfo, zeroValue]
  simp [Sem.run, bind, Sem.bind, pure, Try.underlying22, h2, h3, h4, Instr.fill, hs, hsb, hq2, Value.cells, newRow, newObj]
  have := bs_two (uw a) (uw b) ((Array.range 134).map fun x => (uw hzero)[x % (uw hzero).size]!) hs hsb (by simp)
  simp [hs, hsb] at this
  rw [this]

theorem wpList_bs1 {ops : Array Oper} {rest : List Oper} {o : Oper} {a : Act} {w : World} {Q : Exit → Act → World → Prop} (hgd : o.guard = none) (x : Operand) (ho : o.op = .buildSlice 22 1 #[(0, x)])
    (u : List Nat) (hu : u.length = 67) (hx : a.eval x = .agg (uw u)) (h : wpList Try.prog ops Q rest (a.put o.dst (.slice (some ⟨w.heap.size, 0, none⟩) 1 1)) (w.alloc (.cells (uw u) 26))) : wpList Try.prog ops Q (o :: rest) a w :=
  wpList_plain hgd fun _ hK => by
    unfold Oper.wp execOp
    simp only [ho, List.map_toArray, List.map_cons, List.map_nil, hx]
    simp [run_bs1 w u hu]
    exact hK _ _ h
theorem wpList_bs2 {ops : Array Oper} {rest : List Oper} {o : Oper} {a : Act} {w : World} {Q : Exit → Act → World → Prop} (hgd : o.guard = none) (x y : Operand) (ho : o.op = .buildSlice 22 2 #[(0, x), (1, y)])
    (u v : List Nat) (hu : u.length = 67) (hv : v.length = 67) (hx : a.eval x = .agg (uw u)) (hy : a.eval y = .agg (uw v)) (h : wpList Try.prog ops Q rest (a.put o.dst (.slice (some ⟨w.heap.size, 0, none⟩) 2 2)) (w.alloc (.cells (uw u ++ uw v) 26))) : wpList Try.prog ops Q (o :: rest) a w :=
  wpList_plain hgd fun _ hK => by
    unfold Oper.wp execOp
    simp only [ho, List.map_toArray, List.map_cons, List.map_nil, hx, hy]
    simp [run_bs2 w u v hu hv]
    exact hK _ _ h
theorem still_load_h67 {o : Oper} {a : Act} {w : World} {K : Act → Prop} (x : Operand) (ho : o.op = .load 26 x)
    (b off : Nat) (hx : a.eval x = .pointer (some ⟨b, off, none⟩)) (m : List Nat) (hlen : m.length = 67) (hr : w.rangeAt b off (uw m).toList) (hk : K (a.put o.dst (.agg (uw m)))) : o.still Try.prog a w K := by
  have h := run_loadVar_mid (P := Try.prog) w b off 26 (uw m).toList _ hr Try.underlying26 rfl (by rw [Array.length_toList, uw_size, hlen, size_h67])
  unfold Oper.still execOp
  simp only [ho, hx, Instr.loadAt, Instr.sureAddr, Sem.run_bind, Sem.run_pure, Result.andThen_ok, h]
  exact ⟨rfl, hk⟩
theorem Row.range {w : World} {b T : Nat} {c : Array Value} (h : Row w b c T) : w.rangeAt b 0 c.toList := fun i v hv => by
  rw [Nat.zero_add, h.cell i]
  simpa using hv
theorem hisL_of_own {w : World} {base g n c : Nat} {f : Nat → List Nat} (hown : w.ownsRow base 26 67 (.slice (some ⟨g, 0, none⟩) n c) n (flatH f n)) (hl : ∀ j, j < n → (f j).length = 67) (hlt : ∀ j, j < n → ∀ x ∈ f j, x < 18446744073709551616) : HisL g 0 n f w := by
  have hc := hown.cells (g := g) rfl
  refine ⟨fun j hj i v hv => ?_, hl, hlt, fun _ => (hown.lt g rfl).2⟩
  have hi : i < 67 := by
    have := (List.getElem?_eq_some_iff.1 hv).1
    simpa [uw, hl j hj] using this
  have := hc (j * 67 + i) v (by rw [flatH_get f n hl j i hj hi]; exact hv)
  rw [add_plain'] at this
  rw [show 0 + j * 67 + i = 0 + (j * 67 + i) by omega]
  exact this
theorem hisL_two {w : World} {g : Nat} {u v : List Nat} (hu : u.length = 67) (hv : v.length = 67) (hul : ∀ x ∈ u, x < 18446744073709551616) (hvl : ∀ x ∈ v, x < 18446744073709551616) (hr : Row w g (uw u ++ uw v) 26) : HisL g 0 2 (fun j => if j = 0 then u else v) w := by
  refine ⟨fun j hj i z hz => ?_, fun j hj => ?_, fun j hj => ?_, fun _ => hr.lt⟩
  · have hi : i < 67 := by
      have := (List.getElem?_eq_some_iff.1 hz).1
      split at this <;> simp_all [uw]
    rw [hr.cell]
    rcases (by omega : j = 0 ∨ j = 1) with rfl | rfl
    · simp only [if_true] at hz
      rw [Array.getElem?_append_left (by rw [uw_size]; omega)]
      simpa using hz
    · simp only [Nat.one_ne_zero, if_false] at hz
      rw [Array.getElem?_append_right (by rw [uw_size]; omega), uw_size, hu]
      simpa [show 0 + 1 * 67 + i - 67 = i by omega] using hz
  · split <;> assumption
  · split <;> assumption
end Go.Proofs.Ytdedmmjmiakidaa
