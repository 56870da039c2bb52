/- What LaneOut's walk wants: laws at single operations, rows of stamps, counts of lanes. -/
import Derived.Test.YthjdnhlckjchgaaLanO
import Derived.Test.YthjdnhlckjchgaaLanKeptsW
import Derived.Test.YthjdnhlckjchgaaWithin
import Derived.Deep.CutRange
import Derived.Deep.CutBlock
import Derived.Deep.DeepCutAuto
namespace Go.Proofs.Ythjdnhlckjchgaa
open Go.RowKit
set_option linter.unusedVariables false
set_option linter.unusedSimpArgs false

theorem wpList_min {ops : Array Oper} {rest : List Oper} {o : Oper} {a : Act} {w : World} {Q : Exit → Act → World → Prop} (hgd : o.guard = none) (x : Operand) (c : Int) (ho : o.op = .call { callee := .builtin .min, args := #[x, .const (.int .i64 c)], argTypes := #[3, 3] }) (hty : o.type = 3)
    (l L : Nat) (hx : a.eval x = .int .i64 l) (hL : ((l : Int) ≤ c ∧ L = l) ∨ (c < (l : Int) ∧ (L : Int) = c)) (h : wpList Try.prog ops Q rest (a.put o.dst (.int .i64 L)) w) : wpList Try.prog ops Q (o :: rest) a w :=
  wpList_plain hgd fun _ hK => by
    have hr : (Builtin.min_ #[3, 3] 3 #[.int .i64 l, .int .i64 c]).run Try.prog w = .ok (.int .i64 L) w := by
      rcases hL with ⟨h1, rfl⟩ | ⟨h1, h2⟩
      · simp [Builtin.min_, Builtin.min2, show ¬ c < (L : Int) by omega]
      · simp [Builtin.min_, Builtin.min2, h1, h2]
    unfold Oper.wp execOp
    simp only [ho, hty, resolve, invoke, builtin, Sem.run_bind, Sem.run_pure, Result.andThen_ok, List.map_toArray, List.map_cons, List.map_nil, hx, show a.eval (.const (.int .i64 c)) = .int .i64 c from rfl, hr]
    exact hK _ _ h
theorem wpList_slice_from {ops : Array Oper} {rest : List Oper} {o : Oper} {a : Act} {w : World} {Q : Exit → Act → World → Prop} (hgd : o.guard = none) (x lo : Operand) (ho : o.op = .slice 33 x (some lo) none none)
    (g n c k : Nat) (hx : a.eval x = .slice (some ⟨g, 0, none⟩) n c) (hlo : a.eval lo = .int .i64 k) (hk : k ≤ n) (hn : n ≤ c)
    (h : ∀ ad : Addr, (k < n → ad = ⟨g, k, none⟩) → wpList Try.prog ops Q rest (a.put o.dst (.slice (some ad) (n - k) (c - k))) w) : wpList Try.prog ops Q (o :: rest) a w :=
  wpList_plain hgd fun _ hK => by
    have he : Try.prog.elem 33 = 3 := by kernel_rfl
    have hu : Try.prog.underlying 33 = some (.slice (Try.prog.elem 33)) := by
      rw [he]
      exact Try.underlying33
    have hs : (sizeOf 3).run Try.prog w = .ok 1 w := by
      obtain ⟨i0, hi, hz0, hz1, hz2⟩ := info_parts info_int
      rw [run_sizeOf w hi, show Try.prog.cellsOf 3 = 1 by kernel_rfl]
    have hr : (Instr.sliceAt 33 (.slice (some ⟨g, 0, none⟩) n c) (some (.int .i64 k)) none none).run Try.prog w = .ok (.slice (if c = k then some ⟨g, 0, none⟩ else some ((⟨g, 0, none⟩ : Addr).add k)) (n - k) (c - k)) w := by
      rw [run_sliceAt_slice _ _ _ _ _ _ hu, run_slice_l _ _ _ _ _ hu _ _ (by omega) (by omega), he, hs]
      simp [Result.andThen, sliced]
    have e : ∃ ad : Addr, (if c = k then some ⟨g, 0, none⟩ else some ((⟨g, 0, none⟩ : Addr).add k)) = some ad ∧ (k < n → ad = ⟨g, k, none⟩) := by
      split
      · exact ⟨_, rfl, fun h => by omega⟩
      · refine ⟨_, rfl, fun h => ?_⟩
        rw [add_plain', Nat.zero_add]
    obtain ⟨ad, e1, e2⟩ := e
    rw [e1] at hr
    unfold Oper.wp execOp
    simp only [ho, hx, hlo, Option.map_some, Option.map_none, Sem.run_bind, Sem.run_pure, Result.andThen_ok, hr]
    exact hK _ _ (h ad e2)

theorem info_bool : (Try.prog.info? 4).map (fun i => (i.zero, i.size, i.bytes)) = some (some (.bool false), 1, 1) := by kernel_rfl
theorem info_stamp : (Try.prog.info? 38).map (fun i => (i.zero, i.size, i.bytes)) = some (some (.agg #[.int .i64 0, .int .u64 0]), 2, 16) := by kernel_rfl
theorem make_bools (n : Nat) (hn : n ≤ 1000000) (w : World) :
    (Instr.makeSlice 72 (.int .i64 n) (.int .i64 n)).run Try.prog w = .ok (.slice (some ⟨w.heap.size, 0, none⟩) n n) (w.alloc (.cells (List.replicate n (Value.bool false)).toArray 4)) := by
  obtain ⟨i0, hi, hz0, hz1, hz2⟩ := info_parts info_bool
  have h := run_makeSlice (P := Try.prog) w 72 4 i0 _ Try.underlying72 hi hz0 .i64 .i64 n n (by omega) (by omega) (by rw [hz1]; omega) (by rw [hz2]; omega) (by omega)
  rw [hz1] at h
  simp only [Int.toNat_natCast] at h
  have e : madeCells (Value.bool false).cells (n * 1) = (List.replicate n (Value.bool false)).toArray := by
    have := made_one n (.bool false)
    simp only [Value.cells]
    rw [this]
  rw [e] at h
  exact h

/-- The lane of a key's number. -/
def lnF (ks : List KeyV) (n : Nat) (j : Nat) : Nat := match ks[j]? with
  | some k => laneOf k n
  | none => 0
theorem lnF_lt (ks : List KeyV) (n : Nat) (hn : 0 < n) (j : Nat) : lnF ks n j < n := by
  unfold lnF
  split
  · exact Nat.mod_lt _ hn
  · exact hn
theorem lnF_get (ks : List KeyV) (n j : Nat) (hj : j < ks.length) : lnF ks n j = laneOf ks[j] n := by
  unfold lnF
  simp [hj]
/-- The lanes' numbers behind i stamps. -/
def mL (ln : Nat → Nat) (n i : Nat) : List Nat := (List.range n).map (cnt ln i)
theorem mL_len (ln : Nat → Nat) (n i : Nat) : (mL ln n i).length = n := by simp [mL]
theorem mL_zero (ln : Nat → Nat) (n : Nat) : mL ln n 0 = List.replicate n 0 := by
  apply List.ext_getElem
  · simp [mL]
  · intro i h1 h2
    simp [mL, cnt]
theorem mL_get (ln : Nat → Nat) (n i a : Nat) (h : a < n) : (mL ln n i).getD a 0 = cnt ln i a := by simp [mL, List.getD, h]
theorem mL_succ (ln : Nat → Nat) (n i : Nat) : (mL ln n i).set (ln i) (cnt ln i (ln i) + 1) = mL ln n (i + 1) := by
  apply List.ext_getElem
  · simp [mL]
  · intro j h1 h2
    rw [List.getElem_set]
    simp only [mL, List.getElem_map, List.getElem_range]
    show _ = cnt ln i j + (if ln i = j then 1 else 0)
    split
    · rename_i e; rw [e]
    · rfl
theorem mL_lt (ln : Nat → Nat) (n i : Nat) : ∀ x ∈ mL ln n i, x ≤ i := by
  intro x hx
  simp [mL] at hx
  obtain ⟨a, -, rfl⟩ := hx
  exact cnt_le ln a i
def stampC (ln : Nat → Nat) (j : Nat) : List Value := [.int .i64 (ln j : Int), .int .u64 (sq ln j : Int)]
def rowsS (ln : Nat → Nat) (k : Nat) : List (List Value) := (List.range k).map (stampC ln)
theorem rowsS_succ (ln : Nat → Nat) (k : Nat) : rowsS ln (k + 1) = rowsS ln k ++ [stampC ln k] := by simp [rowsS, List.range_succ]
theorem rowsS_len (ln : Nat → Nat) (k : Nat) : (rowsS ln k).length = k := by simp [rowsS]
theorem rowsS_2 (ln : Nat → Nat) (k : Nat) : ∀ r ∈ rowsS ln k, r.length = 2 := by
  intro r hr
  simp [rowsS] at hr
  obtain ⟨j, -, rfl⟩ := hr
  rfl
def natI (l : List Nat) : List Int := l.map fun (j : Nat) => (j : Int)
theorem natI_len (l : List Nat) : (natI l).length = l.length := by simp [natI]
/-- A packet that is out. -/
def doneF (ln : Nat → Nat) (j : Nat) : List Value := [.int .i64 (j : Int), .int .i64 (ln j : Int), .int .u64 (sq ln j : Int), .int .u64 0, .int .i64 0, .int .i64 0, .int .i64 0, .int .i64 0, .int .i64 0, .bool false, .bool false, .int .i64 0]
theorem doneF_12 (ln : Nat → Nat) (d : List Nat) : ∀ r ∈ d.map (doneF ln), r.length = 12 := by
  intro r hr
  obtain ⟨j, -, rfl⟩ := List.mem_map.1 hr
  rfl
/-- The cells that tell which are put. -/
def putB (L : Nat) (left : List Nat) : Array Value := ((List.range L).map fun j => Value.bool (decide (j ∉ left))).toArray
theorem putB_get (L : Nat) (left : List Nat) (j : Nat) (h : j < L) : (putB L left)[j]? = some (.bool (decide (j ∉ left))) := by simp [putB, h]
theorem putB_start (L : Nat) : (List.replicate L (Value.bool false)).toArray = putB L (List.range L) := by
  unfold putB
  congr 1
  apply List.ext_getElem
  · simp
  · intro i h1 h2
    simp at h1
    simp [h1]
theorem putB_set (L : Nat) (left left' : List Nat) (x : Nat) (h : ∀ j, j ∈ left' ↔ j ∈ left ∧ j ≠ x) : (putB L left).setIfInBounds x (.bool true) = putB L left' := by
  unfold putB
  apply Array.ext_getElem?
  intro j
  rw [Array.getElem?_setIfInBounds]
  by_cases e : x = j
  · subst e
    by_cases hL : x < L
    · simp [hL, h]
    · simp [hL]
  · rw [if_neg e]
    by_cases hL : j < L
    · have : (j ∈ left') = (j ∈ left) := by
        apply propext
        rw [h]
        exact ⟨fun h => h.1, fun h1 => ⟨h1, fun e2 => e e2.symm⟩⟩
      simp [hL, this]
    · simp [hL]
theorem take_drop_mem {left : List Nat} (hn : left.Nodup) {k : Nat} (hk : k < left.length) (j : Nat) : j ∈ left.take k ++ left.drop (k + 1) ↔ j ∈ left ∧ j ≠ left[k] := by
  have e : left = left.take k ++ left[k] :: left.drop (k + 1) := by rw [← List.drop_eq_getElem_cons hk, List.take_append_drop]
  obtain ⟨x, hx⟩ : ∃ x, x = left[k] := ⟨_, rfl⟩
  obtain ⟨p, hp⟩ : ∃ p, p = left.take k := ⟨_, rfl⟩
  obtain ⟨q, hq⟩ : ∃ q, q = left.drop (k + 1) := ⟨_, rfl⟩
  rw [← hx, ← hp, ← hq] at e
  rw [← hx, ← hp, ← hq, e]
  rw [e, List.nodup_append] at hn
  simp only [List.mem_append, List.mem_cons]
  constructor
  · rintro (h | h)
    · exact ⟨.inl h, fun e => hn.2.2 j h x (by simp) e⟩
    · exact ⟨.inr (.inr h), fun e => (List.nodup_cons.1 hn.2.1).1 (by rw [← e]; exact h)⟩
  · rintro ⟨h | h | h, hne⟩
    · exact .inl h
    · exact absurd h hne
    · exact .inr h
theorem take_drop_nodup {left : List Nat} (hn : left.Nodup) (k : Nat) : (left.take k ++ left.drop (k + 1)).Nodup := by
  rw [← List.eraseIdx_eq_take_drop_succ]
  exact hn.sublist (List.eraseIdx_sublist _ _)
/-- Rows of different types lie apart. -/
theorem own_type {w : World} {base size n : Nat} {e : TypeId} {v : Value} {xs : List Value} (h : w.ownsRow base e size v n xs) (k : Nat) (hk : v.ownBlock = some k) : ∃ c, w.heap[k]? = some (.cells c e (0, 0)) := by
  obtain ⟨_, h2⟩ := h
  rcases h2 with ⟨rfl, rfl⟩ | ⟨g, cap, cur, rfl, _, hh, _⟩
  · cases hk
  · simp only [Value.ownBlock, Option.some.injEq] at hk
    subst hk
    exact ⟨cur, hh⟩
theorem own_ne {w : World} {b1 b2 s1 s2 n1 n2 : Nat} {e1 e2 : TypeId} {v1 v2 : Value} {x1 x2 : List Value} (h1 : w.ownsRow b1 e1 s1 v1 n1 x1) (h2 : w.ownsRow b2 e2 s2 v2 n2 x2) (he : e1 ≠ e2) : v1.ownBlock = none ∨ v1.ownBlock ≠ v2.ownBlock := by
  cases hk : v1.ownBlock with
  | none => exact .inl rfl
  | some k =>
    refine .inr (fun h => ?_)
    obtain ⟨c1, g1⟩ := own_type h1 k hk
    obtain ⟨c2, g2⟩ := own_type h2 k h.symm
    rw [g1] at g2
    simp only [Option.some.injEq, Obj.cells.injEq] at g2
    exact he g2.2.1
theorem own_ne_row {w : World} {b1 s1 n1 : Nat} {e1 T : TypeId} {v1 : Value} {x1 : List Value} {b : Nat} {c : Array Value} (h1 : w.ownsRow b1 e1 s1 v1 n1 x1) (hr : w.heap[b]? = some (.cells c T (0, 0))) (he : e1 ≠ T) : v1.ownBlock ≠ some b := by
  intro h
  obtain ⟨c1, g1⟩ := own_type h1 b h
  rw [g1] at hr
  simp only [Option.some.injEq, Obj.cells.injEq] at hr
  exact he hr.2.1
theorem own_keep {F : Nat → Prop} {w w' : World} {base : Nat} {e : TypeId} {size : Nat} {v : Value} {n : Nat} {xs : List Value} (h : w.ownsRow base e size v n xs) (k : Sm F w w') (hF : ∀ b, v.ownBlock = some b → ¬ F b) :
    w'.ownsRow base e size v n xs := by
  obtain ⟨h1, h2⟩ := h
  refine ⟨h1, ?_⟩
  rcases h2 with h2 | ⟨g, cap, cur, hv, hg, hh, r⟩
  · exact .inl h2
  · refine .inr ⟨g, cap, cur, hv, hg, ?_, r⟩
    rw [k.block g (Array.getElem?_eq_some_iff.1 hh).1 (hF g (by rw [hv]; rfl))]
    exact hh

theorem own_apart {w w' : World} {b2 s2 n2 : Nat} {e2 : TypeId} {v2 : Value} {x2 : List Value} {r : Option Nat} (h : w.ownsRow b2 e2 s2 v2 n2 x2) (hgr : w.grownBy w' r) (hne : r = none ∨ r ≠ v2.ownBlock) : w'.ownsRow b2 e2 s2 v2 n2 x2 := by
  refine own_keep (F := fun b => r = some b) h (sm_grown hgr (fun k hk => hk)) (fun b hb e => ?_)
  rcases hne with h1 | h1
  · rw [h1] at e
    cases e
  · exact h1 (by rw [e, hb])
end Go.Proofs.Ythjdnhlckjchgaa
