/- Towards TallyJoins: a lone histogram's Add; rows' contents. -/
import Derived.Test.YtdedmmjmiakidaaTalS
import Derived.Test.YtdedmmjmiakidaaTalT
import Derived.Test.YtdedmmjmiakidaaTalG
import Derived.Deep.Slices
namespace Go.Proofs.Ytdedmmjmiakidaa
open Go.RowKit
set_option linter.unusedVariables false

theorem hadd_nil (H : Nat) (m : List Nat) (v : Nat) (hv : v < 18446744073709551616) (w : World) (h : His H m w) :
    Calls Try.prog 17 #[.pointer (some ⟨H, 0, none⟩), .nilIface, .int .u64 v] w fun e w' =>
      e = .returned (.int .i64 0) ∧ Sm (fun k => k = H) w w' ∧ His H (come m v) w' := by
  refine (hadd_c (gate_nilX 0 (fun k => k = H) (fun w' => Sm (fun k => k = H) w w') (fun w1 w2 hy k => hy.trans k)) (Nat.zero_le _) m v hv w [] (by simp) (Sm.refl _ _) h).mono ?_
  rintro e w' ⟨h1, h2, _, h4⟩
  exact ⟨h1, h2, h4⟩

/-- The contents of the rows, one behind the other. -/
def cat (Z : Nat → List Nat) : Nat → List Nat
  | 0 => []
  | i + 1 => cat Z i ++ Z i

theorem GoodRow.list {most : Nat} {w : World} {u : Value} (h : GoodRow most w u) : ∃ (z : List Nat) (a : Option Addr) (c : Nat), u = .slice a z.length c ∧ z.length ≤ most ∧ (∀ x ∈ z, x < 18446744073709551616) ∧
    ∀ j, j < z.length → ∃ b o, a = some ⟨b, o, none⟩ ∧ b < w.heap.size ∧ w.cell? ⟨b, o + j, none⟩ = some (.int .u64 ((z.getD j 0 : Nat) : Int)) := by
  obtain ⟨a, l, c, rfl, h1, h2, h3⟩ := h
  have h4 : ∀ j, j < l → ∃ x : Nat, x < 18446744073709551616 ∧ ∃ b o, a = some ⟨b, o, none⟩ ∧ b < w.heap.size ∧ w.cell? ⟨b, o + j, none⟩ = some (.int .u64 ((x : Nat) : Int)) := fun j hj => by
    obtain ⟨b, o, x, g1, g2, g3, g4⟩ := h3 j hj
    exact ⟨x, g3, b, o, g1, g2, g4⟩
  obtain ⟨g, hg⟩ := Go.Deep.choose_lt h4
  refine ⟨(List.range l).map g, a, c, by simp, by simpa using h1, ?_, fun j hj => ?_⟩
  · intro x hx
    simp at hx
    obtain ⟨j, hj, rfl⟩ := hx
    exact (hg j hj).1
  · have hj : j < l := by simpa using hj
    obtain ⟨b, o, g1, g2, g3⟩ := (hg j hj).2
    refine ⟨b, o, g1, g2, ?_⟩
    rw [g3]
    simp [hj]

/-- Rows that few has handed on, by their contents. -/
structure RowsOwn (g m : Nat) (Z : Nat → List Nat) (A : Nat → Option Addr) (C : Nat → Nat) (w : World) : Prop where
  hd : ∀ r, r < m → w.cell? ⟨g, r, none⟩ = some (.slice (A r) (Z r).length (C r))
  gl : 0 < m → g < w.heap.size
  le : ∀ r, r < m → (Z r).length ≤ 40
  lt : ∀ r, r < m → ∀ x ∈ Z r, x < 18446744073709551616
  dat : ∀ r, r < m → ∀ j, j < (Z r).length → ∃ b o, A r = some ⟨b, o, none⟩ ∧ b < w.heap.size ∧ w.cell? ⟨b, o + j, none⟩ = some (.int .u64 (((Z r).getD j 0 : Nat) : Int))

/-- What is kept where only blocks from B on are written. -/
theorem RowsOwn.sm {F : Nat → Prop} {g m : Nat} {Z : Nat → List Nat} {A : Nat → Option Addr} {C : Nat → Nat} {w w0 w' : World} (h : RowsOwn g m Z A C w0) (k0 : Sm (fun _ => False) w0 w) (k : Sm F w w') (hF : ∀ b, b < w0.heap.size → ¬ F b) : RowsOwn g m Z A C w' where
  hd := fun r hr => (k.cell (p := ⟨g, r, none⟩) (Nat.lt_of_lt_of_le (h.gl (by omega)) k0.size) (hF g (h.gl (by omega)))).trans ((k0.cell (p := ⟨g, r, none⟩) (h.gl (by omega)) (fun h => h)).trans (h.hd r hr))
  gl := fun h0 => Nat.lt_of_lt_of_le (h.gl h0) (Nat.le_trans k0.size k.size)
  le := h.le
  lt := h.lt
  dat := fun r hr j hj => by
    obtain ⟨b, o, h1, h2, h3⟩ := h.dat r hr j hj
    exact ⟨b, o, h1, Nat.lt_of_lt_of_le h2 (Nat.le_trans k0.size k.size), (k.cell (p := ⟨b, o + j, none⟩) (Nat.lt_of_lt_of_le h2 k0.size) (hF b h2)).trans ((k0.cell (p := ⟨b, o + j, none⟩) h2 (fun h => h)).trans h3)⟩

theorem rows_of_few {g m cap : Nat} {xs : List Value} {w : World} {base : Nat} (hm : m = xs.length) (hown : w.ownsRow base 38 1 (.slice (some ⟨g, 0, none⟩) m cap) m xs) (hgood : ∀ u ∈ xs, GoodRow 40 w u) :
    ∃ (Z : Nat → List Nat) (A : Nat → Option Addr) (C : Nat → Nat), RowsOwn g m Z A C w := by
  have each : ∀ r, r < m → ∃ y : List Nat × Option Addr × Nat, xs[r]? = some (.slice y.2.1 y.1.length y.2.2) ∧ y.1.length ≤ 40 ∧ (∀ x ∈ y.1, x < 18446744073709551616) ∧
      ∀ j, j < y.1.length → ∃ b o, y.2.1 = some ⟨b, o, none⟩ ∧ b < w.heap.size ∧ w.cell? ⟨b, o + j, none⟩ = some (.int .u64 ((y.1.getD j 0 : Nat) : Int)) := fun r hr => by
    obtain ⟨z, a, c, h1, h2, h3, h4⟩ := (hgood xs[r] (List.getElem_mem (by omega))).list
    exact ⟨(z, a, c), by rw [List.getElem?_eq_getElem (by omega), h1], h2, h3, h4⟩
  obtain ⟨f, hf⟩ := Go.Deep.choose_lt each
  refine ⟨fun r => (f r).1, fun r => (f r).2.1, fun r => (f r).2.2, fun r hr => ?_, fun h0 => (hown.lt g rfl).2, fun r hr => (hf r hr).2.1, fun r hr => (hf r hr).2.2.1, fun r hr => (hf r hr).2.2.2⟩
  have := hown.cells (g := g) rfl r _ (hf r hr).1
  have e : (⟨g, 0, none⟩ : Addr).add r = ⟨g, r, none⟩ := by
    unfold Addr.add
    split <;> simp_all
  rw [e] at this
  exact this

/-- Rows of different types lie apart. -/
theorem own_type {w : World} {base size n : Nat} {e : TypeId} {v : Value} {xs : List Value} (h : w.ownsRow base e size v n xs) (k : Nat) (hk : v.ownBlock = some k) : ∃ c, w.heap[k]? = some (.cells c e (0, 0)) := by
  obtain ⟨_, h2⟩ := h
  rcases h2 with ⟨rfl, rfl⟩ | ⟨g, cap, cur, rfl, _, hh, _⟩
  · cases hk
  · simp only [Value.ownBlock, Option.some.injEq] at hk
    subst hk
    exact ⟨cur, hh⟩
theorem own_ne {w : World} {b1 b2 s1 s2 n1 n2 : Nat} {e1 e2 : TypeId} {v1 v2 : Value} {x1 x2 : List Value} (h1 : w.ownsRow b1 e1 s1 v1 n1 x1) (h2 : w.ownsRow b2 e2 s2 v2 n2 x2) (he : e1 ≠ e2) : v1.ownBlock = none ∨ v1.ownBlock ≠ v2.ownBlock := by
  cases hk : v1.ownBlock with
  | none => exact .inl rfl
  | some k =>
    refine .inr (fun h => ?_)
    obtain ⟨c1, g1⟩ := own_type h1 k hk
    obtain ⟨c2, g2⟩ := own_type h2 k h.symm
    rw [g1] at g2
    simp only [Option.some.injEq, Obj.cells.injEq] at g2
    exact he g2.2.1
theorem own_ne_row {w : World} {b1 s1 n1 : Nat} {e1 T : TypeId} {v1 : Value} {x1 : List Value} {b : Nat} {c : Array Value} (h1 : w.ownsRow b1 e1 s1 v1 n1 x1) (hr : w.heap[b]? = some (.cells c T (0, 0))) (he : e1 ≠ T) : v1.ownBlock ≠ some b := by
  intro h
  obtain ⟨c1, g1⟩ := own_type h1 b h
  rw [g1] at hr
  simp only [Option.some.injEq, Obj.cells.injEq] at hr
  exact he hr.2.1
theorem cat_lt (Z : Nat → List Nat) : ∀ i, (∀ r, r < i → ∀ x ∈ Z r, x < 18446744073709551616) → ∀ x ∈ cat Z i, x < 18446744073709551616
  | 0, _ => by simp [cat]
  | i + 1, h => by
    intro x hx
    rcases List.mem_append.1 hx with h1 | h1
    · exact cat_lt Z i (fun r hr => h r (by omega)) x h1
    · exact h i (by omega) x h1
theorem cat_len (Z : Nat → List Nat) : ∀ i, (∀ r, r < i → (Z r).length ≤ 40) → (cat Z i).length ≤ i * 40
  | 0, _ => by simp [cat]
  | i + 1, h => by
    have h1 := cat_len Z i (fun r hr => h r (by omega))
    have h2 := h i (by omega)
    rw [cat, List.length_append]
    omega
end Go.Proofs.Ytdedmmjmiakidaa
