/- Arguments that are slices of structs, opened; here: the calls of EpochNotes. -/
import Derived.Test.YtokoniaoknnggaaNotesW
import Derived.Test.YtokoniaoknnggaaLaw
import Derived.Deep.Strs
import Derived.SizedLaws
import Derived.Deep.Strs
namespace Go.Proofs.Ytokoniaoknnggaa
open Go.ChangeShapes Go.WideShapes Go.ChangeAt Go.RowKit Go.Deep
set_option linter.unusedVariables false
set_option maxRecDepth 100000

theorem add_plain' (b off k : Nat) : (⟨b, off, none⟩ : Addr).add k = ⟨b, off + k, none⟩ := by
  unfold Addr.add
  split <;> simp_all

section
variable {H : Type} {enc : TypeId × Value → H}

/-- A slice, opened, by what its elements are. -/
theorem open_recs {α : Type} [Inhabited α] {ts e : TypeId} (sz : Nat) (hs0 : 0 < sz) (hc : Try.prog.cellsOf e = sz) (ht : Try.prog.underlying ts = some (.slice e)) (G : α → Prop) (f : α → List Value) (hlen : ∀ q, G q → (f q).length = sz)
    {W : World} (hel : ∀ fuel cs y, DataW.trod enc Try.prog W 0 (fun _ => true) true fuel e cs = some y → ∃ q, G q ∧ cs = f q) {b0 : Nat} {v : Value} {d : DataW H} {p : List MemPlace}
    (hok : Value.okWide Try.prog W .any b0 ts v) (h : DataW.Trod enc Try.prog W 0 (fun _ => true) true ts v d p) :
    ∃ (qs : List α) (a : Option Addr) (cap : Nat), (∀ q ∈ qs, G q) ∧ v = .slice a qs.length cap ∧ Recs sz v (qs.map f) W ∧ (a = none → qs.length = 0 ∧ cap = 0) ∧ qs.length ≤ maxLen ∧
      ((d = .nil ∧ qs.length = 0) ∨ ∃ el sp, d = .slice el sp ∧ el.length = qs.length) := by
  obtain ⟨a0, len, cap, rfl⟩ := okWide_slice ht hok
  obtain ⟨fuel, hf⟩ := h
  rcases open_slice ht hf with ⟨hcs, hx⟩ | ⟨a, len', cap', m, n, D, Pl, hcs, _, hl, hm, hmm, hx, hel2⟩
  · simp [Value.cells] at hcs
    obtain ⟨rfl, rfl, rfl⟩ := hcs
    exact ⟨[], none, 0, fun q hq => by simp at hq, rfl, ⟨none, 0, rfl, Nat.le_refl _, fun h => absurd h (by simp)⟩, fun _ => ⟨rfl, rfl⟩, by simp, .inl ⟨(Prod.ext_iff.1 hx).1, rfl⟩⟩
  · simp [Value.cells] at hcs
    obtain ⟨rfl, rfl, rfl⟩ := hcs
    simp only [if_true] at hmm
    subst hmm
    have hd : d = .slice ((List.range len).map D) ((List.range (m - len)).map fun j => D (len + j)) := (Prod.ext_iff.1 hx).1
    by_cases h0 : len = 0
    · subst h0
      exact ⟨[], some a, m, fun q hq => by simp at hq, rfl, ⟨some a, m, rfl, Nat.zero_le _, fun h => absurd h (by simp)⟩, (fun h => nomatch h), by simp, .inr ⟨_, _, hd, by simp⟩⟩
    · have each : ∀ i, i < len → ∃ q : α, G q ∧ ∀ j v, (f q)[j]? = some v → W.cell? (a.add (i * sz + j)) = some v := by
        intro i hi
        obtain ⟨cs', hc1, hc2⟩ := hel2 i (by omega)
        obtain ⟨q, q1, rfl⟩ := hel _ _ _ hc2
        refine ⟨q, q1, fun j v hv => ?_⟩
        rw [hc] at hc1
        unfold World.cells? at hc1
        rw [if_pos (Nat.zero_le _)] at hc1
        have hj : j < sz := by
          have := (List.getElem?_eq_some_iff.1 hv).1
          rw [hlen q q1] at this
          exact this
        have := mapM_some_get hc1 j j (by simp [hj])
        rw [← add_add, this, hv]
      obtain ⟨g, hg⟩ := choose_lt each
      have c0 : ∃ u, W.cell? (a.add 0) = some u := by
        have h1 := hg 0 (by omega)
        obtain ⟨u, hu⟩ : ∃ u, (f (g 0))[0]? = some u := by
          have : 0 < (f (g 0)).length := by rw [hlen _ h1.1]; exact hs0
          exact ⟨_, List.getElem?_eq_getElem this⟩
        exact ⟨u, by simpa using h1.2 0 u hu⟩
      obtain ⟨u, hu⟩ := c0
      obtain ⟨b, off, rfl, hb, -⟩ := plain_at ⟨u, hu⟩ hu
      refine ⟨(List.range len).map g, some ⟨b, off, none⟩, m, ?_, by simp, ⟨some ⟨b, off, none⟩, m, by simp, by simpa using hl, fun _ => ⟨b, off, rfl, hb, ?_⟩⟩, (fun h => by simp at h), by simp; omega, .inr ⟨_, _, hd, by simp⟩⟩
      · intro q hq
        simp at hq
        obtain ⟨i, hi, rfl⟩ := hq
        exact (hg i hi).1
      · intro j hj i v hv
        simp at hj
        simp only [List.getElem_map, List.getElem_range] at hv
        have := (hg j hj).2 i v hv
        rwa [add_plain', ← Nat.add_assoc] at this

theorem open_i64cell {W : World} {base fuel : Nat} {spare : Nat → Bool} {held : Bool} {cs : List Value} {y : DataW H × List MemPlace} (h : DataW.trod enc Try.prog W base spare held fuel 3 cs = some y) :
    ∃ x : Int, (Lit.int .i64 x).wf = true ∧ cs = [.int .i64 x] := by
  obtain ⟨n, rfl, -, hw⟩ := DataW.trod_int Try.underlying3 h
  exact ⟨n, hw, rfl⟩
def DoV.Ok (p : DoV) : Prop := (Lit.int .i64 p.1).wf = true ∧ (Lit.int .i64 p.2.1).wf = true ∧ p.2.2 < 18446744073709551616
theorem open_do {W : World} {base fuel : Nat} {spare : Nat → Bool} {held : Bool} {cs : List Value} {y : DataW H × List MemPlace} (h : DataW.trod enc Try.prog W base spare held fuel 40 cs = some y) :
    ∃ p : DoV, DoV.Ok p ∧ cs = doC p := by
  have hc1 : Try.prog.cellsOf 3 = 1 := by kernel_rfl
  have hc2 : Try.prog.cellsOf 38 = 1 := by kernel_rfl
  have hc4 : Try.prog.cellsOf 40 = 3 := by kernel_rfl
  obtain ⟨y0, y1, y2, n, -, hl, h0, h1, h2⟩ := trod_struct3 Try.underlying40 h
  rw [hc4] at hl
  simp only [hc1, hc2] at h0 h1 h2
  obtain ⟨a, a1, a2⟩ := open_i64cell h0
  obtain ⟨c, c1, c2⟩ := open_i64cell h1
  obtain ⟨b, b1, -, b2⟩ := DataW.trod_int Try.underlying38 h2
  simp [Lit.wf, IntKind.min, IntKind.max, IntKind.signed, IntKind.bits] at b2
  refine ⟨(a, c, b.toNat), ⟨a1, c1, by show b.toNat < _; omega⟩, ?_⟩
  match cs, hl with
  | [x0, x1, x2], _ =>
    simp at a2 b1 c2
    simp [doC, a2, b1, c2, Int.toNat_of_nonneg b2.1]
theorem open_dos_arg {W : World} {b0 : Nat} {v : Value} {d : DataW H} {p : List MemPlace}
    (hok : Value.okWide Try.prog W .any b0 22 v) (h : DataW.Trod enc Try.prog W 0 (fun _ => true) true 22 v d p) :
    ∃ (qs : List DoV) (a : Option Addr) (cap : Nat), (∀ q ∈ qs, DoV.Ok q) ∧ v = .slice a qs.length cap ∧ Recs 3 v (qs.map doC) W ∧ qs.length ≤ maxLen := by
  obtain ⟨qs, a, cap, h1, h2, h3, h4, h5, -⟩ := open_recs 3 (by decide) (by kernel_rfl) Try.underlying22 DoV.Ok doC (fun _ _ => rfl) (fun _ _ _ => open_do) hok h
  exact ⟨qs, a, cap, h1, h2, h3, h5⟩
end
end Go.Proofs.Ytokoniaoknnggaa
