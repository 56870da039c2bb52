/- An argument that is a slice of histograms. -/
import Derived.Test.YtdedmmjmiakidaaTalJ
import Derived.Test.YtdedmmjmiakidaaLaw
import Derived.Deep.Strs
import Derived.SizedLaws
namespace Go.Proofs.Ytdedmmjmiakidaa
open Go.ChangeShapes Go.WideShapes Go.ChangeAt Go.RowKit Go.Deep
set_option linter.unusedVariables false

theorem get_of_one {α : Type} (l : List α) (i : Nat) (v : α) (h : (l.drop i).take 1 = [v]) : l[i]? = some v := by
  have := congrArg List.head? h
  simpa [List.head?_take, List.head?_drop] using this

section
variable {H : Type} {enc : TypeId × Value → H}

theorem open_u64cell {W : World} {base fuel : Nat} {spare : Nat → Bool} {held : Bool} {cs : List Value} {y : DataW H × List MemPlace} (h : DataW.trod enc Try.prog W base spare held fuel 23 cs = some y) :
    ∃ x : Nat, cs = [.int .u64 (x : Int)] ∧ x < 18446744073709551616 := by
  obtain ⟨n, rfl, -, hw⟩ := DataW.trod_int Try.underlying23 h
  simp [Lit.wf, IntKind.min, IntKind.max, IntKind.signed, IntKind.bits] at hw
  refine ⟨n.toNat, ?_, by omega⟩
  rw [Int.toNat_of_nonneg hw.1]

theorem open_hist {W : World} {base fuel : Nat} {spare : Nat → Bool} {held : Bool} {cs : List Value} {y : DataW H × List MemPlace} (h : DataW.trod enc Try.prog W base spare held fuel 26 cs = some y) :
    ∃ m : List Nat, m.length = 67 ∧ (∀ x ∈ m, x < 18446744073709551616) ∧ cs = (uw m).toList := by
  have hce : Try.prog.cellsOf 23 = 1 := by kernel_rfl
  have hct : Try.prog.cellsOf 24 = 65 := by kernel_rfl
  have hch : Try.prog.cellsOf 26 = 67 := by kernel_rfl
  obtain ⟨y0, y1, y2, n, -, hl, h0, h1, h2⟩ := trod_struct3 Try.underlying26 h
  rw [hch] at hl
  simp only [hct, hce] at h0 h1 h2
  obtain ⟨xs, k, -, -, hl0, hxl, hx⟩ := DataW.trod_array Try.underlying24 h0
  have all : ∀ i, i < 67 → ∃ x : Nat, cs[i]? = some (.int .u64 (x : Int)) ∧ x < 18446744073709551616 := by
    intro i hi
    rcases Nat.lt_or_ge i 65 with h | h
    · have hxi := hx i h
      rw [hce, List.getElem?_eq_getElem (by omega)] at hxi
      obtain ⟨x, hx1, hx2⟩ := open_u64cell hxi
      have := get_of_one _ _ _ (by rw [Nat.mul_one] at hx1; exact hx1)
      refine ⟨x, ?_, hx2⟩
      simpa [List.getElem?_take, h] using this
    · rcases (by omega : i = 65 ∨ i = 66) with rfl | rfl
      · obtain ⟨x, hx1, hx2⟩ := open_u64cell h1
        exact ⟨x, get_of_one _ _ _ hx1, hx2⟩
      · obtain ⟨x, hx1, hx2⟩ := open_u64cell h2
        exact ⟨x, get_of_one _ _ _ hx1, hx2⟩
  obtain ⟨g, hg⟩ := choose_lt all
  refine ⟨(List.range 67).map g, by simp, ?_, ?_⟩
  · intro x hx
    simp at hx
    obtain ⟨i, hi, rfl⟩ := hx
    exact (hg i hi).2
  · apply List.ext_getElem?
    intro i
    rcases Nat.lt_or_ge i 67 with h | h
    · rw [(hg i h).1]
      simp [uw, h]
    · rw [List.getElem?_eq_none (by omega), List.getElem?_eq_none (by simp [uw]; omega)]

set_option maxRecDepth 100000 in
/-- A slice of histograms, opened. -/
theorem open_hists_arg {W : World} {b0 : Nat} {v : Value} {d : DataW H} {p : List MemPlace}
    (hok : Value.okWide Try.prog W .any b0 22 v) (h : DataW.Trod enc Try.prog W 0 (fun _ => true) true 22 v d p) :
    ∃ a b off len cap, ∃ f : Nat → List Nat, v = .slice a len cap ∧ (0 < len → a = some ⟨b, off, none⟩) ∧ HisL b off len f W ∧ (a = none → len = 0 ∧ cap = 0) ∧
      ((d = .nil ∧ len = 0) ∨ ∃ el sp, d = .slice el sp ∧ el.length = len) := by
  obtain ⟨a0, len, cap, rfl⟩ := okWide_slice Try.underlying22 hok
  obtain ⟨fuel, hf⟩ := h
  have hch : Try.prog.cellsOf 26 = 67 := by kernel_rfl
  rcases open_slice Try.underlying22 hf with ⟨hcs, hx⟩ | ⟨a, len', cap', m, n, D, Pl, hcs, _, hl, hm, hmm, hx, hel⟩
  · simp [Value.cells] at hcs
    obtain ⟨rfl, rfl, rfl⟩ := hcs
    refine ⟨none, 0, 0, 0, 0, fun _ => [], rfl, fun h => absurd h (by decide), ⟨fun j h => absurd h (by omega), fun j h => absurd h (by omega), fun j h => absurd h (by omega), fun h => absurd h (by decide)⟩, fun _ => ⟨rfl, rfl⟩, .inl ⟨?_, rfl⟩⟩
    exact (Prod.ext_iff.1 hx).1
  · simp [Value.cells] at hcs
    obtain ⟨rfl, rfl, rfl⟩ := hcs
    simp only [if_true] at hmm
    subst hmm
    have hd : d = .slice ((List.range len).map D) ((List.range (m - len)).map fun j => D (len + j)) := (Prod.ext_iff.1 hx).1
    have hfin : (d = .nil ∧ len = 0) ∨ ∃ el sp, d = .slice el sp ∧ el.length = len := .inr ⟨_, _, hd, by simp⟩
    by_cases h0 : len = 0
    · subst h0
      exact ⟨some a, 0, 0, 0, m, fun _ => [], rfl, fun h => absurd h (by decide), ⟨fun j h => absurd h (by omega), fun j h => absurd h (by omega), fun j h => absurd h (by omega), fun h => absurd h (by decide)⟩, (fun h => nomatch h), hfin⟩
    · have each : ∀ i, i < len → ∃ q : List Nat, q.length = 67 ∧ (∀ x ∈ q, x < 18446744073709551616) ∧ ∀ j v, (uw q).toList[j]? = some v → W.cell? (a.add (i * 67 + j)) = some v := by
        intro i hi
        obtain ⟨cs', hc1, hc2⟩ := hel i (by omega)
        obtain ⟨q, q1, q2, rfl⟩ := open_hist hc2
        refine ⟨q, q1, q2, fun j v hv => ?_⟩
        rw [hch] at hc1
        unfold World.cells? at hc1
        rw [if_pos (Nat.zero_le _)] at hc1
        have hj : j < 67 := by
          have := (List.getElem?_eq_some_iff.1 hv).1
          simpa [uw, q1] using this
        have := mapM_some_get hc1 j j (by simp [hj])
        rw [← add_add, this, hv]
      obtain ⟨f, hf'⟩ := choose_lt each
      have c0 : ∃ u, W.cell? (a.add 0) = some u := by
        have h1 := hf' 0 (by omega)
        obtain ⟨u, hu⟩ : ∃ u, (uw (f 0)).toList[0]? = some u := by
          have : 0 < (uw (f 0)).toList.length := by simp [uw, h1.1]
          exact ⟨_, List.getElem?_eq_getElem this⟩
        exact ⟨u, by simpa using h1.2.2 0 u hu⟩
      obtain ⟨u, hu⟩ := c0
      obtain ⟨b, off, rfl, hb, -⟩ := plain_at ⟨u, hu⟩ hu
      refine ⟨_, b, off, len, m, f, rfl, fun _ => rfl, ⟨fun j hj i v hv => ?_, fun j hj => (hf' j hj).1, fun j hj => (hf' j hj).2.1, fun _ => hb⟩, (fun h => nomatch h), hfin⟩
      have := (hf' j hj).2.2 i v hv
      have e : (⟨b, off, none⟩ : Addr).add (j * 67 + i) = ⟨b, off + j * 67 + i, none⟩ := by
        unfold Addr.add
        split <;> simp_all [Nat.add_assoc]
      rw [e] at this
      exact this
end
end Go.Proofs.Ytdedmmjmiakidaa
