/- From a walk of a law, alone, to its row: the law's row says 'leaving', and a call that starts no goroutine leaves none. -/
import Derived.Test.YtpmnmgemdaoigaaBase
import Derived.Test.YtpmnmgemdaoigaaRows
import Derived.ProofKit
import Derived.OpenShut
import Derived.Conc.LeavingOf
import Derived.Deep.Slices
import Derived.Deep.Grids
namespace Go.Proofs.Ytpmnmgemdaoigaa
open Go.ChangeShapes Go.WideShapes Go.ChangeAt Go.RowKit Go.Deep
set_option linter.unusedVariables false

section
variable {H : Type} {enc : TypeId × Value → H}

/-- Each argument reads as it did, where nothing that was there has turned. -/
theorem trodAll_below {P : Program} (hl : laidOutB P = true) {W W' : World} (hb : Below W.heap.size W W') : ∀ (ts : List TypeId) (vs : List Value) (ds : List (DataW H)) (ps : List MemPlace),
    (∀ t ∈ ts, P.readableRec t = true ∧ t < P.types.size) → DataW.TrodAll enc P W 0 (fun _ => true) true ts vs ds ps → (∀ x ∈ ps, x.block < W.heap.size) →
    DataW.TrodAll enc P W' 0 (fun b => decide (b < W.heap.size)) true ts vs ds ps := by
  intro ts
  induction ts with
  | nil =>
    intro vs ds ps _ h _
    obtain ⟨rfl, rfl, rfl⟩ := trodAll_nil h
    exact trodAll_mk0
  | cons t ts ih =>
    intro vs ds ps ht h hlt
    obtain ⟨v, vs', d, ds', p, q, rfl, rfl, rfl, h1, h2⟩ := trodAll_cons h
    obtain ⟨r1, r2⟩ := ht t (by simp)
    exact trodAll_cons_mk (Below.trod hl r1 r2 h1 hb (fun x hx => hlt x (by simp [hx]))) (ih vs' ds' q (fun t' ht' => ht t' (by simp [ht'])) h2 (fun x hx => hlt x (by simp [hx])))

/-- What a law's row asks behind the call: true; the arguments as they were. -/
theorem law_post {P : Program} {f : Func} {s : ChangeSpec} (hl : laidOutB P = true) (hts : ∀ t ∈ f.params.toList, P.readableRec t = true ∧ t < P.types.size) (hv : s.vars = []) {tb : TypeId} (hres : f.resultTypes = #[tb]) (hbool : P.underlying tb = some .bool)
    {W W' : World} {args : Array Value} {ds gs : List (DataW H)} {before : List MemPlace} (hW : DataW.Whole enc P f.params.toList s.vars false W args.toList ds gs before)
    (hspec : s.fn H (ds ++ []) = { results := [.lit (.bool true)], args := ds }) (hb : Below W.heap.size W W') : s.post enc P f false true false false W args (.bool true) W' := by
  have hlt : ∀ p ∈ before, p.block < W.heap.size := fun p hp => hW.lt p hp
  have hW2 := hW
  obtain ⟨p, q, hA, hV, rfl, hfz, hnd⟩ := hW2
  rw [hv] at hV
  obtain ⟨rfl, rfl⟩ := trodVars_none hV
  refine ⟨ds, [], p ++ [], [], p, [], hW, ?_, ?_, ?_, hb.frame _, fun h => by cases h⟩
  · rw [hspec, hres]
    exact trodAll_mk1 (shut_bool hbool true)
  · rw [hspec]
    exact trodAll_below hl hb _ _ _ _ hts hA (fun x hx => hlt x (by simp [hx]))
  · rw [hspec, hv]
    rfl
end

theorem plain_at {w : World} {a : Addr} {i : Nat} {v : Value} (h0 : ∃ u, w.cell? (a.add 0) = some u) (h : w.cell? (a.add i) = some v) : ∃ b off, a = ⟨b, off, none⟩ ∧ b < w.heap.size ∧ w.cell? ⟨b, off + i, none⟩ = some v := by
  obtain ⟨u, hu⟩ := h0
  have e0 : a.add 0 = a := by simp [Addr.add]
  rw [e0] at hu
  obtain ⟨b, off, sp⟩ := a
  have hsp : sp = none := by
    unfold World.cell? at hu
    split at hu
    · split at hu
      · cases hu
      · rename_i hs
        simpa using hs
    · cases hu
  subst hsp
  have hb : b < w.heap.size := by
    unfold World.cell? at hu
    split at hu
    · rename_i hh
      exact (Array.getElem?_eq_some_iff.1 hh).1
    · cases hu
  refine ⟨b, off, rfl, hb, ?_⟩
  have : (⟨b, off, none⟩ : Addr).add i = ⟨b, off + i, none⟩ := by
    unfold Addr.add
    split <;> simp_all
  rw [← this]
  exact h

section
variable {H : Type} {enc : TypeId × Value → H}

theorem open_bools_arg {P : Program} {t e : TypeId} (ht : P.underlying t = some (.slice e)) (he : P.underlying e = some .bool) (hc : P.cellsOf e = 1) {W : World} {b0 : Nat} {v : Value} {d : DataW H} {p : List MemPlace}
    (hok : Value.okWide P W .any b0 t v) (h : DataW.Trod enc P W 0 (fun _ => true) true t v d p) :
    ∃ a len cap, ∃ bs : Nat → Bool, v = .slice a len cap ∧ len ≤ 9223372036854775807 ∧ ∀ j, j < len → ∃ b off, a = some ⟨b, off, none⟩ ∧ b < W.heap.size ∧ W.cell? ⟨b, off + j, none⟩ = some (.bool (bs j)) := by
  obtain ⟨a0, len, cap, rfl⟩ := okWide_slice ht hok
  obtain ⟨fuel, hf⟩ := h
  rcases open_bools ht he hc hf with ⟨hcs, hx⟩ | ⟨a, len', cap', B, hcs, _, hl, hm, hx, hcell⟩
  · simp [Value.cells] at hcs
    obtain ⟨rfl, rfl, rfl⟩ := hcs
    exact ⟨none, 0, 0, fun _ => false, rfl, by omega, fun j h => absurd h (by omega)⟩
  · simp [Value.cells] at hcs
    obtain ⟨rfl, rfl, rfl⟩ := hcs
    refine ⟨some a, len, cap, B, rfl, by unfold maxLen at hm; omega, fun j hj => ?_⟩
    obtain ⟨b, off, rfl, h1, h2⟩ := plain_at ⟨_, hcell 0 (by omega)⟩ (hcell j (by omega))
    exact ⟨b, off, rfl, h1, h2⟩

theorem open_u64s_arg {P : Program} {t e : TypeId} (ht : P.underlying t = some (.slice e)) (he : P.underlying e = some (.int .u64)) (hc : P.cellsOf e = 1) {W : World} {b0 : Nat} {v : Value} {d : DataW H} {p : List MemPlace}
    (hok : Value.okWide P W .any b0 t v) (h : DataW.Trod enc P W 0 (fun _ => true) true t v d p) :
    ∃ a len cap, ∃ ns : Nat → Nat, v = .slice a len cap ∧ len ≤ 9223372036854775807 ∧ (∀ j, j < len → ns j < 18446744073709551616) ∧ ∀ j, j < len → ∃ b off, a = some ⟨b, off, none⟩ ∧ b < W.heap.size ∧ W.cell? ⟨b, off + j, none⟩ = some (.int .u64 (ns j : Int)) := by
  obtain ⟨a0, len, cap, rfl⟩ := okWide_slice ht hok
  obtain ⟨fuel, hf⟩ := h
  rcases open_ints ht he hc hf with ⟨hcs, hx⟩ | ⟨a, len', cap', zs, hcs, _, hl, hm, hz, hx, hcell, hwz⟩
  · simp [Value.cells] at hcs
    obtain ⟨rfl, rfl, rfl⟩ := hcs
    exact ⟨none, 0, 0, fun _ => 0, rfl, by omega, fun j h => absurd h (by omega), fun j h => absurd h (by omega)⟩
  · simp [Value.cells] at hcs
    obtain ⟨rfl, rfl, rfl⟩ := hcs
    simp only [if_true] at hz
    have hbd : ∀ j, j < zs.length → 0 ≤ zs.getD j 0 ∧ zs.getD j 0 < 18446744073709551616 := by
      intro j hj
      have := hwz _ (List.getElem_mem hj)
      have e : zs.getD j 0 = zs[j] := by simp [List.getD, hj]
      rw [e]
      simp [Lit.wf, IntKind.min, IntKind.max, IntKind.signed, IntKind.bits] at this
      omega
    refine ⟨some a, len, cap, fun j => (zs.getD j 0).toNat, rfl, by unfold maxLen at hm; omega, fun j hj => by have := hbd j (by omega); show (zs.getD j 0).toNat < _; omega, fun j hj => ?_⟩
    obtain ⟨b, off, rfl, h1, h2⟩ := plain_at ⟨_, hcell 0 (by omega)⟩ (hcell j (by omega))
    refine ⟨b, off, rfl, h1, ?_⟩
    have := hbd j (by omega)
    rw [h2, Int.toNat_of_nonneg this.1]
end

/-- A call that starts no goroutine leaves none behind. -/
theorem leaving_of_handed {a : Assume} {C : Checked} {os : Os} {f : FuncId} {r : Reach} {Pre : World → Array Value → Prop} {Post : World → Array Value → Value → World → Prop}
    (h : ReturnsInHanded a C os f r Pre Post) : ReturnsInLeavingWide a C os f r Pre Post := fun enter =>
  ReturnsInOpen.mono (fun m w t ⟨⟨hq, ht⟩, hh, he⟩ => ⟨hh, ⟨fun g hg => ⟨0, by
    unfold Machine.othersDone at hq
    rw [List.all_eq_true] at hq
    have := hq g hg
    simpa [Goroutine.LeavesIn] using this⟩, ht⟩, he⟩) (fun _ x => x) (h enter)

theorem laid_out : laidOutB Try.prog = true := by kernel_rfl
theorem readable_of (ts : List TypeId) (h : (ts.all fun t => Try.prog.readableRec t && decide (t < Try.prog.types.size)) = true) : ∀ t ∈ ts, Try.prog.readableRec t = true ∧ t < Try.prog.types.size := by
  intro t ht
  rw [List.all_eq_true] at h
  have := h t ht
  simpa using this
theorem own_knob : ownKnob Try.prog.godebug = none := by kernel_rfl
end Go.Proofs.Ytpmnmgemdaoigaa
