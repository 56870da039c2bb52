/- Arguments that are slices of keys, of ints and of stamps put, opened. -/
import Derived.Test.YthjdnhlckjchgaaLanM
import Derived.Test.YthjdnhlckjchgaaLanK
import Derived.Test.YthjdnhlckjchgaaLaw
import Derived.Deep.Strs
import Derived.SizedLaws
namespace Go.Proofs.Ythjdnhlckjchgaa
open Go.ChangeShapes Go.WideShapes Go.ChangeAt Go.RowKit Go.Deep
set_option linter.unusedVariables false
set_option maxRecDepth 100000

theorem get_of_one {α : Type} (l : List α) (i : Nat) (v : α) (h : (l.drop i).take 1 = [v]) : l[i]? = some v := by
  have := congrArg List.head? h
  simpa [List.head?_take, List.head?_drop] using this
theorem add_plain' (b off k : Nat) : (⟨b, off, none⟩ : Addr).add k = ⟨b, off + k, none⟩ := by
  unfold Addr.add
  split <;> simp_all

section
variable {H : Type} {enc : TypeId × Value → H}

theorem trod_struct5 {P : Program} {w : World} {base : Nat} {spare : Nat → Bool} {held : Bool} {t : TypeId} {f0 f1 f2 f3 f4 : Field} {fuel : Nat} {cs : List Value} {x : DataW H × List MemPlace} (ht : P.underlying t = some (.struct #[f0, f1, f2, f3, f4])) (h : DataW.trod enc P w base spare held fuel t cs = some x) :
    ∃ y0 y1 y2 y3 y4 n, cs.length = P.cellsOf t ∧ DataW.trod enc P w base spare held n f0.type ((cs.drop f0.offset).take (P.cellsOf f0.type)) = some y0 ∧
      DataW.trod enc P w base spare held n f1.type ((cs.drop f1.offset).take (P.cellsOf f1.type)) = some y1 ∧ DataW.trod enc P w base spare held n f2.type ((cs.drop f2.offset).take (P.cellsOf f2.type)) = some y2 ∧
      DataW.trod enc P w base spare held n f3.type ((cs.drop f3.offset).take (P.cellsOf f3.type)) = some y3 ∧ DataW.trod enc P w base spare held n f4.type ((cs.drop f4.offset).take (P.cellsOf f4.type)) = some y4 := by
  obtain ⟨xs, n, _, rfl, hl, hlen, hf⟩ := DataW.trod_struct ht h
  match xs, hlen with
  | [y0, y1, y2, y3, y4], _ => exact ⟨y0, y1, y2, y3, y4, n, hl, by simpa using hf 0 f0 rfl, by simpa using hf 1 f1 rfl, by simpa using hf 2 f2 rfl, by simpa using hf 3 f3 rfl, by simpa using hf 4 f4 rfl⟩

/-- A slice, opened, by what its elements are. -/
theorem open_recs {α : Type} [Inhabited α] {ts e : TypeId} (sz : Nat) (hs0 : 0 < sz) (hc : Try.prog.cellsOf e = sz) (ht : Try.prog.underlying ts = some (.slice e)) (G : α → Prop) (f : α → List Value) (hlen : ∀ q, G q → (f q).length = sz)
    {W : World} (hel : ∀ fuel cs y, DataW.trod enc Try.prog W 0 (fun _ => true) true fuel e cs = some y → ∃ q, G q ∧ cs = f q) {b0 : Nat} {v : Value} {d : DataW H} {p : List MemPlace}
    (hok : Value.okWide Try.prog W .any b0 ts v) (h : DataW.Trod enc Try.prog W 0 (fun _ => true) true ts v d p) :
    ∃ (qs : List α) (a : Option Addr) (cap : Nat), (∀ q ∈ qs, G q) ∧ v = .slice a qs.length cap ∧ Recs sz v (qs.map f) W ∧ (a = none → qs.length = 0 ∧ cap = 0) ∧ qs.length ≤ maxLen ∧
      ((d = .nil ∧ qs.length = 0) ∨ ∃ el sp, d = .slice el sp ∧ el.length = qs.length) := by
  obtain ⟨a0, len, cap, rfl⟩ := okWide_slice ht hok
  obtain ⟨fuel, hf⟩ := h
  rcases open_slice ht hf with ⟨hcs, hx⟩ | ⟨a, len', cap', m, n, D, Pl, hcs, _, hl, hm, hmm, hx, hel2⟩
  · simp [Value.cells] at hcs
    obtain ⟨rfl, rfl, rfl⟩ := hcs
    exact ⟨[], none, 0, fun q hq => by simp at hq, rfl, ⟨none, 0, rfl, Nat.le_refl _, fun h => absurd h (by simp)⟩, fun _ => ⟨rfl, rfl⟩, by simp, .inl ⟨(Prod.ext_iff.1 hx).1, rfl⟩⟩
  · simp [Value.cells] at hcs
    obtain ⟨rfl, rfl, rfl⟩ := hcs
    simp only [if_true] at hmm
    subst hmm
    have hd : d = .slice ((List.range len).map D) ((List.range (m - len)).map fun j => D (len + j)) := (Prod.ext_iff.1 hx).1
    by_cases h0 : len = 0
    · subst h0
      exact ⟨[], some a, m, fun q hq => by simp at hq, rfl, ⟨some a, m, rfl, Nat.zero_le _, fun h => absurd h (by simp)⟩, (fun h => nomatch h), by simp, .inr ⟨_, _, hd, by simp⟩⟩
    · have each : ∀ i, i < len → ∃ q : α, G q ∧ ∀ j v, (f q)[j]? = some v → W.cell? (a.add (i * sz + j)) = some v := by
        intro i hi
        obtain ⟨cs', hc1, hc2⟩ := hel2 i (by omega)
        obtain ⟨q, q1, rfl⟩ := hel _ _ _ hc2
        refine ⟨q, q1, fun j v hv => ?_⟩
        rw [hc] at hc1
        unfold World.cells? at hc1
        rw [if_pos (Nat.zero_le _)] at hc1
        have hj : j < sz := by
          have := (List.getElem?_eq_some_iff.1 hv).1
          rw [hlen q q1] at this
          exact this
        have := mapM_some_get hc1 j j (by simp [hj])
        rw [← add_add, this, hv]
      obtain ⟨g, hg⟩ := choose_lt each
      have c0 : ∃ u, W.cell? (a.add 0) = some u := by
        have h1 := hg 0 (by omega)
        obtain ⟨u, hu⟩ : ∃ u, (f (g 0))[0]? = some u := by
          have : 0 < (f (g 0)).length := by rw [hlen _ h1.1]; exact hs0
          exact ⟨_, List.getElem?_eq_getElem this⟩
        exact ⟨u, by simpa using h1.2 0 u hu⟩
      obtain ⟨u, hu⟩ := c0
      obtain ⟨b, off, rfl, hb, -⟩ := plain_at ⟨u, hu⟩ hu
      refine ⟨(List.range len).map g, some ⟨b, off, none⟩, m, ?_, by simp, ⟨some ⟨b, off, none⟩, m, by simp, by simpa using hl, fun _ => ⟨b, off, rfl, hb, ?_⟩⟩, (fun h => by simp at h), by simp; omega, .inr ⟨_, _, hd, by simp⟩⟩
      · intro q hq
        simp at hq
        obtain ⟨i, hi, rfl⟩ := hq
        exact (hg i hi).1
      · intro j hj i v hv
        simp at hj
        simp only [List.getElem_map, List.getElem_range] at hv
        have := (hg j hj).2 i v hv
        rwa [add_plain', ← Nat.add_assoc] at this

theorem open_u8cell {W : World} {base fuel : Nat} {spare : Nat → Bool} {held : Bool} {cs : List Value} {y : DataW H × List MemPlace} (h : DataW.trod enc Try.prog W base spare held fuel 5 cs = some y) :
    ∃ x : Nat, cs = [.int .u8 (x : Int)] ∧ x < 256 := by
  obtain ⟨n, rfl, -, hw⟩ := DataW.trod_int Try.underlying5 h
  simp [Lit.wf, IntKind.min, IntKind.max, IntKind.signed, IntKind.bits] at hw
  exact ⟨n.toNat, by rw [Int.toNat_of_nonneg hw.1], by omega⟩
theorem open_u16cell {W : World} {base fuel : Nat} {spare : Nat → Bool} {held : Bool} {cs : List Value} {y : DataW H × List MemPlace} (h : DataW.trod enc Try.prog W base spare held fuel 61 cs = some y) :
    ∃ x : Nat, cs = [.int .u16 (x : Int)] ∧ x < 65536 := by
  obtain ⟨n, rfl, -, hw⟩ := DataW.trod_int Try.underlying61 h
  simp [Lit.wf, IntKind.min, IntKind.max, IntKind.signed, IntKind.bits] at hw
  exact ⟨n.toNat, by rw [Int.toNat_of_nonneg hw.1], by omega⟩

theorem open_addr {W : World} {base fuel : Nat} {spare : Nat → Bool} {held : Bool} {cs : List Value} {y : DataW H × List MemPlace} (h : DataW.trod enc Try.prog W base spare held fuel 60 cs = some y) :
    ∃ (v6 : Bool) (l : List Nat), l.length = 16 ∧ (∀ x ∈ l, x < 256) ∧ cs = addrC v6 l := by
  have hce : Try.prog.cellsOf 5 = 1 := by kernel_rfl
  have hcb : Try.prog.cellsOf 4 = 1 := by kernel_rfl
  have hct : Try.prog.cellsOf 58 = 16 := by kernel_rfl
  have hch : Try.prog.cellsOf 60 = 17 := by kernel_rfl
  obtain ⟨y0, y1, n, -, hl, h0, h1⟩ := trod_struct2 Try.underlying60 h
  rw [hch] at hl
  simp only [hct, hcb] at h0 h1
  obtain ⟨v6, hv, -⟩ := DataW.trod_bool Try.underlying4 h0
  obtain ⟨xs, k, -, -, hl0, hxl, hx⟩ := DataW.trod_array Try.underlying58 h1
  have all : ∀ i, i < 16 → ∃ x : Nat, cs[1 + i]? = some (.int .u8 (x : Int)) ∧ x < 256 := by
    intro i hi
    have hxi := hx i hi
    rw [hce, List.getElem?_eq_getElem (by omega)] at hxi
    obtain ⟨x, hx1, hx2⟩ := open_u8cell hxi
    have := get_of_one _ _ _ (by rw [Nat.mul_one] at hx1; exact hx1)
    refine ⟨x, ?_, hx2⟩
    rw [Nat.add_comm]
    simpa [List.getElem?_take, hi] using this
  obtain ⟨g, hg⟩ := choose_lt all
  refine ⟨v6, (List.range 16).map g, by simp, ?_, ?_⟩
  · intro x hx
    simp at hx
    obtain ⟨i, hi, rfl⟩ := hx
    exact (hg i hi).2
  · apply List.ext_getElem?
    intro i
    cases i with
    | zero => 
      have := get_of_one _ _ _ hv
      rw [this]; rfl
    | succ i =>
      rcases Nat.lt_or_ge i 16 with h | h
      · rw [Nat.add_comm, (hg i h).1]
        simp [addrC, ub, h, Nat.add_comm 1 i]
      · rw [List.getElem?_eq_none (by omega), List.getElem?_eq_none (by simp [addrC, ub]; omega)]

theorem open_key {W : World} {base fuel : Nat} {spare : Nat → Bool} {held : Bool} {cs : List Value} {y : DataW H × List MemPlace} (h : DataW.trod enc Try.prog W base spare held fuel 63 cs = some y) :
    ∃ k : KeyV, k.Ok ∧ cs = keyC k := by
  have hc1 : Try.prog.cellsOf 5 = 1 := by kernel_rfl
  have hc2 : Try.prog.cellsOf 61 = 1 := by kernel_rfl
  have hc3 : Try.prog.cellsOf 60 = 17 := by kernel_rfl
  have hc4 : Try.prog.cellsOf 63 = 37 := by kernel_rfl
  obtain ⟨y0, y1, y2, y3, y4, n, hl, h0, h1, h2, h3, h4⟩ := trod_struct5 Try.underlying63 h
  rw [hc4] at hl
  simp only [hc1, hc2, hc3] at h0 h1 h2 h3 h4
  obtain ⟨s6, sb, a1, a2, a3⟩ := open_addr h0
  obtain ⟨d6, db, b1, b2, b3⟩ := open_addr h1
  obtain ⟨pr, c1, c2⟩ := open_u8cell h2
  obtain ⟨sp, d1, d2⟩ := open_u16cell h3
  obtain ⟨dp, e1, e2⟩ := open_u16cell h4
  have hk : (KeyV.mk s6 sb d6 db pr sp dp).Ok := ⟨a1, b1, a2, b2, c2, d2, e2⟩
  refine ⟨⟨s6, sb, d6, db, pr, sp, dp⟩, hk, ?_⟩
  have e : cs = cs.take 17 ++ ((cs.drop 17).take 17 ++ ((cs.drop 34).take 1 ++ ((cs.drop 35).take 1 ++ (cs.drop 36).take 1))) := by
    have t : ∀ (n m : Nat) (l : List Value), l.drop n = (l.drop n).take m ++ l.drop (n + m) := fun n m l => by
      rw [← List.drop_drop, List.take_append_drop]
    have t4 : cs.drop 36 = (cs.drop 36).take 1 := by rw [List.take_of_length_le]; rw [List.length_drop]; omega
    rw [← t4, ← t 35 1, ← t 34 1, ← t 17 17, List.take_append_drop]
  rw [e, b3, c1, d1, e1]
  simp only [List.drop_zero] at a3
  rw [a3]
  simp [keyC]

theorem open_i64cell {W : World} {base fuel : Nat} {spare : Nat → Bool} {held : Bool} {cs : List Value} {y : DataW H × List MemPlace} (h : DataW.trod enc Try.prog W base spare held fuel 3 cs = some y) :
    ∃ x : Int, (Lit.int .i64 x).wf = true ∧ cs = [.int .i64 x] := by
  obtain ⟨n, rfl, -, hw⟩ := DataW.trod_int Try.underlying3 h
  exact ⟨n, hw, rfl⟩
/-- A put: its stamp's lane and number, and the number put. -/
abbrev PutV := Int × Nat × Int
def PutV.Ok (p : PutV) : Prop := (Lit.int .i64 p.1).wf = true ∧ p.2.1 < 18446744073709551616 ∧ (Lit.int .i64 p.2.2).wf = true
def putC (p : PutV) : List Value := [.int .i64 p.1, .int .u64 (p.2.1 : Int), .int .i64 p.2.2]
theorem open_put {W : World} {base fuel : Nat} {spare : Nat → Bool} {held : Bool} {cs : List Value} {y : DataW H × List MemPlace} (h : DataW.trod enc Try.prog W base spare held fuel 40 cs = some y) :
    ∃ p : PutV, PutV.Ok p ∧ cs = putC p := by
  have hc1 : Try.prog.cellsOf 3 = 1 := by kernel_rfl
  have hc2 : Try.prog.cellsOf 36 = 1 := by kernel_rfl
  have hc3 : Try.prog.cellsOf 38 = 2 := by kernel_rfl
  have hc4 : Try.prog.cellsOf 40 = 3 := by kernel_rfl
  obtain ⟨y0, y1, n, -, hl, h0, h1⟩ := trod_struct2 Try.underlying40 h
  rw [hc4] at hl
  simp only [hc1, hc3] at h0 h1
  obtain ⟨z0, z1, m, -, hl2, g0, g1⟩ := trod_struct2 Try.underlying38 h0
  simp only [hc1, hc2] at g0 g1
  obtain ⟨a, a1, a2⟩ := open_i64cell g0
  obtain ⟨b, b1, -, b2⟩ := DataW.trod_int Try.underlying36 g1
  obtain ⟨c, c1, c2⟩ := open_i64cell h1
  simp [Lit.wf, IntKind.min, IntKind.max, IntKind.signed, IntKind.bits] at b2
  refine ⟨(a, b.toNat, c), ⟨a1, by show b.toNat < _; omega, c1⟩, ?_⟩
  match cs, hl with
  | [x0, x1, x2], _ =>
    simp at a2 b1 c2
    simp [putC, a2, b1, c2, Int.toNat_of_nonneg b2.1]

instance : Inhabited KeyV := ⟨⟨false, [], false, [], 0, 0, 0⟩⟩
theorem open_keys_arg {W : World} {b0 : Nat} {v : Value} {d : DataW H} {p : List MemPlace}
    (hok : Value.okWide Try.prog W .any b0 47 v) (h : DataW.Trod enc Try.prog W 0 (fun _ => true) true 47 v d p) :
    ∃ (qs : List KeyV) (a : Option Addr) (cap : Nat), (∀ q ∈ qs, q.Ok) ∧ v = .slice a qs.length cap ∧ Recs 37 v (qs.map keyC) W ∧ (a = none → qs.length = 0 ∧ cap = 0) ∧ qs.length ≤ maxLen := by
  obtain ⟨qs, a, cap, h1, h2, h3, h4, h5, -⟩ := open_recs 37 (by decide) (by kernel_rfl) Try.underlying47 KeyV.Ok keyC keyC_len (fun _ _ _ => open_key) hok h
  exact ⟨qs, a, cap, h1, h2, h3, h4, h5⟩
theorem open_puts_arg {W : World} {b0 : Nat} {v : Value} {d : DataW H} {p : List MemPlace}
    (hok : Value.okWide Try.prog W .any b0 22 v) (h : DataW.Trod enc Try.prog W 0 (fun _ => true) true 22 v d p) :
    ∃ (qs : List PutV) (a : Option Addr) (cap : Nat), (∀ q ∈ qs, PutV.Ok q) ∧ v = .slice a qs.length cap ∧ Recs 3 v (qs.map putC) W ∧ qs.length ≤ maxLen := by
  obtain ⟨qs, a, cap, h1, h2, h3, h4, h5, -⟩ := open_recs 3 (by decide) (by kernel_rfl) Try.underlying22 PutV.Ok putC (fun _ _ => rfl) (fun _ _ _ => open_put) hok h
  exact ⟨qs, a, cap, h1, h2, h3, h5⟩
theorem open_ints_arg {W : World} {b0 : Nat} {v : Value} {d : DataW H} {p : List MemPlace}
    (hok : Value.okWide Try.prog W .any b0 33 v) (h : DataW.Trod enc Try.prog W 0 (fun _ => true) true 33 v d p) :
    ∃ (qs : List Int) (a : Option Addr) (cap : Nat), (∀ q ∈ qs, (Lit.int .i64 q).wf = true) ∧ v = .slice a qs.length cap ∧ Ints v qs W ∧ qs.length ≤ maxLen := by
  obtain ⟨qs, a, cap, h1, rfl, h3, h4, h5, -⟩ := open_recs 1 (by decide) (by kernel_rfl) Try.underlying33 (fun q : Int => (Lit.int .i64 q).wf = true) (fun q => [Value.int .i64 q]) (fun _ _ => rfl) (fun _ _ _ => open_i64cell) hok h
  refine ⟨qs, a, cap, h1, rfl, ⟨a, cap, rfl, fun h0 => ?_⟩, h5⟩
  obtain ⟨a', c', e, -, hr⟩ := h3
  obtain ⟨b, o, ha, hb, hc⟩ := hr (by simpa using h0)
  simp at e
  refine ⟨b, o, by rw [e.1, ha], hb, fun j hj => ?_⟩
  have := hc j (by simpa using hj) 0 (.int .i64 qs[j]) (by simp)
  simpa using this
end
end Go.Proofs.Ythjdnhlckjchgaa
