/- PROVED: patchbaylaw11.TallyJoins answers true whatever it is given, and leaves its arguments as they were. No condition. -/
import Derived.Test.YtdedmmjmiakidaaLaw
import Derived.Test.YtdedmmjmiakidaaTalJoinsW
import Derived.Deep.Matrix
namespace Go.Proofs.Ytdedmmjmiakidaa.tallyJoins
open Go.ChangeShapes Go.WideShapes Go.ChangeAt Go.RowKit Go.Deep
set_option linter.unusedVariables false

theorem u64_pos {n : Int} (h : (Lit.int .u64 n).wf = true) : 0 ≤ n := by
  simp [Lit.wf, IntKind.min, IntKind.max, IntKind.signed, IntKind.bits] at h
  omega

section
variable {H : Type} {enc : TypeId × Value → H}
set_option maxRecDepth 100000 in
/-- A slice of slices of numbers, opened. -/
theorem open_u64rows_arg {W : World} {b0 : Nat} {v : Value} {d : DataW H} {p : List MemPlace}
    (hok : Value.okWide Try.prog W .any b0 34 v) (h : DataW.Trod enc Try.prog W 0 (fun _ => true) true 34 v d p) :
    ∃ a b off len cap V, v = .slice a len cap ∧ (0 < len → a = some ⟨b, off, none⟩) ∧ len ≤ 9223372036854775807 ∧ RowsArg b off len V W := by
  obtain ⟨a0, len, cap, rfl⟩ := okWide_slice Try.underlying34 hok
  obtain ⟨fuel, hf⟩ := h
  rcases open_int_rows Try.underlying34 Try.underlying38 Try.underlying23 (by kernel_rfl) (by kernel_rfl) hf with ⟨hcs, hx⟩ | ⟨a, len', cap', A, L, C, Z, hcs, _, hl, hm, hx, hr⟩
  · simp [Value.cells] at hcs
    obtain ⟨rfl, rfl, rfl⟩ := hcs
    exact ⟨none, 0, 0, 0, 0, fun _ => undef, rfl, fun h => absurd h (by decide), by omega, ⟨fun r h => absurd h (by omega), fun r h => absurd h (by omega), fun h => absurd h (by decide)⟩⟩
  · simp [Value.cells] at hcs
    obtain ⟨rfl, rfl, rfl⟩ := hcs
    unfold maxLen at hm
    by_cases h0 : len = 0
    · subst h0
      exact ⟨some a, 0, 0, 0, cap, fun _ => undef, rfl, fun h => absurd h (by decide), by omega, ⟨fun r h => absurd h (by omega), fun r h => absurd h (by omega), fun h => absurd h (by decide)⟩⟩
    · have c0 := (hr 0 (by omega)).1
      obtain ⟨b, off, rfl, hb, -⟩ := plain_at ⟨_, c0⟩ c0
      have add_p : ∀ (b off k : Nat), (⟨b, off, none⟩ : Addr).add k = ⟨b, off + k, none⟩ := fun b off k => by
        unfold Addr.add
        split <;> simp_all
      refine ⟨_, b, off, len, cap, fun r => .slice (A r) (L r) (C r), rfl, fun _ => rfl, by omega, ⟨fun r h => ?_, fun r h => ?_, fun _ => hb⟩⟩
      · rw [← add_p]
        exact (hr r (by omega)).1
      · obtain ⟨h1, h2, h3, h4, h5, h6, h7⟩ := hr r (by omega)
        refine ⟨L r, A r, L r, C r, rfl, Nat.le_refl _, h2, fun j hj => ?_⟩
        cases hA : A r with
        | none => have := h6 hA; omega
        | some a' =>
          obtain ⟨-, h8⟩ := h7 a' hA
          have d0 := h8 0 (by omega)
          obtain ⟨b', o', rfl, hb', hc'⟩ := plain_at ⟨_, d0⟩ (h8 j (by omega))
          have hz := h5 ((Z r).getD j 0) (by
            have hjl : j < (Z r).length := by omega
            simp [List.getD, hjl])
          simp [Lit.wf, IntKind.min, IntKind.max, IntKind.signed, IntKind.bits] at hz
          refine ⟨b', o', ((Z r).getD j 0).toNat, rfl, hb', by simp only [List.getD_eq_getElem?_getD] at hz ⊢; omega, ?_⟩
          rw [hc']
          congr 2
          simp only [List.getD_eq_getElem?_getD] at hz ⊢
          omega
end

theorem joins_w (a : Option Addr) (b off n c : Nat) (V : Nat → Value) (ha : 0 < n → a = some ⟨b, off, none⟩) (hn : n ≤ 9223372036854775807) (part ofN : Int) (hp : 0 ≤ part) (ho : 0 ≤ ofN) (hp' : part < 18446744073709551616) (ho' : ofN < 18446744073709551616) (w : World) (h : RowsArg b off n V w) :
    Calls Try.prog 4 #[.slice a n c, .int .u64 part, .int .u64 ofN] w fun e w' => e = .returned (.bool true) ∧ Below w.heap.size w w' := by
  have this : Calls Try.prog 4 #[.slice a n c, .int .u64 (part.toNat : Int), .int .u64 (ofN.toNat : Int)] w fun e w' => e = .returned (.bool true) ∧ Below w.heap.size w w' :=
    (joins_walk a b off n c V ha hn part.toNat ofN.toNat (by omega) (by omega) w h).mono fun e w' ⟨h1, h2⟩ => ⟨h1, h2.below (Nat.le_refl _) (fun _ h => h.elim)⟩
  rw [Int.toNat_of_nonneg hp, Int.toNat_of_nonneg ho] at this
  exact this

theorem u64_lt {n : Int} (h : (Lit.int .u64 n).wf = true) : n < 18446744073709551616 := by
  simp [Lit.wf, IntKind.min, IntKind.max, IntKind.signed, IntKind.bits] at h
  omega

set_option maxRecDepth 100000 in
theorem contract (H : Type) (enc : TypeId × Value → H) (W : World) (base : Nat) (args : Array Value) (ds gs : List (DataW H)) (before : List MemPlace)
    (hval : ∀ (j : Nat) t v, Try.f4.params[j]? = some t → args[j]? = some v → Value.okWide Try.prog W .any base t v)
    (hW : DataW.Whole enc Try.prog Try.f4.params.toList Rows.tallyJoinsSpec.vars false W args.toList ds gs before)
    (hsz : (DataW.weightsEach Try.prog (Try.f4.params.toList ++ Rows.tallyJoinsSpec.plain.varTypes Try.prog) (ds ++ gs)).all (· ≤ reachBytes) = true) :
    Calls Try.prog 4 args W fun e W' => ∃ v, e = .returned v ∧ Rows.tallyJoinsSpec.post enc Try.prog Try.f4 false true false false W args v W' := by
  have hW' := hW
  obtain ⟨p, q, hA0, hV, rfl, hfz, hnd⟩ := hW
  have hA : DataW.TrodAll enc Try.prog W 0 (fun _ => true) true Try.f4.params.toList args.toList ds p := hA0
  rw [Try.params4] at hA hval
  obtain ⟨v0, vs0, d0, ds0, p0, q0, hargs, rfl, rfl, h0, r0⟩ := trodAll_cons hA
  obtain ⟨v1, vs1, d1, ds1, p1, q1, rfl, rfl, rfl, h1, r1⟩ := trodAll_cons r0
  obtain ⟨v2, vs2, d2, ds2, p2, q2, rfl, rfl, rfl, h2, r2⟩ := trodAll_cons r1
  obtain ⟨rfl, rfl, rfl⟩ := trodAll_nil r2
  obtain rfl : args = #[v0, v1, v2] := by cases args; simp_all
  obtain ⟨a0, b0, off0, l0, c0, V0, rfl, ha0, hl0, hR0⟩ := open_u64rows_arg (hval 0 34 v0 rfl rfl) h0
  obtain ⟨x1, rfl, rfl, rfl, wx1⟩ := open_int Try.underlying23 (hval 1 23 v1 rfl rfl) h1
  obtain ⟨x2, rfl, rfl, rfl, wx2⟩ := open_int Try.underlying23 (hval 2 23 v2 rfl rfl) h2
  refine (joins_w a0 b0 off0 l0 c0 V0 ha0 hl0 x1 x2 (u64_pos wx1) (u64_pos wx2) (u64_lt wx1) (u64_lt wx2) W hR0).mono fun e W' ⟨he, hb⟩ => ⟨_, he, ?_⟩
  exact law_post laid_out (readable_of _ (by kernel_rfl)) rfl (tb := 4) (by kernel_rfl) Try.underlying4 hW' rfl hb

set_option maxRecDepth 100000 in
theorem lifted (os : Os) (started : os.Started) (H : Type) (enc : TypeId × Value → H) :
    ReturnsInLeavingWide {} Try.checked os 4 .any (Rows.tallyJoinsSpec.pre6 enc Try.prog Try.f4 Rows.tallyJoinsRow.domain false) (Rows.tallyJoinsSpec.post enc Try.prog Try.f4 false true false false) := by
  refine leaving_of_handed (returnsInHanded_of_change_sized (C := Try.checked) own_knob started (by kernel_rfl) Try.func4
    (ChangeSpec.witness6 (C := Try.checked) false ⟨#[], #[.slice none 0 0, .int .u64 0, .int .u64 0], []⟩ 8 (by kernel_rfl) (by kernel_rfl) (by kernel_rfl) (by kernel_rfl)) ?_)
  intro W base args ds gs before hval hW _ hsz _
  exact contract H enc W base args ds gs before hval hW hsz

theorem proved : Rows.TallyJoinsSaid :=
  OpenClaim.holds_of_wide_leaving 4 Try.f4 rfl rfl rfl rfl rfl rfl rfl ⟨rfl, rfl, rfl, rfl, rfl⟩ rfl rfl rfl rfl rfl (by kernel_rfl) Try.func4 (by kernel_rfl)
    (of_decide_eq_true (by kernel_rfl)) (by unfold Func.isWrapper; first | (rw [if_pos (by decide +kernel)]; kernel_rfl) | (rw [if_neg (by decide +kernel)]; exact ⟨rfl, rfl⟩))
    (fun os started H enc _ => lifted os started H enc)
#print axioms proved
end Go.Proofs.Ytdedmmjmiakidaa.tallyJoins
