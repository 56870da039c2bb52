/- PROVED: patchbaylaw25.LaneOut answers true whatever it is given, and leaves its arguments as they were. No condition. -/
import Derived.Test.YthjdnhlckjchgaaLaw
import Derived.Test.YthjdnhlckjchgaaLanOutW
namespace Go.Proofs.Ythjdnhlckjchgaa.laneOut
open Go.ChangeShapes Go.WideShapes Go.ChangeAt Go.RowKit Go.Deep
set_option linter.unusedVariables false

theorem out_w (lanes : Int) (ks : List KeyV) (hks : ∀ k ∈ ks, k.Ok) (ka : Option Addr) (kc : Nat) (hkl : ks.length ≤ maxLen) (ns : List Int) (na : Option Addr) (nc : Nat) (hnl : ns.length ≤ maxLen)
    (w : World) (hK : Recs 37 (.slice ka ks.length kc) (ks.map keyC) w) (hN : Ints (.slice na ns.length nc) ns w) :
    Calls Try.prog 5 #[.int .i64 lanes, .slice ka ks.length kc, .slice na ns.length nc] w fun e w' => e = .returned (.bool true) ∧ Below w.heap.size w w' :=
  (out_walk lanes ks hks ka ks.length kc rfl hkl ns na ns.length nc rfl hnl w hK hN).mono fun e w' ⟨h1, h2⟩ => ⟨h1, h2.below (Nat.le_refl _) (fun _ h => h.elim)⟩

set_option maxRecDepth 100000 in
theorem contract (H : Type) (enc : TypeId × Value → H) (W : World) (base : Nat) (args : Array Value) (ds gs : List (DataW H)) (before : List MemPlace)
    (hval : ∀ (j : Nat) t v, Try.f5.params[j]? = some t → args[j]? = some v → Value.okWide Try.prog W .any base t v)
    (hW : DataW.Whole enc Try.prog Try.f5.params.toList Rows.laneOutSpec.vars false W args.toList ds gs before)
    (hsz : (DataW.weightsEach Try.prog (Try.f5.params.toList ++ Rows.laneOutSpec.plain.varTypes Try.prog) (ds ++ gs)).all (· ≤ reachBytes) = true) :
    Calls Try.prog 5 args W fun e W' => ∃ v, e = .returned v ∧ Rows.laneOutSpec.post enc Try.prog Try.f5 false true false false W args v W' := by
  have hW' := hW
  obtain ⟨p, q, hA0, hV, rfl, hfz, hnd⟩ := hW
  have hA : DataW.TrodAll enc Try.prog W 0 (fun _ => true) true Try.f5.params.toList args.toList ds p := hA0
  rw [Try.params5] at hA hval
  obtain ⟨v0, vs0, d0, ds0, p0, q0, hargs, rfl, rfl, h0, r0⟩ := trodAll_cons hA
  obtain ⟨v1, vs1, d1, ds1, p1, q1, rfl, rfl, rfl, h1, r1⟩ := trodAll_cons r0
  obtain ⟨v2, vs2, d2, ds2, p2, q2, rfl, rfl, rfl, h2, r2⟩ := trodAll_cons r1
  obtain ⟨rfl, rfl, rfl⟩ := trodAll_nil r2
  obtain rfl : args = #[v0, v1, v2] := by cases args; simp_all
  obtain ⟨x0, rfl, rfl, rfl, wx0⟩ := open_int Try.underlying3 (hval 0 3 v0 rfl rfl) h0
  obtain ⟨ks, ka, kc, hks, rfl, hK, hkn, hkl⟩ := open_keys_arg (hval 1 47 v1 rfl rfl) h1
  obtain ⟨ns, na, nc, -, rfl, hN, hnl⟩ := open_ints_arg (hval 2 33 v2 rfl rfl) h2
  refine (out_w x0 ks hks ka kc hkl ns na nc hnl W hK hN).mono fun e W' ⟨he, hb⟩ => ⟨_, he, ?_⟩
  exact law_post laid_out (readable_of _ (by kernel_rfl)) rfl (tb := 4) (by kernel_rfl) Try.underlying4 hW' rfl hb

set_option maxRecDepth 100000 in
theorem lifted (os : Os) (started : os.Started) (H : Type) (enc : TypeId × Value → H) :
    ReturnsInLeavingWide {} Try.checked os 5 .any (Rows.laneOutSpec.pre6 enc Try.prog Try.f5 Rows.laneOutRow.domain false) (Rows.laneOutSpec.post enc Try.prog Try.f5 false true false false) := by
  refine leaving_of_handed (returnsInHanded_of_change_sized (C := Try.checked) own_knob started (by kernel_rfl) Try.func5
    (ChangeSpec.witness6 (C := Try.checked) false ⟨#[], #[.int .i64 0, .slice none 0 0, .slice none 0 0], []⟩ 8 (by kernel_rfl) (by kernel_rfl) (by kernel_rfl) (by kernel_rfl)) ?_)
  intro W base args ds gs before hval hW _ hsz _
  exact contract H enc W base args ds gs before hval hW hsz

theorem proved : Rows.LaneOutSaid :=
  OpenClaim.holds_of_wide_leaving 5 Try.f5 rfl rfl rfl rfl rfl rfl rfl ⟨rfl, rfl, rfl, rfl, rfl⟩ rfl rfl rfl rfl rfl (by kernel_rfl) Try.func5 (by kernel_rfl)
    (of_decide_eq_true (by kernel_rfl)) (by unfold Func.isWrapper; first | (rw [if_pos (by decide +kernel)]; kernel_rfl) | (rw [if_neg (by decide +kernel)]; exact ⟨rfl, rfl⟩))
    (fun os started H enc _ => lifted os started H enc)
#print axioms proved
end Go.Proofs.Ythjdnhlckjchgaa.laneOut
