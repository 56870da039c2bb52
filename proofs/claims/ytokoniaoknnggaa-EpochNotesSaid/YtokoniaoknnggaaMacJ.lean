/- The reference machine: thread.own is ownS. -/
import Derived.Test.YtokoniaoknnggaaMacI
namespace Go.Proofs.Ytokoniaoknnggaa
open Go.RowKit
set_option linter.unusedVariables false
set_option linter.unusedSimpArgs false

theorem tell_end {B T : Nat} {vc : Value} {F : Nat → Prop} {s : MS} {w w2 w' : World} {AN cA : Nat} {cells : Array Value} {p : Bool × List Nat} {vt : Value} {vts : List Value} {u : Nat} (hT : TI B T vc F s w) (k2 : Sm (fun b => b = T) w w2) (hl : vts.length = s.ans.length)
    (ho : w2.ownsRow B 113 2 (.slice (some ⟨AN, 0, none⟩) s.ans.length cA) s.ans.length (ansL s.ans vts)) (hA : Row w2 AN cells 113)
    (hall : ∀ (i : Nat) (p : Bool × List Nat) (vt : Value), s.ans[i]? = some p → vts[i]? = some vt → w2.ownsRow B 38 1 vt p.2.length (u64L p.2) ∧ p.2.length < 1000000 ∧ ∀ b, vt.ownBlock = some b → F b)
    (hdis : ∀ (i j : Nat) (vi vj : Value) (b : Nat), vts[i]? = some vi → vts[j]? = some vj → vi.ownBlock = some b → vj.ownBlock = some b → i = j) (hown : F AN)
    (hp : s.ans[s.call]? = some p) (hv : vts[s.call]? = some vt) (hfew : p.2.length < 900000)
    (h3 : Thr T vc s.call (s.at_ + 1) s.r (.slice (some ⟨AN, 0, none⟩) s.ans.length cA) s.over w') (k3 : Sm (fun b => b = AN ∨ vt.ownBlock = some b) w2 w') {vt' : Value} (hA' : Row w' AN (cells.setIfInBounds (s.call * 2 + 1) vt') 113)
    (ho' : w'.ownsRow B 38 1 vt' (p.2.length + 1) (u64L (p.2 ++ [u]))) (hnew : ∀ b, vt'.ownBlock = some b → vt.ownBlock = some b ∨ w2.heap.size ≤ b) :
    OwnEnd B T vc F { s with at_ := s.at_ + 1, ans := s.ans.set s.call (p.1, p.2 ++ [u]) } w w' := by
  have hl1 : s.call < s.ans.length := by
    rcases Nat.lt_or_ge s.call s.ans.length with h | h
    · exact h
    · rw [List.getElem?_eq_none h] at hp
      cases hp
  have hvF : ∀ b, vt.ownBlock = some b → F b := (hall _ _ _ hp hv).2.2
  have hs2 : w.heap.size ≤ w2.heap.size := k2.size
  have hsT : Sm F w w' := (k2.mono (fun b e => e ▸ hT.mem)).trans (k3.mono (fun b e => e.elim (fun e => e ▸ hown) (hvF b)))
  refine ⟨fun b => F b ∨ w2.heap.size ≤ b ∧ b < w'.heap.size, ⟨⟨_, h3, ⟨vts.set s.call vt', by simpa using hl, ?_, ?_, ?_⟩, fun b hb => .inl (by simp only [Value.ownBlock, Option.some.injEq] at hb; exact hb ▸ hown)⟩, ?_, .inl hT.mem, hT.regs, by simpa using hT.few⟩, hsT, ?_⟩
  · rw [← ansL_tell s.ans vts s.call p (p.2 ++ [u]) vt' hp (by omega)]
    obtain ⟨e1, e2⟩ := ho
    refine ⟨by simpa using e1, ?_⟩
    rcases e2 with ⟨e2, -⟩ | ⟨g, cap, cur, e2, hg, hh, r1, r2, r3, r4⟩
    · cases e2
    · simp only [Value.slice.injEq, Option.some.injEq, Addr.mk.injEq, and_true, true_and] at e2
      obtain ⟨rfl, rfl⟩ := e2
      unfold Row at hA hA'
      rw [hA] at hh
      simp only [Option.some.injEq, Obj.cells.injEq, and_true] at hh
      subst hh
      refine .inr ⟨AN, cA, _, by simp, hg, hA', by simpa using r1, r2, by simpa using r3, ?_⟩
      rw [Array.toList_setIfInBounds, ← r4]
      simp [List.take_set]
  · intro i q x hq hx
    by_cases hi : s.call = i
    · subst hi
      rw [List.getElem?_set_self (by omega)] at hq hx
      simp only [Option.some.injEq] at hq hx
      subst hq hx
      refine ⟨by simpa using ho', by simp; omega, fun b hb => ?_⟩
      rcases hnew b hb with e | e
      · exact .inl (hvF b e)
      · exact .inr ⟨e, (ho'.lt b hb).2⟩
    · rw [List.getElem?_set_ne hi] at hq hx
      obtain ⟨f1, f2, f3⟩ := hall i q x hq hx
      refine ⟨own_smF f1 k3 ?_, f2, fun b hb => .inl (f3 b hb)⟩
      rintro b hb (e | e)
      · obtain ⟨cc, e2⟩ := own_type2 f1 b hb
        unfold Row at hA
        rw [e, hA] at e2
        simp at e2
      · exact hi (hdis _ _ _ _ b hv hx e hb)
  · intro i j vi vj b hi hj hbi hbj
    by_cases ei : s.call = i <;> by_cases ej : s.call = j
    · omega
    · subst ei
      rw [List.getElem?_set_self (by omega)] at hi
      rw [List.getElem?_set_ne ej] at hj
      simp only [Option.some.injEq] at hi
      subst hi
      rcases hnew b hbi with e | e
      · exact hdis _ _ _ _ b hv hj e hbj
      · have hj2 : j < s.ans.length := by
          rcases Nat.lt_or_ge j vts.length with h | h
          · omega
          · rw [List.getElem?_eq_none h] at hj
            cases hj
        have := ((hall j _ vj (List.getElem?_eq_getElem hj2) hj).1.lt b hbj).2
        omega
    · subst ej
      rw [List.getElem?_set_self (by omega)] at hj
      rw [List.getElem?_set_ne ei] at hi
      simp only [Option.some.injEq] at hj
      subst hj
      rcases hnew b hbj with e | e
      · exact hdis _ _ _ _ b hi hv hbi e
      · have hi2 : i < s.ans.length := by
          rcases Nat.lt_or_ge i vts.length with h | h
          · omega
          · rw [List.getElem?_eq_none h] at hi
            cases hi
        have := ((hall i _ vi (List.getElem?_eq_getElem hi2) hi).1.lt b hbi).2
        omega
    · rw [List.getElem?_set_ne ei] at hi
      rw [List.getElem?_set_ne ej] at hj
      exact hdis _ _ _ _ b hi hj hbi hbj
  · rintro b (hb | hb)
    · exact ⟨(hT.blk b hb).1, Nat.lt_of_lt_of_le (hT.blk b hb).2 hsT.size⟩
    · have := (hT.blk T hT.mem)
      omega
  · rintro b (hb | hb)
    · exact .inl hb
    · exact .inr (by omega)
theorem own_c (B T : Nat) (vc : Value) (F : Nat → Prop) (s s' : MS) (x : In) (pw : Value) (w : World) (hT : TI B T vc F s w) (hlt : s.call < s.ans.length) (h : ownS x s = some s') :
    Calls Try.prog 82 #[.pointer (some ⟨T, 0, none⟩), pw, .agg (instrC x).toArray] w fun e w' => e = .returned (.tuple #[]) ∧ OwnEnd B T vc F s' w w' := by
  obtain ⟨va, h1, h2⟩ := hT.ex
  have hr := hT.regs
  have hfew := hT.few
  obtain ⟨vts, hl, ho, hall, hdis⟩ := h2.ex
  obtain ⟨AN, cA, hva⟩ := own_form ho (by omega)
  have hjump : ∀ (at' : Nat) (w2 w' : World), Sm (fun b => b = T) w w2 → Thr T vc s.call at' s.r va s.over w' ∧ Sm (fun b => b = T) w2 w' → OwnEnd B T vc F { s with at_ := at' } w w' := fun at' w2 w' k2 h3 => own_end hT h2 s.r at' hr h3.1 (k2.trans h3.2)
  unfold ownS at h
  split at h
  · next hg =>
    obtain ⟨ha, hb, hc, hn, hat⟩ := hg
    split at h
    · next hd =>
      cases h
      exact (own_set T vc s.call s.at_ s.r va s.over pw x hd ha hn hat w h1).mono fun e w' h3 => ⟨h3.1, own_end hT h2 _ _ (regs_set hr _ _ hn) h3.2.1 h3.2.2⟩
    · next hd =>
      cases h
      exact (own_copy T vc s.call s.at_ s.r hr va s.over pw x hd ha hb hn hat w h1).mono fun e w' h3 => ⟨h3.1, own_end hT h2 _ _ (regs_set hr _ _ (regs_get hr _)) h3.2.1 h3.2.2⟩
    · next hd =>
      cases h
      exact (own_plus T vc s.call s.at_ s.r hr va s.over pw x hd ha hb hc hn hat w h1).mono fun e w' h3 => ⟨h3.1, own_end hT h2 _ _ (regs_set hr _ _ (Nat.mod_lt _ (by decide))) h3.2.1 h3.2.2⟩
    · next hd =>
      cases h
      exact (own_less T vc s.call s.at_ s.r hr va s.over pw x hd ha hb hc hn hat w h1).mono fun e w' h3 => ⟨h3.1, own_end hT h2 _ _ (regs_set hr _ _ (Nat.mod_lt _ (by decide))) h3.2.1 h3.2.2⟩
    · next hd =>
      split at h
      · next hx =>
        cases h
        refine own_turns18 T vc s.call s.at_ s.r va s.over pw x hd hat w h1 _ fun w2 hT2 k2 => ?_
        subst hva
        exact (turns_jump T vc s.call (s.at_ + 1) s.r AN s.ans.length cA s.over hlt (by omega) pw x hd hx w2 hT2).mono fun e w' h3 => ⟨h3.1, hjump _ w2 w' k2 h3.2⟩
      · cases h
    · next hd =>
      split at h
      · next hx =>
        cases h
        refine own_turns19 T vc s.call s.at_ s.r va s.over pw x hd hat w h1 _ fun w2 hT2 k2 => ?_
        subst hva
        exact (turns_same T vc s.call (s.at_ + 1) s.r AN s.ans.length cA s.over hlt (by omega) pw x ha hb hd hx w2 hT2).mono fun e w' h3 => ⟨h3.1, hjump _ w2 w' k2 h3.2⟩
      · cases h
    · next hd =>
      split at h
      · next hx =>
        cases h
        refine own_turns20 T vc s.call s.at_ s.r va s.over pw x hd hat w h1 _ fun w2 hT2 k2 => ?_
        subst hva
        exact (turns_below T vc s.call (s.at_ + 1) s.r AN s.ans.length cA s.over hlt (by omega) pw x ha hb hd hx w2 hT2).mono fun e w' h3 => ⟨h3.1, hjump _ w2 w' k2 h3.2⟩
      · cases h
    · next hd =>
      split at h
      · next p hp =>
        split at h
        · next hf =>
          cases h
          refine own_turns22 T vc s.call s.at_ s.r va s.over pw x hd hat w h1 _ fun w2 hT2 k2 => ?_
          subst hva
          have hv : ∃ vt, vts[s.call]? = some vt := ⟨_, List.getElem?_eq_getElem (by omega)⟩
          obtain ⟨vt, hv⟩ := hv
          have hk : ∀ (e : TypeId) (size n : Nat) (v : Value) (xs : List Value), e ≠ 143 → w.ownsRow B e size v n xs → w2.ownsRow B e size v n xs := fun e size n v xs he hh => own_smF hh k2 fun b hb e1 => by
            obtain ⟨cc, e2⟩ := own_type2 hh b hb
            have hr1 := h1.row
            unfold Row at hr1
            rw [e1, hr1] at e2
            simp only [Option.some.injEq, Obj.cells.injEq] at e2
            exact he e2.2.1.symm
          have ho2 := hk _ _ _ _ _ (by decide) ho
          obtain ⟨cells, hcell⟩ : ∃ c, Row w2 AN c 113 := own_type2 ho2 AN rfl
          have hct : cells[s.call * 2 + 1]? = some vt := by
            have := ho2.cells rfl (s.call * 2 + 1) vt (ansL_told _ _ _ _ _ hp hv)
            have e : ((⟨AN, 0, none⟩ : Addr).add (s.call * 2 + 1)) = ⟨AN, s.call * 2 + 1, none⟩ := by
              unfold Addr.add
              split <;> simp_all
            rw [e, hcell.cell] at this
            exact this
          have hown := hk _ _ _ _ _ (by decide) (hall _ _ _ hp hv).1
          have hTA : T ≠ AN := fun e => by
            have hr1 := hT2.row
            unfold Row at hr1 hcell
            rw [e, hcell] at hr1
            simp at hr1
          exact (turns_tell T vc s.call (s.at_ + 1) s.r AN s.ans.length cA s.over hlt (by omega) pw x hd ha w2 cells B vt p.2 (hall _ _ _ hp hv).2.1 hcell hct (Nat.le_trans (Nat.le_trans (hT.blk T hT.mem).1 (Nat.le_of_lt (hT.blk T hT.mem).2)) k2.size) hown hTA hT2).mono fun e w' h3 => by
            obtain ⟨h4, h5, h6, vt', h7, h8, h9⟩ := h3
            refine ⟨h4, tell_end hT k2 hl ho2 hcell (fun i q y hq hy => ⟨hk _ _ _ _ _ (by decide) (hall i q y hq hy).1, (hall i q y hq hy).2⟩) hdis (h2.own AN rfl) hp hv hf h5 h6 h7 h8 h9⟩
        · cases h
      · cases h
    · cases h
  · cases h
end Go.Proofs.Ytokoniaoknnggaa
