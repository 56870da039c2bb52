/- The reference machine: a world of words in memory; thread.op is opS and onF. -/
import Derived.Test.YtokoniaoknnggaaMacL
namespace Go.Proofs.Ytokoniaoknnggaa
open Go.RowKit
set_option linter.unusedVariables false
set_option linter.unusedSimpArgs false

/-- The machine's world: objects, of each its words; F names its blocks. -/
structure WM (B WB : Nat) (F : Nat → Prop) (ws : List (List Nat)) (nl : Nat) (w : World) : Prop where
  ex : ∃ (vW vL : Value) (vrs : List Value), Row w WB #[vW, vL] 32 ∧ w.ownsRow B 36 1 vW ws.length vrs ∧
    (∀ (i : Nat) (l : List Nat) (v : Value), ws[i]? = some l → vrs[i]? = some v → w.ownsRow B 38 1 v l.length (u64L l) ∧ l.length < 1000000 ∧ ∀ b, v.ownBlock = some b → F b) ∧
    (∀ (i j : Nat) (vi vj : Value) (b : Nat), vrs[i]? = some vi → vrs[j]? = some vj → vi.ownBlock = some b → vj.ownBlock = some b → i = j) ∧ (∀ b, vW.ownBlock = some b → F b) ∧ w.ownsRow B 178 1 vL nl (List.replicate nl (.slice none 0 0)) ∧ (∀ b, vL.ownBlock = some b → F b)
  mem : F WB
  blk : ∀ b, F b → B ≤ b ∧ b < w.heap.size
  few : ws.length < 1000000
theorem WM.sm {B WB : Nat} {F G : Nat → Prop} {ws : List (List Nat)} {nl : Nat} {w w' : World} (h : WM B WB F ws nl w) (k : Sm G w w') (hG : ∀ b, F b → ¬ G b) : WM B WB F ws nl w' := by
  obtain ⟨vW, vL, vrs, h1, h2, h3, h4, h5, h6, h7⟩ := h.ex
  exact ⟨⟨vW, vL, vrs, h1.sm k (hG _ h.mem), own_smF h2 k (fun b hb => hG b (h5 b hb)), fun i l v hl hv => ⟨own_smF (h3 i l v hl hv).1 k (fun b hb => hG b ((h3 i l v hl hv).2.2 b hb)), (h3 i l v hl hv).2⟩, h4, h5, own_smF h6 k (fun b hb => hG b (h7 b hb)), h7⟩, h.mem, fun b hb => ⟨(h.blk b hb).1, Nat.lt_of_lt_of_le (h.blk b hb).2 k.size⟩, h.few⟩
theorem own_get {w : World} {B b n cap : Nat} {l : List Nat} {T : TypeId} {cells : Array Value} (h : w.ownsRow B T 1 (.slice (some ⟨b, 0, none⟩) n cap) n (u64L l)) (hr : Row w b cells T) {k v : Nat} (hk : l[k]? = some v) : cells[k]? = some (.int .u64 (v : Int)) := by
  have h1 := h.cells rfl k (.int .u64 (v : Int)) (by simp [u64L, hk])
  have e : ((⟨b, 0, none⟩ : Addr).add k) = ⟨b, k, none⟩ := by
    unfold Addr.add
    split <;> simp_all
  rw [e, hr.cell] at h1
  exact h1
theorem own_put {w w' : World} {B b n cap : Nat} {l : List Nat} {T : TypeId} {cells : Array Value} (h : w.ownsRow B T 1 (.slice (some ⟨b, 0, none⟩) n cap) n (u64L l)) (hr : Row w b cells T) (k v : Nat) (hr' : Row w' b (cells.setIfInBounds k (.int .u64 (v : Int))) T) :
    w'.ownsRow B T 1 (.slice (some ⟨b, 0, none⟩) n cap) n (u64L (l.set k v)) := by
  obtain ⟨e1, e2⟩ := h
  refine ⟨by simpa [u64L] using e1, ?_⟩
  rcases e2 with ⟨e2, -⟩ | ⟨g, cap', cur, e2, hg, hh, r1, r2, r3, r4⟩
  · cases e2
  · cases e2
    unfold Row at hr hr'
    rw [hr] at hh
    simp only [Option.some.injEq, Obj.cells.injEq, and_true] at hh
    subst hh
    refine .inr ⟨b, cap, _, rfl, hg, hr', r1, r2, by simpa using r3, ?_⟩
    rw [Array.toList_setIfInBounds, List.take_set, r4]
    simp [u64L, List.map_set]
/-- A word of the world, written. -/
theorem WM.put {B WB : Nat} {F : Nat → Prop} {ws : List (List Nat)} {nl : Nat} {w w' : World} (h : WM B WB F ws nl w) {o b k v : Nat} {l : List Nat} {cells : Array Value} {vW vL : Value} {vrs : List Value} {cb : Nat} (h1 : Row w WB #[vW, vL] 32) (h2 : w.ownsRow B 36 1 vW ws.length vrs)
    (h3 : ∀ (i : Nat) (l : List Nat) (v : Value), ws[i]? = some l → vrs[i]? = some v → w.ownsRow B 38 1 v l.length (u64L l) ∧ l.length < 1000000 ∧ ∀ b, v.ownBlock = some b → F b)
    (h4 : ∀ (i j : Nat) (vi vj : Value) (b : Nat), vrs[i]? = some vi → vrs[j]? = some vj → vi.ownBlock = some b → vj.ownBlock = some b → i = j) (h5 : ∀ b, vW.ownBlock = some b → F b) (h6 : w.ownsRow B 178 1 vL nl (List.replicate nl (.slice none 0 0))) (h7 : ∀ b, vL.ownBlock = some b → F b)
    (hl : ws[o]? = some l) (hv : vrs[o]? = some (.slice (some ⟨b, 0, none⟩) l.length cb)) (hr : Row w b cells 38) {T : Nat} (hT : ¬ F T) (k2 : Sm (fun b' => b' = T ∨ b' = b) w w') (hr' : Row w' b (cells.setIfInBounds k (.int .u64 (v : Int))) 38) :
    WM B WB F (ws.set o (l.set k v)) nl w' := by
  have hFb : F b := (h3 _ _ _ hl hv).2.2 b rfl
  have ho : o < ws.length := by
    rcases Nat.lt_or_ge o ws.length with h | h
    · exact h
    · rw [List.getElem?_eq_none h] at hl
      cases hl
  have hr0 := hr
  unfold Row at hr0
  refine ⟨⟨vW, vL, vrs, h1.sm k2 ?_, ?_, fun i l' v' hl' hv' => ?_, h4, h5, own_smF h6 k2 ?_, h7⟩, h.mem, fun b hb => ⟨(h.blk b hb).1, Nat.lt_of_lt_of_le (h.blk b hb).2 k2.size⟩, by simpa using h.few⟩
  · rintro (e | e)
    · exact hT (e ▸ h.mem)
    · unfold Row at h1
      rw [e, hr0] at h1
      simp at h1
  · rw [List.length_set]
    refine own_smF h2 k2 ?_
    rintro b' hb' (e | e)
    · exact hT (e ▸ h5 b' hb')
    · obtain ⟨cc, e2⟩ := own_type2 h2 b' hb'
      rw [e, hr0] at e2
      simp at e2
  · by_cases hi : o = i
    · subst hi
      rw [List.getElem?_set_self ho] at hl'
      simp only [Option.some.injEq] at hl'
      subst hl'
      rw [hv] at hv'
      simp only [Option.some.injEq] at hv'
      subst hv'
      refine ⟨?_, by simpa using (h3 _ _ _ hl hv).2.1, (h3 _ _ _ hl hv).2.2⟩
      rw [List.length_set]
      exact own_put (h3 _ _ _ hl hv).1 hr k v hr'
    · rw [List.getElem?_set_ne hi] at hl'
      obtain ⟨f1, f2, f3⟩ := h3 i l' v' hl' hv'
      refine ⟨own_smF f1 k2 ?_, f2, f3⟩
      rintro b' hb' (e | e)
      · exact hT (e ▸ f3 b' hb')
      · exact hi (h4 _ _ _ _ b hv hv' rfl (e ▸ hb'))
  · rintro b' hb' (e | e)
    · exact hT (e ▸ h7 b' hb')
    · obtain ⟨cc, e2⟩ := own_type2 h6 b' hb'
      rw [e, hr0] at e2
      simp at e2
/-- An operation, done. -/
def opS (x : In) (ws : List (List Nat)) (s : MS) : Option (MS × List (List Nat) × (Nat × Nat)) :=
  if x.a < 24 ∧ x.b < 24 ∧ x.c < 24 ∧ x.e < 24 ∧ s.at_ < 999998 then
    match ws[x.o]? with
    | none => none
    | some l =>
      match l[s.r[x.b]?.getD 0 + x.n]? with
      | none => none
      | some v =>
        match x.d with
        | 1 => if v < 18446744073709551616 then some ({ s with at_ := s.at_ + 1, r := s.r.set x.a v }, ws, (1, s.r[x.b]?.getD 0 + x.n)) else none
        | 2 => some ({ s with at_ := s.at_ + 1 }, ws.set x.o (l.set (s.r[x.b]?.getD 0 + x.n) (s.r[x.a]?.getD 0)), (2, s.r[x.b]?.getD 0 + x.n))
        | 5 => if v = s.r[x.c]?.getD 0 then some ({ s with at_ := s.at_ + 1, r := s.r.set x.a 1 }, ws.set x.o (l.set (s.r[x.b]?.getD 0 + x.n) (s.r[x.e]?.getD 0)), (5, s.r[x.b]?.getD 0 + x.n))
          else some ({ s with at_ := s.at_ + 1, r := s.r.set x.a 0 }, ws, (5, s.r[x.b]?.getD 0 + x.n))
        | _ => none
  else none
/-- What an operation leaves. -/
def OpEnd (B T WB : Nat) (vc : Value) (F FW : Nat → Prop) (s' : MS) (ws' : List (List Nat)) (nl : Nat) (w w' : World) : Prop :=
  ∃ F' : Nat → Prop, TI B T vc F' s' w' ∧ WM B WB FW ws' nl w' ∧ Sm (fun b => F b ∨ FW b) w w' ∧ ∀ b, F' b → F b ∨ w.heap.size < b
theorem OpEnd.last {B T WB : Nat} {vc : Value} {F FW : Nat → Prop} {s' : MS} {ws' : List (List Nat)} {nl : Nat} {w w3 w' : World} (h : OpEnd B T WB vc F FW s' ws' nl w w3) (hF : ∀ b, F b → b < w.heap.size) (hW : ∀ b, FW b → b < w.heap.size) (k : Sm (fun b => b = w.heap.size) w3 w') (hz : w.heap.size ≤ w3.heap.size) : OpEnd B T WB vc F FW s' ws' nl w w' := by
  obtain ⟨F', h1, h2, h3, h4⟩ := h
  refine ⟨F', h1.sm k (fun b hb e => ?_), h2.sm k (fun b hb e => ?_), ⟨k.os.trans h3.os, k.tape.trans h3.tape, k.output.trans h3.output, Nat.le_trans h3.size k.size, fun i hi hf => (k.block i (Nat.lt_of_lt_of_le hi hz) (by omega)).trans (h3.block i hi hf)⟩, h4⟩
  · rcases h4 b hb with h | h
    · have := hF b h
      omega
    · omega
  · have := hW b hb
    omega
theorem TI.word {B T : Nat} {vc : Value} {F : Nat → Prop} {s : MS} {w w2 : World} (h : TI B T vc F s w) {b : Nat} (hb : ¬ F b) (at' : Nat) (r' : List Nat) (hr : ∀ v ∈ r', v < 18446744073709551616) {va : Value} (ha : Ans B F va s.ans w) (hth : Thr T vc s.call at' r' va s.over w2) (k : Sm (fun b' => b' = T ∨ b' = b) w w2) (hr0 : ∃ c, Row w T c 143) :
    TI B T vc F { s with at_ := at', r := r' } w2 := by
  obtain ⟨vts, h1, h2, h3, h4⟩ := ha.ex
  obtain ⟨c, hr0⟩ := hr0
  have key : ∀ (e : TypeId) (size n : Nat) (v : Value) (xs : List Value), e ≠ 143 → w.ownsRow B e size v n xs → (∀ b, v.ownBlock = some b → F b) → w2.ownsRow B e size v n xs := fun e size n v xs he ho hF => own_smF ho k (by
    rintro b' hb' (e1 | e1)
    · obtain ⟨cc, e2⟩ := own_type2 ho b' hb'
      unfold Row at hr0
      rw [e1, hr0] at e2
      simp only [Option.some.injEq, Obj.cells.injEq] at e2
      exact he e2.2.1.symm
    · exact hb (e1 ▸ hF b' hb'))
  exact ⟨⟨va, hth, ⟨⟨vts, h1, key _ _ _ _ _ (by decide) h2 ha.own, fun i p vt hp hv => ⟨key _ _ _ _ _ (by decide) (h3 i p vt hp hv).1 (h3 i p vt hp hv).2.2, (h3 i p vt hp hv).2⟩, h4⟩, ha.own⟩⟩, fun b hb => ⟨(h.blk b hb).1, Nat.lt_of_lt_of_le (h.blk b hb).2 k.size⟩, h.mem, hr, h.few⟩
end Go.Proofs.Ytokoniaoknnggaa
