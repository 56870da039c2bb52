/- The reference machine: calls in memory, a thread's way up to its next operation. -/
import Derived.Test.YtokoniaoknnggaaMacJ
namespace Go.Proofs.Ytokoniaoknnggaa
open Go.RowKit
set_option linter.unusedVariables false
set_option linter.unusedSimpArgs false

/-- Rows that lie below B. -/
structure RecsB (B sz : Nat) (v : Value) (rows : List (List Value)) (w : World) : Prop where
  recs : Recs sz v rows w
  low : 0 < rows.length → ∀ b, v.ownBlock = some b → b < B
theorem RecsB.sm {B sz : Nat} {v : Value} {rows : List (List Value)} {w w' : World} {F : Nat → Prop} (h : RecsB B sz v rows w) (k : Sm F w w') (hF : ∀ b, F b → B ≤ b) : RecsB B sz v rows w' := by
  obtain ⟨⟨a, c, hv, hc, h1⟩, h2⟩ := h
  refine ⟨⟨a, c, hv, hc, fun h0 => ?_⟩, h2⟩
  obtain ⟨b, o, ha, hb, hr⟩ := h1 h0
  have hlow := h2 h0 b (by rw [hv, ha]; rfl)
  exact ⟨b, o, ha, Nat.lt_of_lt_of_le hb k.size, fun j hj i u hu => (k.cell (p := ⟨b, o + j * sz + i, none⟩) hb (fun e => by have := hF b e; omega)).trans (hr j hj i u hu)⟩
/-- The calls of a thread, in memory. -/
structure CallsB (B : Nat) (vc : Value) (calls : List (List In × List Nat)) (w : World) : Prop where
  ex : ∃ rows : List (List Value), rows.length = calls.length ∧ RecsB B 2 vc rows w ∧ ∀ (i : Nat) (c : List In × List Nat), calls[i]? = some c → ∃ cd dt, rows[i]? = some [cd, dt] ∧ RecsB B 7 cd (c.1.map instrC) w ∧
    RecsB B 1 dt (c.2.map fun (x : Nat) => [Value.int .u64 (x : Int)]) w ∧ c.1.length < 1000000
  few : calls.length < 100000
theorem CallsB.sm {B : Nat} {vc : Value} {calls : List (List In × List Nat)} {w w' : World} {F : Nat → Prop} (h : CallsB B vc calls w) (k : Sm F w w') (hF : ∀ b, F b → B ≤ b) : CallsB B vc calls w' := by
  obtain ⟨rows, h1, h2, h3⟩ := h.ex
  exact ⟨⟨rows, h1, h2.sm k hF, fun i c hc => by
    obtain ⟨cd, dt, e1, e2, e3, e4⟩ := h3 i c hc
    exact ⟨cd, dt, e1, e2.sm k hF, e3.sm k hF, e4⟩⟩, h.few⟩
theorem CallsB.code {B : Nat} {vc : Value} {calls : List (List In × List Nat)} {w : World} (h : CallsB B vc calls w) {i : Nat} {c : List In × List Nat} (hc : calls[i]? = some c) : CodeAt vc i c.1 w := by
  obtain ⟨rows, h1, h2, h3⟩ := h.ex
  obtain ⟨cd, dt, e1, e2, e3, e4⟩ := h3 i c hc
  have hl : i < rows.length := by
    rcases Nat.lt_or_ge i rows.length with h | h
    · exact h
    · rw [List.getElem?_eq_none h] at e1
      cases e1
  exact ⟨⟨rows, cd, dt, hl, h2.recs, by rw [List.getElem?_eq_getElem hl] at e1; exact Option.some.inj e1, e2.recs, e4, by have := h.few; omega⟩⟩
theorem CallsB.form {B : Nat} {vc : Value} {calls : List (List In × List Nat)} {w : World} (h : CallsB B vc calls w) : ∃ a c, vc = .slice a calls.length c := by
  obtain ⟨rows, h1, h2, h3⟩ := h.ex
  obtain ⟨a, c, hv, -⟩ := h2.recs
  exact ⟨a, c, by rw [hv, h1]⟩
def instrAt (calls : List (List In × List Nat)) (s : MS) : In := ((calls[s.call]?.getD ([], [])).1)[s.at_]?.getD finishI
def begun (s : MS) : MS := if s.ans.length = s.call then { s with ans := s.ans ++ [(false, [])] } else s
def finS (s : MS) : MS := { s with ans := s.ans.set s.call (true, (s.ans[s.call]?.getD (false, [])).2), call := s.call + 1, at_ := 0, r := List.replicate 24 0 }
/-- A thread goes on up to its next operation, or to its end. -/
def onF (calls : List (List In × List Nat)) : Nat → MS → Option MS
  | 0, _ => none
  | n + 1, s =>
    if s.over = true then some s
    else if calls.length ≤ s.call then some { s with over := true }
    else if 1 ≤ (instrAt calls (begun s)).d ∧ (instrAt calls (begun s)).d ≤ 5 then some (begun s)
    else if (instrAt calls (begun s)).d = 23 then onF calls n (finS (begun s))
    else match ownS (instrAt calls (begun s)) (begun s) with
      | some s2 => onF calls n s2
      | none => none
theorem exists_least {Q : Nat → Prop} : ∀ (n : Nat), Q n → ∃ n, Q n ∧ ∀ m, Q m → n ≤ m := by
  intro n
  induction n using Nat.strongRecOn with
  | _ n ih =>
    intro h
    by_cases hl : ∃ m, m < n ∧ Q m
    · obtain ⟨m, h1, h2⟩ := hl
      exact ih m h1 h2
    · exact ⟨n, h, fun m hm => Nat.le_of_not_lt fun h1 => hl ⟨m, h1, hm⟩⟩
open Classical in
/-- The least number of a kind. -/
noncomputable def mu (Q : Nat → Prop) : Nat := if h : ∃ n, Q n ∧ ∀ m, Q m → n ≤ m then Classical.choose h else 0
theorem mu_le {Q : Nat → Prop} {n : Nat} (h : Q n) : mu Q ≤ n := by
  have hl := exists_least n h
  unfold mu
  rw [dif_pos hl]
  exact (Classical.choose_spec hl).2 n h
theorem mu_mem {Q : Nat → Prop} {n : Nat} (h : Q n) : Q (mu Q) := by
  have hl := exists_least n h
  unfold mu
  rw [dif_pos hl]
  exact (Classical.choose_spec hl).1
theorem OwnEnd.step {B T : Nat} {vc : Value} {F F' : Nat → Prop} {s' : MS} {w wr w2 : World} (hsm : Sm F w wr) (hF : ∀ b, F' b → F b ∨ w.heap.size ≤ b) (h : OwnEnd B T vc F' s' wr w2) : OwnEnd B T vc F s' w w2 := by
  obtain ⟨F2, h1, h2, h3⟩ := h
  refine ⟨F2, h1, ⟨h2.os.trans hsm.os, h2.tape.trans hsm.tape, h2.output.trans hsm.output, Nat.le_trans hsm.size h2.size, fun k hk hf => ?_⟩, fun b hb => ?_⟩
  · refine (h2.block k (Nat.lt_of_lt_of_le hk hsm.size) (fun e => ?_)).trans (hsm.block k hk hf)
    rcases hF k e with e | e
    · exact hf e
    · omega
  · rcases h3 b hb with e | e
    · exact hF b e
    · exact .inr (Nat.le_trans hsm.size e)
theorem OwnEnd.sm {B T : Nat} {vc : Value} {F : Nat → Prop} {s' : MS} {w w2 w3 : World} (h : OwnEnd B T vc F s' w w2) (k : Sm (fun _ => False) w2 w3) : OwnEnd B T vc F s' w w3 := by
  obtain ⟨F2, h1, h2, h3⟩ := h
  exact ⟨F2, h1.sm k (fun _ _ h => h), h2.trans (k.mono (fun _ h => h.elim)), h3⟩
theorem TI.own {B T : Nat} {vc : Value} {F : Nat → Prop} {s : MS} {w : World} (h : TI B T vc F s w) : OwnEnd B T vc F s w w := ⟨F, h, Sm.refl _ _, fun b hb => .inl hb⟩

theorem thrC_27 (vc : Value) (call at_ : Nat) (r : List Nat) (va : Value) (over : Bool) (h : r.length = 24) : (thrC vc call at_ r va over)[27]? = some va := by
  simp [thrC, List.getElem?_append_right, h]
theorem thrC_28 (vc : Value) (call at_ : Nat) (r : List Nat) (va : Value) (over : Bool) (h : r.length = 24) : (thrC vc call at_ r va over)[28]? = some (.bool over) := by
  simp [thrC, List.getElem?_append_right, h]
theorem Thr.ans {T : Nat} {vc : Value} {call at_ : Nat} {r : List Nat} {va : Value} {over : Bool} {w : World} (h : Thr T vc call at_ r va over w) : w.cell? ⟨T, 27, none⟩ = some va := (h.row.cell 27).trans (thrC_27 _ _ _ _ _ _ h.len)
theorem Thr.over {T : Nat} {vc : Value} {call at_ : Nat} {r : List Nat} {va : Value} {over : Bool} {w : World} (h : Thr T vc call at_ r va over w) : w.cell? ⟨T, 28, none⟩ = some (.bool over) := (h.row.cell 28).trans (thrC_28 _ _ _ _ _ _ h.len)
theorem Thr.setOver {T : Nat} {vc : Value} {call at_ : Nat} {r : List Nat} {va : Value} {over : Bool} {w : World} (h : Thr T vc call at_ r va over w) (b : Bool) : Thr T vc call at_ r va b (w.setCell ⟨T, 28, none⟩ (.bool b)) := by
  refine ⟨?_, h.len, h.hat⟩
  have := h.row.set 28 (.bool b)
  have e : (thrC vc call at_ r va over).setIfInBounds 28 (.bool b) = thrC vc call at_ r va b := by
    have := h.len
    simp [thrC, List.set_append_right, this]
  rwa [e] at this
theorem Thr.setAns {T : Nat} {vc : Value} {call at_ : Nat} {r : List Nat} {va : Value} {over : Bool} {w : World} (h : Thr T vc call at_ r va over w) (v : Value) : Thr T vc call at_ r v over (w.setCell ⟨T, 27, none⟩ v) := by
  refine ⟨?_, h.len, h.hat⟩
  have := h.row.set 27 v
  have e : (thrC vc call at_ r va over).setIfInBounds 27 v = thrC vc call at_ r v over := by
    have := h.len
    simp [thrC, List.set_append_right, this]
  rwa [e] at this
theorem Thr.setCall {T : Nat} {vc : Value} {call at_ : Nat} {r : List Nat} {va : Value} {over : Bool} {w : World} (h : Thr T vc call at_ r va over w) (n : Nat) : Thr T vc n at_ r va over (w.setCell ⟨T, 1, none⟩ (.int .i64 (n : Int))) := by
  refine ⟨?_, h.len, h.hat⟩
  have := h.row.set 1 (.int .i64 (n : Int))
  have e : (thrC vc call at_ r va over).setIfInBounds 1 (.int .i64 (n : Int)) = thrC vc n at_ r va over := by simp [thrC]
  rwa [e] at this
theorem Thr.zeros {T : Nat} {vc : Value} {call at_ : Nat} {va : Value} {over : Bool} : ∀ (m k : Nat) (r : List Nat) (w : World), k + m = 24 → Thr T vc call at_ r va over w → r.take k = List.replicate k 0 →
    Thr T vc call at_ (List.replicate 24 0) va over (w.setCells T (3 + k) (List.replicate m (.int .u64 0)))
  | 0, k, r, w, hk, h, hr => by
    have hl := h.len
    have : r = List.replicate 24 0 := by
      have hk : k = 24 := by omega
      subst hk
      rw [← hr, List.take_of_length_le (by omega)]
    rw [this] at h
    exact h
  | m + 1, k, r, w, hk, h, hr => by
    have hl := h.len
    have h1 := h.setR k 0 (by omega)
    refine Thr.zeros m (k + 1) (r.set k 0) _ (by omega) h1 ?_
    rw [List.take_succ_eq_append_getElem (by simp; omega), List.take_set_of_le (Nat.le_refl _), hr]
    simp [List.replicate_succ']
theorem sm_setCells {F : Nat → Prop} {T : Nat} (hF : F T) : ∀ (vs : List Value) (o : Nat) (w : World), Sm F w (w.setCells T o vs)
  | [], _, w => Sm.refl _ w
  | v :: vs, o, w => (Sm.setCell (p := ⟨T, o, none⟩) (Sm.refl _ w) hF v).trans (sm_setCells hF vs (o + 1) _)
theorem Ans.finish {B : Nat} {F : Nat → Prop} {AN n cA : Nat} {ans : List (Bool × List Nat)} {w : World} (h : Ans B F (.slice (some ⟨AN, 0, none⟩) n cA) ans w) {i : Nat} {p : Bool × List Nat} (hp : ans[i]? = some p) (b : Bool) :
    Ans B F (.slice (some ⟨AN, 0, none⟩) n cA) (ans.set i (b, p.2)) (w.setCell ⟨AN, i * 2, none⟩ (.bool b)) := by
  obtain ⟨vts, h1, h2, h3, h4⟩ := h.ex
  have hi : i < ans.length := by
    rcases Nat.lt_or_ge i ans.length with h | h
    · exact h
    · rw [List.getElem?_eq_none h] at hp
      cases hp
  obtain ⟨g, cap, hv⟩ := own_form h2 (by omega)
  cases hv
  have h5 := (h2.stored (i * 2) (.bool b)).1
  rw [ansL_finish ans vts i p b hp (by omega)] at h5
  refine ⟨⟨vts, by simpa using h1, by simpa using h5, fun j q vt hq hvt => ?_, h4⟩, h.own⟩
  have hold : ∃ q', ans[j]? = some q' ∧ q'.2 = q.2 := by
    by_cases e : i = j
    · subst e
      rw [List.getElem?_set_self hi] at hq
      exact ⟨p, hp, by rw [← Option.some.inj hq]⟩
    · rw [List.getElem?_set_ne e] at hq
      exact ⟨q, hq, rfl⟩
  obtain ⟨q', e1, e2⟩ := hold
  obtain ⟨f1, f2, f3⟩ := h3 j q' vt e1 hvt
  rw [e2] at f1 f2
  refine ⟨own_smF f1 (Sm.setCell (F := fun k => k = AN) (p := ⟨AN, i * 2, none⟩) (Sm.refl _ _) rfl _) (fun k hk e => ?_), f2, f3⟩
  obtain ⟨cc, e3⟩ := own_type2 f1 k hk
  obtain ⟨cc2, e4⟩ := own_type2 h2 AN rfl
  rw [e, e4] at e3
  simp at e3
theorem Ans.snoc {B : Nat} {F : Nat → Prop} {va va' : Value} {ans : List (Bool × List Nat)} {w w' : World} (h : Ans B F va ans w) (k : Sm (fun b => va.ownBlock = some b) w w')
    (hnew : va'.ownBlock = va.ownBlock ∨ ∃ b, va'.ownBlock = some b ∧ w.heap.size ≤ b)
    (ho : ∀ vts : List Value, vts.length = ans.length → w.ownsRow B 113 2 va ans.length (ansL ans vts) → w'.ownsRow B 113 2 va' (ans.length + 1) (ansL ans vts ++ [.bool false, .slice none 0 0])) :
    Ans B (fun b => F b ∨ w.heap.size ≤ b ∧ b < w'.heap.size) va' (ans ++ [(false, [])]) w' := by
  obtain ⟨vts, h1, h2, h3, h4⟩ := h.ex
  have h5 := ho vts h1 h2
  refine ⟨⟨vts ++ [.slice none 0 0], by simp [h1], ?_, fun j q vt hq hvt => ?_, fun i j vi vj b hi hj hbi hbj => ?_⟩, fun b hb => ?_⟩
  · rw [ansL_snoc _ _ _ _ h1, List.length_append]
    exact h5
  · by_cases e : j < ans.length
    · rw [List.getElem?_append_left e] at hq
      rw [List.getElem?_append_left (by omega)] at hvt
      obtain ⟨f1, f2, f3⟩ := h3 j q vt hq hvt
      refine ⟨own_smF f1 k (fun b hb e1 => ?_), f2, fun b hb => .inl (f3 b hb)⟩
      obtain ⟨cc, e3⟩ := own_type2 f1 b hb
      obtain ⟨cc2, e4⟩ := own_type2 h2 b e1
      rw [e4] at e3
      simp at e3
    · have ej : j = ans.length := by
        have := (List.getElem?_eq_some_iff.1 hq).1
        simp at this
        omega
      subst ej
      simp at hq
      rw [← h1] at hvt
      simp at hvt
      subst hq hvt
      exact ⟨World.ownsRow_nil _ _ _ _, by decide, fun b hb => by cases hb⟩
  · have key : ∀ (i : Nat) (v : Value), (vts ++ [Value.slice none 0 0])[i]? = some v → v.ownBlock ≠ none → vts[i]? = some v := fun i v hv hn => by
      rcases Nat.lt_or_ge i vts.length with e | e
      · rwa [List.getElem?_append_left e] at hv
      · rw [List.getElem?_append_right e] at hv
        have : v = .slice none 0 0 := by
          cases hq : i - vts.length with
          | zero => rw [hq] at hv; simpa using hv.symm
          | succ m => rw [hq] at hv; simp at hv
        subst this
        exact absurd rfl hn
    exact h4 i j vi vj b (key i vi hi (by rw [hbi]; simp)) (key j vj hj (by rw [hbj]; simp)) hbi hbj
  · rcases hnew with e | ⟨c, e, e2⟩
    · exact .inl (h.own b (e ▸ hb))
    · rw [e] at hb
      cases hb
      exact .inr ⟨e2, (h5.lt _ e).2⟩
end Go.Proofs.Ytokoniaoknnggaa
