/- The reference machine: a thread as an abstract state; an own instruction as a step of it. -/
import Derived.Test.YtokoniaoknnggaaMacH
namespace Go.Proofs.Ytokoniaoknnggaa
open Go.RowKit
set_option linter.unusedVariables false
set_option linter.unusedSimpArgs false

/-- A thread: the call it is in, its place, the registers, the answers, is it over. -/
structure MS where
  call : Nat
  at_ : Nat
  r : List Nat
  ans : List (Bool × List Nat)
  over : Bool
def ansL : List (Bool × List Nat) → List Value → List Value
  | p :: ps, v :: vs => .bool p.1 :: v :: ansL ps vs
  | _, _ => []
theorem ansL_len : ∀ (a : List (Bool × List Nat)) (v : List Value), v.length = a.length → (ansL a v).length = a.length * 2
  | [], [], _ => rfl
  | p :: ps, v :: vs, h => by
    have := ansL_len ps vs (by simpa using h)
    simp only [ansL, List.length_cons, this]
    omega
  | [], v :: vs, h => by simp at h
  | p :: ps, [], h => by simp at h
theorem ansL_told : ∀ (a : List (Bool × List Nat)) (v : List Value) (i : Nat) (p : Bool × List Nat) (x : Value), a[i]? = some p → v[i]? = some x → (ansL a v)[i * 2 + 1]? = some x
  | [], v, i, p, x, h, _ => by simp at h
  | p :: ps, [], i, _, x, _, h => by simp at h
  | p :: ps, v :: vs, 0, q, x, h, h' => by simpa [ansL] using h'
  | p :: ps, v :: vs, i + 1, q, x, h, h' => by
    have := ansL_told ps vs i q x (by simpa using h) (by simpa using h')
    rw [show (i + 1) * 2 + 1 = (i * 2 + 1) + 2 by omega]
    simpa [ansL] using this
theorem ansL_done : ∀ (a : List (Bool × List Nat)) (v : List Value) (i : Nat) (p : Bool × List Nat) (x : Value), a[i]? = some p → v[i]? = some x → (ansL a v)[i * 2]? = some (.bool p.1)
  | [], v, i, p, x, h, _ => by simp at h
  | p :: ps, [], i, _, x, _, h => by simp at h
  | p :: ps, v :: vs, 0, q, x, h, h' => by
    simp only [List.getElem?_cons_zero, Option.some.injEq] at h
    subst h
    simp [ansL]
  | p :: ps, v :: vs, i + 1, q, x, h, h' => by
    have := ansL_done ps vs i q x (by simpa using h) (by simpa using h')
    rw [show (i + 1) * 2 = (i * 2) + 2 by omega]
    simpa [ansL] using this
theorem ansL_tell : ∀ (a : List (Bool × List Nat)) (v : List Value) (i : Nat) (p : Bool × List Nat) (l : List Nat) (x : Value), a[i]? = some p → i < v.length → (ansL a v).set (i * 2 + 1) x = ansL (a.set i (p.1, l)) (v.set i x)
  | [], v, i, p, l, x, h, _ => by simp at h
  | p :: ps, [], i, _, l, x, _, h => by simp at h
  | p :: ps, v :: vs, 0, q, l, x, h, h' => by
    simp only [List.getElem?_cons_zero, Option.some.injEq] at h
    subst h
    simp [ansL]
  | p :: ps, v :: vs, i + 1, q, l, x, h, h' => by
    have := ansL_tell ps vs i q l x (by simpa using h) (by simpa using h')
    rw [show (i + 1) * 2 + 1 = (i * 2 + 1) + 2 by omega]
    simpa [ansL] using this
theorem ansL_finish : ∀ (a : List (Bool × List Nat)) (v : List Value) (i : Nat) (p : Bool × List Nat) (b : Bool), a[i]? = some p → i < v.length → (ansL a v).set (i * 2) (.bool b) = ansL (a.set i (b, p.2)) v
  | [], v, i, p, b, h, _ => by simp at h
  | p :: ps, [], i, _, b, _, h => by simp at h
  | p :: ps, v :: vs, 0, q, b, h, h' => by
    simp only [List.getElem?_cons_zero, Option.some.injEq] at h
    subst h
    simp [ansL]
  | p :: ps, v :: vs, i + 1, q, b, h, h' => by
    have := ansL_finish ps vs i q b (by simpa using h) (by simpa using h')
    rw [show (i + 1) * 2 = (i * 2) + 2 by omega]
    simpa [ansL] using this
theorem ansL_snoc : ∀ (a : List (Bool × List Nat)) (v : List Value) (p : Bool × List Nat) (x : Value), v.length = a.length → ansL (a ++ [p]) (v ++ [x]) = ansL a v ++ [.bool p.1, x]
  | [], [], p, x, _ => rfl
  | p :: ps, v :: vs, q, x, h => by
    have := ansL_snoc ps vs q x (by simpa using h)
    simp [ansL, this]
  | [], v :: vs, _, _, h => by simp at h
  | p :: ps, [], _, _, h => by simp at h
theorem own_smF {F : Nat → Prop} {w w' : World} {base : Nat} {e : TypeId} {size : Nat} {v : Value} {n : Nat} {xs : List Value} (h : w.ownsRow base e size v n xs) (k : Sm F w w') (hF : ∀ b, v.ownBlock = some b → ¬ F b) :
    w'.ownsRow base e size v n xs := by
  obtain ⟨h1, h2⟩ := h
  refine ⟨h1, ?_⟩
  rcases h2 with h2 | ⟨g, cap, cur, hv, hg, hh, r⟩
  · exact .inl h2
  · refine .inr ⟨g, cap, cur, hv, hg, ?_, r⟩
    rw [k.block g (Array.getElem?_eq_some_iff.1 hh).1 (hF g (by rw [hv]; rfl))]
    exact hh
/-- The answers of a thread, in memory; F names the blocks that are the thread's own. -/
structure Ans (B : Nat) (F : Nat → Prop) (va : Value) (ans : List (Bool × List Nat)) (w : World) : Prop where
  ex : ∃ vts : List Value, vts.length = ans.length ∧ w.ownsRow B 113 2 va ans.length (ansL ans vts) ∧
    (∀ (i : Nat) (p : Bool × List Nat) (vt : Value), ans[i]? = some p → vts[i]? = some vt → w.ownsRow B 38 1 vt p.2.length (u64L p.2) ∧ p.2.length < 1000000 ∧ ∀ b, vt.ownBlock = some b → F b) ∧
    (∀ (i j : Nat) (vi vj : Value) (b : Nat), vts[i]? = some vi → vts[j]? = some vj → vi.ownBlock = some b → vj.ownBlock = some b → i = j)
  own : ∀ b, va.ownBlock = some b → F b
theorem Ans.sm {B : Nat} {F G : Nat → Prop} {va : Value} {ans : List (Bool × List Nat)} {w w' : World} (h : Ans B F va ans w) (k : Sm G w w') (hG : ∀ b, F b → ¬ G b) : Ans B F va ans w' := by
  obtain ⟨vts, h1, h2, h3, h4⟩ := h.ex
  exact ⟨⟨vts, h1, own_smF h2 k (fun b hb => hG b (h.own b hb)), fun i p vt hp hv => ⟨own_smF (h3 i p vt hp hv).1 k (fun b hb => hG b ((h3 i p vt hp hv).2.2 b hb)), (h3 i p vt hp hv).2⟩, h4⟩, h.own⟩
/-- Changes to blocks of another type leave the answers alone. -/
theorem Ans.smT {B : Nat} {F : Nat → Prop} {va : Value} {ans : List (Bool × List Nat)} {w w' : World} {T : Nat} {c : Array Value} (h : Ans B F va ans w) (hr : Row w T c 143) (k : Sm (fun b => b = T) w w') : Ans B F va ans w' := by
  obtain ⟨vts, h1, h2, h3, h4⟩ := h.ex
  have key : ∀ (e : TypeId) (size n : Nat) (v : Value) (xs : List Value), e ≠ 143 → w.ownsRow B e size v n xs → ∀ b, v.ownBlock = some b → ¬ b = T := fun e size n v xs he ho b hb e1 => by
    obtain ⟨cc, e2⟩ := own_type2 ho b hb
    unfold Row at hr
    rw [e1, hr] at e2
    simp only [Option.some.injEq, Obj.cells.injEq] at e2
    exact he e2.2.1.symm
  exact ⟨⟨vts, h1, own_smF h2 k (key _ _ _ _ _ (by decide) h2), fun i p vt hp hv => ⟨own_smF (h3 i p vt hp hv).1 k (key _ _ _ _ _ (by decide) (h3 i p vt hp hv).1), (h3 i p vt hp hv).2⟩, h4⟩, h.own⟩
/-- A thread in memory; all that is its own lies behind B. -/
structure TI (B T : Nat) (vc : Value) (F : Nat → Prop) (s : MS) (w : World) : Prop where
  ex : ∃ va, Thr T vc s.call s.at_ s.r va s.over w ∧ Ans B F va s.ans w
  blk : ∀ b, F b → B ≤ b ∧ b < w.heap.size
  mem : F T
  regs : ∀ v ∈ s.r, v < 18446744073709551616
  few : s.ans.length < 100000
theorem TI.sm {B T : Nat} {vc : Value} {F G : Nat → Prop} {s : MS} {w w' : World} (h : TI B T vc F s w) (k : Sm G w w') (hG : ∀ b, F b → ¬ G b) : TI B T vc F s w' := by
  obtain ⟨va, h1, h2⟩ := h.ex
  exact ⟨⟨va, h1.sm k (hG T h.mem), h2.sm k hG⟩, fun b hb => ⟨(h.blk b hb).1, Nat.lt_of_lt_of_le (h.blk b hb).2 k.size⟩, h.mem, h.regs, h.few⟩
theorem TI.len {B T : Nat} {vc : Value} {F : Nat → Prop} {s : MS} {w : World} (h : TI B T vc F s w) : s.r.length = 24 := by
  obtain ⟨va, h1, h2⟩ := h.ex
  exact h1.len
theorem regs_set {r : List Nat} (h : ∀ v ∈ r, v < 18446744073709551616) (k x : Nat) (hx : x < 18446744073709551616) : ∀ v ∈ r.set k x, v < 18446744073709551616 := fun v hv => by
  rcases List.mem_or_eq_of_mem_set hv with h1 | h1
  · exact h v h1
  · omega
theorem regs_get {r : List Nat} (h : ∀ v ∈ r, v < 18446744073709551616) (k : Nat) : r[k]?.getD 0 < 18446744073709551616 := by
  rcases Nat.lt_or_ge k r.length with h1 | h1
  · rw [List.getElem?_eq_getElem h1]
    exact h _ (List.getElem_mem _)
  · rw [List.getElem?_eq_none h1]
    decide
/-- An own instruction, done. -/
def ownS (x : In) (s : MS) : Option MS :=
  if x.a < 24 ∧ x.b < 24 ∧ x.c < 24 ∧ x.n < 18446744073709551616 ∧ s.at_ < 999999 then
    match x.d with
    | 6 => some { s with at_ := s.at_ + 1, r := s.r.set x.a x.n }
    | 7 => some { s with at_ := s.at_ + 1, r := s.r.set x.a (s.r[x.b]?.getD 0) }
    | 8 => some { s with at_ := s.at_ + 1, r := s.r.set x.a ((s.r[x.b]?.getD 0 + s.r[x.c]?.getD 0 + x.n) % 18446744073709551616) }
    | 9 => some { s with at_ := s.at_ + 1, r := s.r.set x.a ((s.r[x.b]?.getD 0 + 18446744073709551616 - s.r[x.c]?.getD 0) % 18446744073709551616) }
    | 18 => if x.n < 1000000 then some { s with at_ := x.n } else none
    | 19 => if x.n < 1000000 then some { s with at_ := if s.r[x.a]?.getD 0 = s.r[x.b]?.getD 0 then x.n else s.at_ + 1 } else none
    | 20 => if x.n < 1000000 then some { s with at_ := if s.r[x.a]?.getD 0 < s.r[x.b]?.getD 0 then x.n else s.at_ + 1 } else none
    | 22 => match s.ans[s.call]? with
      | some p => if p.2.length < 900000 then some { s with at_ := s.at_ + 1, ans := s.ans.set s.call (p.1, p.2 ++ [s.r[x.a]?.getD 0]) } else none
      | none => none
    | _ => none
  else none
/-- What an own step leaves. -/
def OwnEnd (B T : Nat) (vc : Value) (F : Nat → Prop) (s' : MS) (w w' : World) : Prop :=
  ∃ F' : Nat → Prop, TI B T vc F' s' w' ∧ Sm F w w' ∧ ∀ b, F' b → F b ∨ w.heap.size ≤ b
theorem own_end {B T : Nat} {vc : Value} {F : Nat → Prop} {s : MS} {w w' : World} {va : Value} (hT : TI B T vc F s w) (ha : Ans B F va s.ans w) (r' : List Nat) (at' : Nat) (hr : ∀ v ∈ r', v < 18446744073709551616) (h : Thr T vc s.call at' r' va s.over w') (k : Sm (fun b => b = T) w w') :
    OwnEnd B T vc F { s with at_ := at', r := r' } w w' := by
  obtain ⟨va', h1, h2⟩ := hT.ex
  exact ⟨F, ⟨⟨va, h, ha.smT h1.row k⟩, fun b hb => ⟨(hT.blk b hb).1, Nat.lt_of_lt_of_le (hT.blk b hb).2 k.size⟩, hT.mem, hr, hT.few⟩, k.mono (fun b e => e ▸ hT.mem), fun b hb => .inl hb⟩
end Go.Proofs.Ytokoniaoknnggaa
