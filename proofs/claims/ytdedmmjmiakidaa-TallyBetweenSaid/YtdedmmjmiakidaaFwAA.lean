/- Plain words: an operation that is carried out in a world in which some blocks have been spoilt, and that comes to an end there, is carried out alike in the true world, and touches none of these blocks: here the single steps of which operations are made. No condition. -/
import Derived.Conc.Events
import Derived.Conc.Own
set_option linter.unusedVariables false
set_option linter.unusedSimpArgs false
/- Plain words: an operation that is carried out in a world in which some blocks have been spoilt, and that comes to an end there, is carried out alike in the true world, and touches none of these blocks: here the single steps of which operations are made. No condition. -/
namespace Go.Proofs.Ytdedmmjmiakidaa

/-- The blocks that are spoilt, the kinds of their elements, and blocks whose channels are to stand. -/
structure Poison where
  F : Nat → Prop
  ty : Nat → TypeId
  C : Nat → Prop

/-- The world u is w, but that each block of F is an empty row there; up to draw number H both tapes answer alike. -/
structure Ps (P : Program) (σ : Poison) (H : Nat) (w u : World) : Prop where
  heap : ∀ b, ¬ σ.F b → u.heap[b]? = w.heap[b]?
  bad : ∀ b, σ.F b → u.heap[b]? = some (.cells #[] (σ.ty b) (0, 0))
  real : ∀ b, σ.F b → ∃ c, w.heap[b]? = some (.cells c (σ.ty b) (0, 0))
  size : u.heap.size = w.heap.size
  os : u.os = w.os
  output : u.output = w.output
  ahead : ∀ j q, u.drawn + j < H → u.tape (u.drawn + j) q = w.tape (w.drawn + j) q
  pend : ∀ b c t, w.heap[b]? = some (.pending c t) → P.stepOf b = none

/-- What a step leaves alone. -/
structure Fr (σ : Poison) (w w' u u' : World) : Prop where
  keep : ∀ b, σ.F b → w'.heap[b]? = w.heap[b]?
  chan : ∀ b cap buf cl s r t, σ.C b → w.heap[b]? = some (.chan cap buf cl s r t) → w'.heap[b]? = some (.chan cap buf cl s r t)
  tape : w'.tape = w.tape
  tapeU : u'.tape = u.tape
  drawn : ∃ n, w'.drawn = w.drawn + n ∧ u'.drawn = u.drawn + n
  size : w.heap.size ≤ w'.heap.size
  os : w'.os = w.os
  output : w'.output = w.output

/-- What it may list. -/
def EvOk (F : Nat → Prop) (n : Nat) (e : Event) : Prop :=
  match e.loc with
  | .cell a => a.block < n ∧ ¬ F a.block
  | .obj r => r < n ∧ ¬ F r
  | .mark m => m = .noRoom ∨ ∃ f, m = .extern f
  | _ => False

theorem EvOk.mono {F : Nat → Prop} {n n' : Nat} {e : Event} (h : EvOk F n e) (hn : n ≤ n') : EvOk F n' e := by
  unfold EvOk at *
  split at h
  · exact ⟨Nat.lt_of_lt_of_le h.1 hn, h.2⟩
  · exact ⟨Nat.lt_of_lt_of_le h.1 hn, h.2⟩
  · exact h
  · exact h

theorem Fr.refl {σ : Poison} (w u : World) : Fr σ w w u u := ⟨fun _ _ => rfl, fun _ _ _ _ _ _ _ _ h => h, rfl, rfl, ⟨0, rfl, rfl⟩, Nat.le_refl _, rfl, rfl⟩
theorem Fr.trans {σ : Poison} {w w' w'' u u' u'' : World} (h : Fr σ w w' u u') (k : Fr σ w' w'' u' u'') : Fr σ w w'' u u'' := by
  obtain ⟨n, h1, h2⟩ := h.drawn
  obtain ⟨m, k1, k2⟩ := k.drawn
  exact ⟨fun b hb => (k.keep b hb).trans (h.keep b hb), fun b _ _ _ _ _ _ hb hc => k.chan b _ _ _ _ _ _ hb (h.chan b _ _ _ _ _ _ hb hc), k.tape.trans h.tape, k.tapeU.trans h.tapeU, ⟨n + m, by omega, by omega⟩, Nat.le_trans h.size k.size, k.os.trans h.os, k.output.trans h.output⟩

/-- No draw is taken back. -/
theorem ask_drawn {α : Type} : ∀ (a : Ask α) (w : World), w.drawn ≤ (w.ask a).2.drawn
  | .done _, w => by simp [World.ask]
  | .ask what range k, w => by
    simp only [World.ask]
    split
    · exact ask_drawn _ w
    · exact Nat.le_trans (Nat.le_succ w.drawn) (ask_drawn (k _) { w with drawn := w.drawn + 1 })
theorem sys_drawn (w : World) (c : Sys) : w.drawn ≤ (w.sys c).2.drawn := by
  unfold World.sys
  have h := ask_drawn (Kernel.perform c w.os) w
  generalize w.ask (Kernel.perform c w.os) = x at h
  obtain ⟨⟨r, os⟩, w'⟩ := x
  cases r <;> first | exact h | exact Nat.le_refl _
theorem farStore_drawn {P : Program} {w w' : World} {a : Addr} {v : Value} {b : Bool} {l : List Addr} (h : w.farStore P a v b = .ok (w', l)) : w'.drawn = w.drawn := by
  unfold World.farStore at h
  split at h
  · rename_i at' u' e
    split at h
    · rename_i r hr
      simp only [Except.ok.injEq] at h
      subst h
      unfold World.viewStore at hr
      simp only [bind, Except.bind, pure, Except.pure] at hr
      repeat' (split at hr <;> first | (simp at hr; done) | skip)
      all_goals first
        | (simp only [Except.ok.injEq, Prod.mk.injEq] at hr; obtain ⟨rfl, _⟩ := hr; rfl)
        | simp at hr
    · simp at h
  · simp at h
theorem run_drawn {α : Type} (P : Program) (s : Sem α) : ∀ (w : World) (a : α) (w' : World), s.run P w = .ok a w' → w.drawn ≤ w'.drawn := by
  induction s with
  | pure a => intro w a' w' h; simp only [Sem.run, Result.ok.injEq] at h; exact Nat.le_of_eq (by rw [h.2])
  | load m a k ih =>
    intro w b w' h
    simp only [Sem.run] at h
    split at h
    · exact ih _ _ _ _ h
    · split at h
      · exact ih _ _ _ _ h
      · simp at h
  | store m a v k ih =>
    intro w b w' h
    by_cases hv : (∃ x, v = .agg x) ∨ ∃ x, v = .tuple x
    · rcases hv with ⟨x, rfl⟩ | ⟨x, rfl⟩ <;> simp [Sem.run] at h
    · have h' : (match w.cell? a with
          | some _ => if w.frozen? a then Result.halt (.unsupported (.unsafePointer "a write to bytes that a string shares")) w else k.run P (w.setCell a v)
          | none => match w.farStore P a v (m == Mode.atomic) with
            | .ok (w, _) => k.run P w
            | .error h => .halt h w) = .ok b w' := by
        rw [← h]
        cases v <;> first
          | rfl
          | exact absurd (Or.inl ⟨_, rfl⟩) hv
          | exact absurd (Or.inr ⟨_, rfl⟩) hv
      split at h'
      · split at h'
        · simp at h'
        · have h2 := ih _ _ _ h'
          exact h2
      · split at h'
        · rename_i w2 l hf
          have h1 := farStore_drawn hf
          have h2 := ih _ _ _ h'
          omega
        · simp at h'
  | new o k ih => intro w b w' h; simp only [Sem.run] at h; have h2 := ih _ _ _ _ h; exact h2
  | shape r k ih => intro w b w' h; simp only [Sem.run] at h; exact ih _ _ _ _ h
  | freeze a n k ih =>
    intro w b w' h
    simp only [Sem.run] at h
    have := ih _ _ _ h
    unfold World.freeze at this
    split at this <;> exact this
  | frozen a k ih => intro w b w' h; simp only [Sem.run] at h; exact ih _ _ _ _ h
  | getObj r k ih =>
    intro w b w' h
    simp only [Sem.run] at h
    split at h <;> first | (simp at h; done) | exact ih _ _ _ _ h
  | setObj r o k ih =>
    intro w b w' h
    simp only [Sem.run] at h
    split at h <;> first | (simp at h; done) | (have h2 := ih _ _ _ h; exact h2)
  | choose q k ih =>
    intro w b w' h
    simp only [Sem.run] at h
    split at h
    · exact ih _ _ _ _ h
    · exact Nat.le_trans (Nat.le_succ _) (ih _ _ _ _ h)
  | sys c k ih =>
    intro w b w' h
    simp only [Sem.run] at h
    exact Nat.le_trans (sys_drawn w c) (ih _ _ _ _ h)
  | program k ih => intro w b w' h; simp only [Sem.run] at h; exact ih _ _ _ _ h
  | mark m k ih => intro w b w' h; simp only [Sem.run] at h; exact ih _ _ _ h
  | halt x => intro w b w' h; simp [Sem.run] at h

/-- How an operation may come to a halt. -/
def HaltOk : Halt → Prop
  | .panic _ | .unsupported _ | .stuck _ => True
  | _ => False
/-- It comes to a halt in no other way. -/
class Halts (P : Program) {α : Type} (s : Sem α) : Prop where
  halts : ∀ (w : World) (x : Halt) (w' : World), s.run P w = .halt x w' → HaltOk x
section
variable {P : Program} {α β : Type}
instance halts_pure (a : α) : Halts P (Pure.pure a : Sem α) := ⟨fun w x w' h => by simp at h⟩
instance halts_pure' (a : α) : Halts P (Sem.pure a : Sem α) := ⟨fun w x w' h => by simp [Sem.run] at h⟩
instance halts_stuck (s : String) : Halts P (stuck s : Sem α) := ⟨fun w x w' h => by simp only [stuck, Sem.run, Result.halt.injEq] at h; rw [← h.1]; trivial⟩
instance halts_unsupported (u : Unsupported) : Halts P (unsupported u : Sem α) := ⟨fun w x w' h => by simp only [unsupported, Sem.run, Result.halt.injEq] at h; rw [← h.1]; trivial⟩
instance halts_goPanic (v : Value) : Halts P (goPanic v : Sem α) := ⟨fun w x w' h => by simp only [goPanic, Sem.run, Result.halt.injEq] at h; rw [← h.1]; trivial⟩
instance halts_bind (x : Sem α) (f : α → Sem β) [hx : Halts P x] [hf : ∀ a, Halts P (f a)] : Halts P (x >>= f) := ⟨fun w t w' h => by
  rw [Sem.run_bind] at h
  cases hr : x.run P w with
  | halt t' w2 => rw [hr] at h; simp only [Result.andThen, Result.halt.injEq] at h; rw [← h.1]; exact hx.halts _ _ _ hr
  | ok a u1 => rw [hr, Result.andThen_ok] at h; exact (hf a).halts _ _ _ h⟩
instance halts_bind' (x : Sem α) (f : α → Sem β) [hx : Halts P x] [hf : ∀ a, Halts P (f a)] : Halts P (x.bind f) := halts_bind x f
instance halts_map (x : Sem α) (f : α → β) [hx : Halts P x] : Halts P (f <$> x) := halts_bind x fun a => Pure.pure (f a)
instance halts_ite (c : Prop) [Decidable c] (x y : Sem α) [hx : Halts P x] [hy : Halts P y] : Halts P (if c then x else y) := by split <;> assumption
theorem noCell_ok (w : World) (a : Addr) (s : String) : HaltOk (w.noCell a s) := by
  unfold World.noCell
  split <;> trivial
theorem farLoad_ok {w : World} {a : Addr} {b : Bool} {x : Halt} (h : w.farLoad P a b = .error x) : HaltOk x := by
  unfold World.farLoad at h
  split at h
  · split at h
    · simp at h
    · simp only [Except.error.injEq] at h; rw [← h]; trivial
  · simp only [Except.error.injEq] at h; rw [← h]; exact noCell_ok _ _ _
theorem farStore_ok {w : World} {a : Addr} {v : Value} {b : Bool} {x : Halt} (h : w.farStore P a v b = .error x) : HaltOk x := by
  unfold World.farStore at h
  split at h
  · split at h
    · simp at h
    · simp only [Except.error.injEq] at h; rw [← h]; trivial
  · simp only [Except.error.injEq] at h; rw [← h]; exact noCell_ok _ _ _
instance halts_load (a : Addr) (m : Mode) : Halts P (load a m) := ⟨fun w x w' h => by
  rw [run_load] at h
  split at h
  · simp at h
  · split at h
    · simp at h
    · rename_i e
      simp only [Result.halt.injEq] at h; rw [← h.1]; exact farLoad_ok e⟩
instance halts_store (a : Addr) (v : Value) (m : Mode) : Halts P (store a v m) := ⟨fun w x w' h => by
  by_cases hv : (∃ x, v = .agg x) ∨ ∃ x, v = .tuple x
  · rcases hv with ⟨x, rfl⟩ | ⟨x, rfl⟩ <;> (simp only [store, Sem.run, Result.halt.injEq] at h; rw [← h.1]; trivial)
  · have h' : (match w.cell? a with
        | some _ => if w.frozen? a then Result.halt (.unsupported (.unsafePointer "a write to bytes that a string shares")) w else (Result.ok () (w.setCell a v) : Result Unit)
        | none => match w.farStore P a v (m == Mode.atomic) with
          | .ok (w, _) => .ok () w
          | .error h => .halt h w) = .halt x w' := by
      rw [← h]
      cases v <;> first
        | rfl
        | exact absurd (Or.inl ⟨_, rfl⟩) hv
        | exact absurd (Or.inr ⟨_, rfl⟩) hv
    split at h'
    · split at h'
      · simp only [Result.halt.injEq] at h'; rw [← h'.1]; trivial
      · simp at h'
    · split at h'
      · simp at h'
      · rename_i e
        simp only [Result.halt.injEq] at h'; rw [← h'.1]; exact farStore_ok e⟩
instance halts_newObj (o : Obj) : Halts P (newObj o) := ⟨fun w x w' h => by simp [newObj, Sem.run] at h⟩
instance halts_getObj (r : Nat) : Halts P (getObj r) := ⟨fun w x w' h => by
  simp only [getObj, Sem.run] at h
  split at h <;> first | (simp only [Result.halt.injEq] at h; rw [← h.1]; trivial) | simp at h⟩
instance halts_setObj (r : Nat) (o : Obj) : Halts P (setObj r o) := ⟨fun w x w' h => by
  simp only [setObj, Sem.run] at h
  split at h <;> first | (simp only [Result.halt.injEq] at h; rw [← h.1]; trivial) | simp at h⟩
instance halts_choose (q : Question) : Halts P (choose q) := ⟨fun w x w' h => by
  simp only [choose, Sem.run] at h
  split at h <;> simp at h⟩
instance halts_program : Halts P program := ⟨fun w x w' h => by simp [program, Sem.run] at h⟩
instance halts_mark (m : Mark) : Halts P (mark m) := ⟨fun w x w' h => by simp [mark, Sem.run] at h⟩
instance halts_shape (r : Nat) : Halts P (shape r) := ⟨fun w x w' h => by simp [shape, Sem.run] at h⟩
instance halts_frozen (a : Addr) : Halts P (frozen a) := ⟨fun w x w' h => by simp [frozen, Sem.run] at h⟩
instance halts_freeze (a : Addr) (n : Nat) : Halts P (freeze a n) := ⟨fun w x w' h => by simp [freeze, Sem.run] at h⟩
instance halts_askRoom (n : Nat) : Halts P (askRoom n) := by unfold askRoom; infer_instance
theorem halts_withProgram (f : Program → Sem β) (h : Halts P (f P)) : Halts P (program >>= f) := ⟨fun w x w' hr => h.halts w x w' hr⟩
end

section
variable (P : Program) (σ : Poison)
/-- Carried out in the spoilt world, and at an end there: carried out alike in the true one. -/
class Mild {α : Type} (s : Sem α) : Prop extends Halts P s where
  sim : ∀ (H : Nat) (w u : World) (a : α) (u' : World) (es : Array Event), Ps P σ H w u → s.run P u = .ok a u' → u'.drawn ≤ H →
    ∃ w' es', s.runT P w es = (.ok a w', es ++ es') ∧ Ps P σ H w' u' ∧ Fr σ w w' u u' ∧ ∀ e ∈ es', EvOk σ.F w'.heap.size e
end

/-- No channel is to stand: maps may be written. -/
class NoC (σ : Poison) : Prop where
  no : ∀ b, ¬ σ.C b

section
variable {P : Program} {σ : Poison} {H : Nat} {α β : Type}

instance mild_pure (a : α) : Mild P σ (Pure.pure a : Sem α) := ⟨fun H w u a' u' es hp h _ => by
  simp only [Sem.run_pure, Result.ok.injEq] at h
  obtain ⟨rfl, rfl⟩ := h
  exact ⟨w, #[], by simp only [Array.append_empty]; rfl, hp, Fr.refl _ _, by simp⟩⟩
instance mild_pure' (a : α) : Mild P σ (Sem.pure a : Sem α) := mild_pure a
instance mild_stuck (s : String) : Mild P σ (stuck s : Sem α) := ⟨fun H w u a' u' es hp h _ => by simp [stuck, Sem.run] at h⟩
instance mild_unsupported (x : Unsupported) : Mild P σ (unsupported x : Sem α) := ⟨fun H w u a' u' es hp h _ => by simp [unsupported, Sem.run] at h⟩
instance mild_goPanic (x : Value) : Mild P σ (goPanic x : Sem α) := ⟨fun H w u a' u' es hp h _ => by simp [goPanic, Sem.run] at h⟩

instance mild_bind (x : Sem α) (f : α → Sem β) [hx : Mild P σ x] [hf : ∀ a, Mild P σ (f a)] : Mild P σ (x >>= f) := ⟨fun H w u b u' es hp h hd => by
  rw [Sem.run_bind] at h
  cases hr : x.run P u with
  | halt t w2 => rw [hr] at h; simp at h
  | ok a u1 =>
    rw [hr, Result.andThen_ok] at h
    obtain ⟨w1, e1, h1, p1, f1, v1⟩ := hx.sim H w u a u1 es hp hr (Nat.le_trans (run_drawn P _ _ _ _ h) hd)
    obtain ⟨w2, e2, h2, p2, f2, v2⟩ := (hf a).sim H w1 u1 b u' (es ++ e1) p1 h hd
    refine ⟨w2, e1 ++ e2, ?_, p2, f1.trans f2, fun e he => ?_⟩
    · show (x.bind f).runT P w es = _
      rw [Sem.runT_bind', h1]
      simp only [h2, Array.append_assoc]
    · rcases Array.mem_append.1 he with he | he
      · exact (v1 e he).mono f2.size
      · exact v2 e he⟩
instance mild_bind' (x : Sem α) (f : α → Sem β) [hx : Mild P σ x] [hf : ∀ a, Mild P σ (f a)] : Mild P σ (x.bind f) := mild_bind x f
instance mild_map (x : Sem α) (f : α → β) [hx : Mild P σ x] : Mild P σ (f <$> x) := mild_bind x fun a => Pure.pure (f a)
instance mild_ite (c : Prop) [Decidable c] (x y : Sem α) [hx : Mild P σ x] [hy : Mild P σ y] : Mild P σ (if c then x else y) := by split <;> assumption

/-! ### memory seen as another type -/
theorem seen_congr {w u : World} {at_ : Addr} (h : u.heap[at_.block]? = w.heap[at_.block]?) (t : TypeId) (k : Addr) (b : Bool) : u.seen P at_ t k b = w.seen P at_ t k b := by
  unfold World.seen
  simp only [h]
theorem seenCells_none (p : Program) (e : TypeId) (x stop f : Nat) (h : x < stop) : ∃ s, seenCells p #[] e (f + 1) x stop = .error s := by
  unfold seenCells
  rw [if_neg (by omega)]
  by_cases hw : p.bytesOf e = 0
  · rw [if_pos hw]; exact ⟨_, rfl⟩
  · rw [if_neg hw]
    cases cellHolding p p.depth e (x % p.bytesOf e) with
    | none => exact ⟨_, rfl⟩
    | some y => exact ⟨_, rfl⟩
theorem bytes_pos {p : Program} : ∀ {d : Nat} {t : TypeId} {o : Nat} {v : Value} {n : Nat}, plainCell p d t o = some v → v.bytes?.map (·.length) = some n → 0 < n
  | 0, t, o, v, n => by intro h; simp [plainCell] at h
  | d + 1, t, o, v, n => by
    intro h hn
    unfold plainCell at h
    split at h
    · obtain ⟨f, _, hf⟩ := Array.exists_of_findSome?_eq_some h
      split at hf
      · exact bytes_pos hf hn
      · simp at hf
    · dsimp only at h
      split at h
      · simp at h
      · exact bytes_pos h hn
    · split at h <;> simp at h
      subst h; simp [Value.bytes?] at hn; omega
    · rename_i k _
      split at h <;> simp at h
      subst h
      simp only [Value.bytes?, Option.map_some, Option.some.injEq] at hn
      have : ∀ (s m : Nat), (leBytes s m).length = s := by
        intro s
        induction s with
        | zero => intro m; rfl
        | succ s ih => intro m; simp [leBytes, ih]
      rw [this] at hn
      cases k <;> simp [IntKind.bits] at hn <;> omega
    · rename_i k _
      split at h <;> simp at h
      subst h
      simp only [Value.bytes?, Option.map_some, Option.some.injEq] at hn
      have : ∀ (s m : Nat), (leBytes s m).length = s := by
        intro s
        induction s with
        | zero => intro m; rfl
        | succ s ih => intro m; simp [leBytes, ih]
      rw [this] at hn
      cases k <;> simp [FloatKind.bytes] at hn <;> omega
    · rename_i k _
      split at h <;> simp at h
      subst h
      simp only [Value.bytes?, Option.map_some, Option.some.injEq, List.length_append] at hn
      have : ∀ (s m : Nat), (leBytes s m).length = s := by
        intro s
        induction s with
        | zero => intro m; rfl
        | succ s ih => intro m; simp [leBytes, ih]
      simp only [this] at hn
      cases k <;> simp [FloatKind.bytes] at hn <;> omega
    · simp at h
theorem Ps.seen {w u : World} (hp : Ps P σ H w u) {at_ : Addr} {t : TypeId} {k : Addr} {b : Bool} {r : Array Value × TypeId × (Nat × Nat) × Nat × Value × List (Nat × Nat × List UInt8)} (h : u.seen P at_ t k b = .ok r) :
    ¬ σ.F at_.block ∧ w.seen P at_ t k b = .ok r ∧ at_.block < w.heap.size ∧ w.heap[at_.block]? = some (.cells r.1 r.2.1 r.2.2.1) := by
  by_cases hb : σ.F at_.block
  · exfalso
    have key : ∃ s, u.seen P at_ t k b = .error s := by
      unfold World.seen
      simp only [hp.bad _ hb]
      cases hs : (k.spot.isSome || at_.spot.isSome) with
      | true => exact ⟨_, rfl⟩
      | false =>
        cases hl : plainCell P P.depth t k.off with
        | none => exact ⟨_, rfl⟩
        | some like =>
          cases hz : like.bytes?.map (·.length) with
          | none => exact ⟨_, by simp only [hz]; rfl⟩
          | some size =>
            cases hβ : byteOfCell P P.depth t k.off with
            | none => exact ⟨_, by simp only [hz]; rfl⟩
            | some β =>
              by_cases hc : P.cellsOf (σ.ty at_.block) = 0
              · exact ⟨_, by simp only [hz, hc]; rfl⟩
              · cases hb0 : byteOfCell P P.depth (σ.ty at_.block) (at_.off % P.cellsOf (σ.ty at_.block)) with
                | none => exact ⟨_, by simp only [hz, hc, if_false]; rfl⟩
                | some b0 =>
                  have hpos := bytes_pos hl hz
                  obtain ⟨s, hs⟩ := seenCells_none P (σ.ty at_.block) (at_.off / P.cellsOf (σ.ty at_.block) * P.bytesOf (σ.ty at_.block) + b0 + β) (at_.off / P.cellsOf (σ.ty at_.block) * P.bytesOf (σ.ty at_.block) + b0 + β + size) size (by omega)
                  exact ⟨s, by simp only [hz, hc, if_false, bind, Except.bind, pure, Except.pure, hs]; rfl⟩
    obtain ⟨s, hs⟩ := key
    rw [hs] at h
    cases h
  · have hw := hp.heap _ hb
    have h' := h
    rw [seen_congr hw] at h'
    refine ⟨hb, h', ?_⟩
    have key : w.heap[at_.block]? = some (.cells r.1 r.2.1 r.2.2.1) := by
      unfold World.seen at h'
      simp only [bind, Except.bind, pure, Except.pure] at h'
      repeat' (split at h' <;> first | (simp at h'; done) | skip)
      all_goals first
        | (simp only [Except.ok.injEq] at h'; subst h'; assumption)
        | simp at h'
    exact ⟨(Array.getElem?_eq_some_iff.1 key).1, key⟩
theorem Ps.noCell {w u : World} (hp : Ps P σ H w u) {a : Addr} (hb : ¬ σ.F a.block) (s : String) : u.noCell a s = w.noCell a s := by
  unfold World.noCell
  rw [hp.heap _ hb]
theorem Ps.farLoad {w u : World} (hp : Ps P σ H w u) {a : Addr} {b : Bool} {r : Value × List Addr} (h : u.farLoad P a b = .ok r) :
    ¬ σ.F a.block ∧ w.farLoad P a b = .ok r ∧ ∀ x ∈ r.2, x.block < w.heap.size ∧ ¬ σ.F x.block := by
  have hb : ¬ σ.F a.block := by
    intro hb
    unfold World.farLoad at h
    rw [hp.bad _ hb] at h
    simp at h
  refine ⟨hb, ?_⟩
  unfold World.farLoad at h ⊢
  rw [hp.heap _ hb] at h
  split at h
  · rename_i at' u' e
    split at h
    · rename_i r' hr
      simp only [Except.ok.injEq] at h
      subst h
      unfold World.viewLoad at hr ⊢
      cases hs : u.seen P at' u' a b with
      | error x => rw [hs] at hr; cases hr
      | ok y =>
        obtain ⟨h1, h2, h3, _⟩ := hp.seen hs
        rw [hs] at hr
        rw [h2]
        obtain ⟨c, e', fz, first, like, cells⟩ := y
        simp only [bind, Except.bind, pure, Except.pure] at hr ⊢
        split at hr
        · rename_i v' hv
          simp only [Except.ok.injEq] at hr
          subst hr
          refine ⟨by simp only [hv], fun x hx => ?_⟩
          obtain ⟨z, _, rfl⟩ := List.mem_map.1 hx
          exact ⟨h3, h1⟩
        · simp at hr
    · simp at h
  · simp at h
theorem Ps.cell {w u : World} (hp : Ps P σ H w u) {a : Addr} {v : Value} (h : u.cell? a = some v) : ¬ σ.F a.block ∧ w.cell? a = some v ∧ a.block < w.heap.size := by
  have hb : ¬ σ.F a.block := by
    intro hb
    unfold World.cell? at h
    rw [hp.bad _ hb] at h
    simp at h
  refine ⟨hb, ?_, ?_⟩
  · unfold World.cell? at h ⊢
    rw [hp.heap _ hb] at h
    exact h
  · unfold World.cell? at h
    rw [hp.heap _ hb] at h
    cases e : w.heap[a.block]? with
    | none => rw [e] at h; simp at h
    | some o => exact (Array.getElem?_eq_some_iff.1 e).1
theorem Ps.nocell {w u : World} (hp : Ps P σ H w u) {a : Addr} (hb : ¬ σ.F a.block) : u.cell? a = w.cell? a := by
  unfold World.cell?
  rw [hp.heap _ hb]

theorem append_one (es : Array Event) (e : Event) : es.push e = es ++ #[e] := by simp

instance mild_load (a : Addr) (m : Mode) : Mild P σ (load a m) := ⟨fun H w u v u' es hp h _ => by
  rw [run_load] at h
  cases hc : u.cell? a with
  | none =>
    rw [hc] at h
    cases hx : u.farLoad P a (m == .atomic) with
    | error x => rw [hx] at h; simp at h
    | ok r =>
      rw [hx] at h
      obtain ⟨v', l⟩ := r
      simp only [Result.ok.injEq] at h
      obtain ⟨rfl, rfl⟩ := h
      obtain ⟨hb, hw, hl⟩ := hp.farLoad hx
      refine ⟨w, l.toArray.map (⟨.cell ·, false, m == .atomic⟩), ?_, hp, Fr.refl _ _, fun e he => ?_⟩
      · have : w.cell? a = none := by rw [← hp.nocell hb, hc]
        simp only [load, Sem.runT, this, hw]
      · obtain ⟨x, hx, rfl⟩ := Array.mem_map.1 he
        exact hl x (by simpa using hx)
  | some v' =>
    rw [hc] at h
    simp only [Result.ok.injEq] at h
    obtain ⟨rfl, rfl⟩ := h
    obtain ⟨hb, hw, hs⟩ := hp.cell hc
    refine ⟨w, #[⟨.cell a, false, m == .atomic⟩], ?_, hp, Fr.refl _ _, fun e he => ?_⟩
    · simp only [load, Sem.runT, hw, append_one]
    · simp only [List.mem_toArray, List.mem_cons, List.not_mem_nil, or_false] at he
      subst he
      exact ⟨hs, hb⟩⟩

/-- One block, not a spoilt one, is laid anew by cells in both worlds. -/
theorem Ps.setRow {w u : World} (hp : Ps P σ H w u) {r : Nat} (hb : ¬ σ.F r) {o : Obj} (ho : ∀ c t, o ≠ .pending c t) :
    Ps P σ H { w with heap := w.heap.setIfInBounds r o } { u with heap := u.heap.setIfInBounds r o } := by
  refine ⟨fun b hf => ?_, fun b hf => ?_, fun b hf => ?_, by simp [hp.size], hp.os, hp.output, hp.ahead, fun b c t => ?_⟩
  · simp only [Array.getElem?_setIfInBounds, hp.size, hp.heap b hf]
  · have : ¬ r = b := fun e => hb (e ▸ hf)
    simp only [Array.getElem?_setIfInBounds, this, if_false]
    exact hp.bad b hf
  · have : ¬ r = b := fun e => hb (e ▸ hf)
    simp only [Array.getElem?_setIfInBounds, this, if_false]
    exact hp.real b hf
  · simp only [Array.getElem?_setIfInBounds]
    split
    · split
      · intro e; exact absurd (Option.some.inj e) (ho _ _)
      · simp
    · exact hp.pend b c t
theorem Fr.setRow {w u : World} {r : Nat} (hb : ¬ σ.F r) {o : Obj} (hc : ∀ cap buf cl s r' t, σ.C r → w.heap[r]? ≠ some (.chan cap buf cl s r' t)) :
    Fr σ w { w with heap := w.heap.setIfInBounds r o } u { u with heap := u.heap.setIfInBounds r o } := by
  refine ⟨fun b hf => ?_, fun b cap buf cl s r' t hC h => ?_, rfl, rfl, ⟨0, rfl, rfl⟩, by simp, rfl, rfl⟩
  · have : ¬ r = b := fun e => hb (e ▸ hf)
    simp only [Array.getElem?_setIfInBounds, this, if_false]
  · have : ¬ r = b := fun e => hc _ _ _ _ _ _ (e ▸ hC) (e ▸ h)
    simp only [Array.getElem?_setIfInBounds, this, if_false]
    exact h
theorem setCell_row {w : World} {a : Addr} {c : Array Value} {t : TypeId} {f : Nat × Nat} (h : w.heap[a.block]? = some (.cells c t f)) (v : Value) :
    w.setCell a v = { w with heap := w.heap.setIfInBounds a.block (.cells (if a.spot.isSome then c else c.setIfInBounds a.off v) t f) } := by
  unfold World.setCell
  congr 1
  apply Array.ext_getElem?
  intro i
  simp only [Array.getElem?_modify, Array.getElem?_setIfInBounds]
  by_cases e : a.block = i
  · subst e
    obtain ⟨h1, h2⟩ := Array.getElem?_eq_some_iff.1 h
    simp [h1, h2]
  · simp [e]
theorem cell_row {w : World} {a : Addr} {v : Value} (h : w.cell? a = some v) : ∃ c t f, w.heap[a.block]? = some (.cells c t f) := by
  unfold World.cell? at h
  split at h
  · exact ⟨_, _, _, by assumption⟩
  · simp at h
theorem Ps.farStore {w u u' : World} (hp : Ps P σ H w u) {a : Addr} {v : Value} {b : Bool} {l : List Addr} (h : u.farStore P a v b = .ok (u', l)) :
    ¬ σ.F a.block ∧ ∃ w', w.farStore P a v b = .ok (w', l) ∧ Ps P σ H w' u' ∧ Fr σ w w' u u' ∧ ∀ x ∈ l, x.block < w'.heap.size ∧ ¬ σ.F x.block := by
  have hb : ¬ σ.F a.block := by
    intro hb
    unfold World.farStore at h
    rw [hp.bad _ hb] at h
    simp at h
  refine ⟨hb, ?_⟩
  unfold World.farStore at h ⊢
  rw [hp.heap _ hb] at h
  split at h
  · rename_i at' t' e
    split at h
    · rename_i r' hr
      simp only [Except.ok.injEq] at h
      subst h
      unfold World.viewStore at hr ⊢
      simp only [bind, Except.bind, pure, Except.pure] at hr ⊢
      cases ht : tight P P.depth t' with
      | false => rw [ht] at hr; cases hr
      | true =>
        rw [ht] at hr
        simp only [Bool.not_true, Bool.false_eq_true, if_false] at hr ⊢
        cases hs : u.seen P at' t' a b with
        | error x => rw [hs] at hr; cases hr
        | ok y =>
          obtain ⟨h1, h2, h3, h4⟩ := hp.seen hs
          rw [hs] at hr
          rw [h2]
          obtain ⟨c, e', fz, first, like, cells⟩ := y
          dsimp only at hr h4 ⊢
          cases hv : v.bytes? with
          | none => rw [hv] at hr; cases hr
          | some bs =>
            rw [hv] at hr
            dsimp only at hr ⊢
            split at hr
            · cases hr
            · rename_i hz
              rw [if_neg hz]
              split at hr
              · cases hr
              · simp only [Except.ok.injEq, Prod.mk.injEq] at hr
                obtain ⟨rfl, rfl⟩ := hr
                refine ⟨_, rfl, hp.setRow h1 (by simp), Fr.setRow h1 (by intros; rw [h4]; simp), fun x hx => ?_⟩
                obtain ⟨z, _, rfl⟩ := List.mem_map.1 hx
                exact ⟨by simpa using h3, h1⟩
    · simp at h
  · simp at h

instance mild_store (a : Addr) (v : Value) (m : Mode) : Mild P σ (store a v m) := ⟨fun H w u r u' es hp h _ => by
  have key : ∀ (hv : (∀ x, v ≠ .agg x) ∧ (∀ x, v ≠ .tuple x)) (w : World), (store a v m).runT P w es = (match w.cell? a with
      | some _ =>
        if w.frozen? a then (.halt (.unsupported (.unsafePointer "a write to bytes that a string shares")) w, es)
        else (.ok () (w.setCell a v), es.push ⟨.cell a, true, m == .atomic⟩)
      | none => match w.farStore P a v (m == .atomic) with
        | .ok (w, touched) => (.ok () w, es ++ touched.toArray.map (⟨.cell ·, true, m == .atomic⟩))
        | .error h => (.halt h w, es)) := by
    intro hv w
    cases v <;> first
      | exact absurd rfl (hv.1 _)
      | exact absurd rfl (hv.2 _)
      | (simp only [store, Sem.runT]
         cases w.cell? a with
         | some _ => rfl
         | none =>
           simp only []
           cases w.farStore P a _ (m == .atomic) with
           | ok x => cases x; rfl
           | error e => rfl)
  have hv : (∀ x, v ≠ .agg x) ∧ (∀ x, v ≠ .tuple x) := by
    refine ⟨?_, ?_⟩ <;> rintro x rfl <;> simp [store, Sem.run] at h
  rw [← Sem.runT_fst P _ u es, key hv] at h
  rw [key hv]
  cases hc : u.cell? a with
  | none =>
    rw [hc] at h
    cases hx : u.farStore P a v (m == .atomic) with
    | error x => rw [hx] at h; simp at h
    | ok r' =>
      rw [hx] at h
      obtain ⟨u1, l⟩ := r'
      simp only [Result.ok.injEq] at h
      obtain ⟨_, rfl⟩ := h
      obtain ⟨hb, w', hw, p', f', hl⟩ := hp.farStore hx
      refine ⟨w', l.toArray.map (⟨.cell ·, true, m == .atomic⟩), ?_, p', f', fun e he => ?_⟩
      · have : w.cell? a = none := by rw [← hp.nocell hb, hc]
        simp only [this, hw]
      · obtain ⟨x, hx, rfl⟩ := Array.mem_map.1 he
        exact hl x (by simpa using hx)
  | some v' =>
    rw [hc] at h
    obtain ⟨hb, hw, hs⟩ := hp.cell hc
    have hf : w.frozen? a = u.frozen? a := by simp only [World.frozen?, hp.heap _ hb]
    cases hz : u.frozen? a with
    | true => rw [hz] at h; simp at h
    | false =>
      rw [hz] at h
      simp only [Bool.false_eq_true, if_false, Result.ok.injEq] at h
      obtain ⟨_, rfl⟩ := h
      obtain ⟨c, t, f, hcell⟩ := cell_row hw
      have hcu : u.heap[a.block]? = some (.cells c t f) := by rw [hp.heap _ hb]; exact hcell
      refine ⟨w.setCell a v, #[⟨.cell a, true, m == .atomic⟩], ?_, ?_, ?_, fun e he => ?_⟩
      · simp only [hw, hf, hz, Bool.false_eq_true, if_false, append_one]
      · rw [setCell_row hcell, setCell_row hcu]
        exact hp.setRow hb (by simp)
      · rw [setCell_row hcell, setCell_row hcu]
        exact Fr.setRow hb (by intros; rw [hcell]; simp)
      · simp only [List.mem_toArray, List.mem_cons, List.not_mem_nil, or_false] at he
        subst he
        exact ⟨by simpa [World.setCell] using hs, hb⟩⟩

theorem Ps.notF {w u : World} (hp : Ps P σ H w u) : ¬ σ.F w.heap.size := by
  intro h
  obtain ⟨c, hc⟩ := hp.real _ h
  simp at hc

theorem mild_newObj (o : Obj) (ho : ∀ c t, o ≠ .pending c t) : Mild P σ (newObj o) := ⟨fun H w u r u' es hp h _ => by
  simp only [newObj, Sem.run, Result.ok.injEq] at h
  obtain ⟨rfl, rfl⟩ := h
  refine ⟨{ w with heap := w.heap.push o }, #[], ?_, ?_, ⟨fun b hb => ?_, fun b cap buf cl s r t _ hc => ?_, rfl, rfl, ⟨0, rfl, rfl⟩, by simp, rfl, rfl⟩, by simp⟩
  · simp only [newObj, Sem.runT, hp.size, Array.append_empty]
  · refine ⟨fun b hf => ?_, fun b hf => ?_, fun b hf => ?_, by simp [hp.size], hp.os, hp.output, hp.ahead, fun b a t => ?_⟩
    · simp only [Array.getElem?_push, hp.size, hp.heap b hf]
    · have : b ≠ u.heap.size := by rw [hp.size]; exact fun e => hp.notF (e ▸ hf)
      simp only [Array.getElem?_push, this, if_false]
      exact hp.bad b hf
    · have : b ≠ w.heap.size := fun e => hp.notF (e ▸ hf)
      simp only [Array.getElem?_push, this, if_false]
      exact hp.real b hf
    · simp only [Array.getElem?_push]
      split
      · intro e; exact absurd (Option.some.inj e) (ho _ _)
      · exact hp.pend b a t
  · have : b ≠ w.heap.size := fun e => hp.notF (e ▸ hb)
    simp only [Array.getElem?_push, this, if_false]
  · have : b ≠ w.heap.size := fun e => by rw [e] at hc; simp at hc
    simp only [Array.getElem?_push, this, if_false]
    exact hc⟩
instance mild_newCells (c : Array Value) (e : TypeId) (f : Nat × Nat) : Mild P σ (newObj (.cells c e f)) := mild_newObj _ (by simp)
instance mild_newMap (c : Array MapEntry) (n : Nat) : Mild P σ (newObj (.map c n)) := mild_newObj _ (by simp)
instance mild_newChan (n : Nat) (b : Array Value) (c : Bool) (s r : Nat) (t : Bool) : Mild P σ (newObj (.chan n b c s r t)) := mild_newObj _ (by simp)
instance mild_newIter (m : Option Nat) (s : Nat) (x : Array Nat) (y : Nat) : Mild P σ (newObj (.mapIter m s x y)) := mild_newObj _ (by simp)

instance mild_getObj (r : Nat) : Mild P σ (getObj r) := ⟨fun H w u o u' es hp h _ => by
  simp only [getObj, Sem.run] at h
  by_cases hb : σ.F r
  · rw [hp.bad r hb] at h; simp at h
  · rw [hp.heap r hb] at h
    cases e : w.heap[r]? with
    | none => rw [e] at h; simp at h
    | some o' =>
      rw [e] at h
      have hs := (Array.getElem?_eq_some_iff.1 e).1
      refine ⟨w, #[⟨.obj r, false, o'.isChan⟩], ?_, ?_, ?_, fun e he => ?_⟩
      · cases o' <;> simp only [Result.ok.injEq, reduceCtorEq] at h <;> (obtain ⟨rfl, rfl⟩ := h; simp only [getObj, Sem.runT, e, append_one])
      · cases o' <;> simp only [Result.ok.injEq, reduceCtorEq] at h <;> (obtain ⟨rfl, rfl⟩ := h; exact hp)
      · cases o' <;> simp only [Result.ok.injEq, reduceCtorEq] at h <;> (obtain ⟨rfl, rfl⟩ := h; exact Fr.refl _ _)
      · simp only [List.mem_toArray, List.mem_cons, List.not_mem_nil, or_false] at he
        subst he
        exact ⟨hs, hb⟩⟩

theorem mild_setObj [nc : NoC σ] (r : Nat) (o : Obj) (ho : ∀ c t, o ≠ .pending c t) : Mild P σ (setObj r o) := ⟨fun H w u x u' es hp h _ => by
  simp only [setObj, Sem.run] at h
  by_cases hb : σ.F r
  · rw [hp.bad r hb] at h; simp at h
  · rw [hp.heap r hb] at h
    cases e : w.heap[r]? with
    | none => rw [e] at h; simp at h
    | some o' =>
      rw [e] at h
      have hs := (Array.getElem?_eq_some_iff.1 e).1
      have hu : u' = { u with heap := u.heap.setIfInBounds r o } := by
        cases o' <;> simp only [Result.ok.injEq, reduceCtorEq, true_and] at h <;> exact h.symm
      have ht : (setObj r o).runT P w es = (.ok x { w with heap := w.heap.setIfInBounds r o }, es.push ⟨.obj r, true, o.isChan⟩) := by
        cases o' <;> simp only [reduceCtorEq] at h <;> simp only [setObj, Sem.runT, e]
      subst hu
      refine ⟨{ w with heap := w.heap.setIfInBounds r o }, #[⟨.obj r, true, o.isChan⟩], by rw [ht, append_one], hp.setRow hb ho, Fr.setRow hb (fun _ _ _ _ _ _ hC => absurd hC (nc.no r)), fun e he => ?_⟩
      simp only [List.mem_toArray, List.mem_cons, List.not_mem_nil, or_false] at he
      subst he
      exact ⟨by simpa using hs, hb⟩⟩
instance mild_setMap [NoC σ] (r : Nat) (c : Array MapEntry) (n : Nat) : Mild P σ (setObj r (.map c n)) := mild_setObj _ _ (by simp)
instance mild_setIter [NoC σ] (r : Nat) (m : Option Nat) (s : Nat) (x : Array Nat) (y : Nat) : Mild P σ (setObj r (.mapIter m s x y)) := mild_setObj _ _ (by simp)

instance mild_choose (q : Question) : Mild P σ (choose q) := ⟨fun H w u r u' es hp h hd => by
  simp only [choose, Sem.run] at h
  by_cases hq : q.forced = true
  · rw [if_pos hq] at h
    simp only [Result.ok.injEq] at h
    obtain ⟨rfl, rfl⟩ := h
    exact ⟨w, #[], by simp only [choose, Sem.runT, if_pos hq, Array.append_empty], hp, Fr.refl _ _, by simp⟩
  · rw [if_neg hq] at h
    simp only [Result.ok.injEq] at h
    obtain ⟨rfl, rfl⟩ := h
    have e0 := hp.ahead 0 q hd
    simp only [Nat.add_zero] at e0
    refine ⟨{ w with drawn := w.drawn + 1 }, #[], by simp only [choose, Sem.runT, if_neg hq, e0, Array.append_empty], ⟨hp.heap, hp.bad, hp.real, hp.size, hp.os, hp.output, fun j q' hj => ?_, hp.pend⟩, ⟨fun _ _ => rfl, fun _ _ _ _ _ _ _ _ hc => hc, rfl, rfl, ⟨1, rfl, rfl⟩, Nat.le_refl _, rfl, rfl⟩, by simp⟩
    have := hp.ahead (1 + j) q' (by dsimp only at hj; omega)
    simpa [Nat.add_assoc] using this⟩

instance mild_program : Mild P σ program := ⟨fun H w u r u' es hp h _ => by
  simp only [program, Sem.run, Result.ok.injEq] at h
  obtain ⟨rfl, rfl⟩ := h
  exact ⟨w, #[], by simp only [program, Sem.runT, Array.append_empty], hp, Fr.refl _ _, by simp⟩⟩

theorem mild_mark (m : Mark) (hm : m = .noRoom ∨ ∃ f, m = .extern f) : Mild P σ (mark m) := ⟨fun H w u r u' es hp h _ => by
  simp only [mark, Sem.run, Result.ok.injEq] at h
  obtain ⟨_, rfl⟩ := h
  refine ⟨w, #[⟨.mark m, false, true⟩], by simp only [mark, Sem.runT, append_one], hp, Fr.refl _ _, fun e he => ?_⟩
  simp only [List.mem_toArray, List.mem_cons, List.not_mem_nil, or_false] at he
  subst he
  exact hm⟩
instance mild_markRoom : Mild P σ (mark .noRoom) := mild_mark _ (.inl rfl)
instance mild_markExtern (f : FuncId) : Mild P σ (mark (.extern f)) := mild_mark _ (.inr ⟨f, rfl⟩)
instance mild_askRoom (n : Nat) : Mild P σ (askRoom n) := by unfold askRoom; infer_instance

/-- The program at hand may be used. -/
theorem mild_withProgram (f : Program → Sem β) (h : Mild P σ (f P)) : Mild P σ (program >>= f) := have := halts_withProgram f h.toHalts; ⟨fun H w u b u' es hp hr hd => h.sim H w u b u' es hp hr hd⟩

/-- A block's kind is asked: what follows must not look at a size. -/
theorem mild_shape (r : Nat) (f : Option (TypeId × Nat) → Sem β) (h0 : ∀ s, Mild P σ (f s)) (h1 : ∀ e n m, f (some (e, n)) = f (some (e, m))) : Mild P σ (shape r >>= f) := have := fun s => (h0 s).toHalts; ⟨fun H w u b u' es hp hr hd => by
  by_cases hb : σ.F r
  · obtain ⟨c, hc⟩ := hp.real r hb
    have e1 : u.shape? r = some (σ.ty r, 0) := by simp [World.shape?, hp.bad r hb]
    have e2 : w.shape? r = some (σ.ty r, c.size) := by simp [World.shape?, hc]
    have hr' : (f (some (σ.ty r, c.size))).run P u = .ok b u' := by
      rw [h1 (σ.ty r) c.size 0, ← e1]; exact hr
    obtain ⟨w', es', k⟩ := (h0 _).sim H w u b u' es hp hr' hd
    refine ⟨w', es', ?_, k.2⟩
    show (f (w.shape? r)).runT P w es = _
    rw [e2]; exact k.1
  · have e1 : u.shape? r = w.shape? r := by simp only [World.shape?, hp.heap r hb]
    obtain ⟨w', es', k⟩ := (h0 (w.shape? r)).sim H w u b u' es hp (by rw [← e1]; exact hr) hd
    exact ⟨w', es', k.1, k.2⟩⟩

instance mild_frozen (a : Addr) : Mild P σ (frozen a) := ⟨fun H w u r u' es hp h _ => by
  simp only [frozen, Sem.run, Result.ok.injEq] at h
  obtain ⟨rfl, rfl⟩ := h
  refine ⟨w, #[], ?_, hp, Fr.refl _ _, by simp⟩
  have : w.frozen? a = u.frozen? a := by
    by_cases hb : σ.F a.block
    · obtain ⟨c, hc⟩ := hp.real _ hb
      simp [World.frozen?, hc, hp.bad _ hb]
    · simp only [World.frozen?, hp.heap _ hb]
  simp only [frozen, Sem.runT, this, Array.append_empty]⟩
end
end Go.Proofs.Ytdedmmjmiakidaa
/- Plain words: which operations are mild (see ConA): loads, stores, arithmetic, comparisons, slices, maps, structs. No condition. -/
namespace Go.Proofs.Ytdedmmjmiakidaa
section
variable {P : Program} {σ : Poison} {H : Nat} {α β : Type}

instance mild_typeInfo (t : TypeId) : Mild P σ (typeInfo t) := by unfold typeInfo; (repeat' (first | infer_instance | (refine mild_bind _ _ (hx := ?_) (hf := fun _ => ?_)) | split | (intro _) | (dsimp only)))
instance mild_underlying (t : TypeId) : Mild P σ (underlying t) := by unfold underlying; (repeat' (first | infer_instance | (refine mild_bind _ _ (hx := ?_) (hf := fun _ => ?_)) | split | (intro _) | (dsimp only)))
instance mild_zeroValue (t : TypeId) : Mild P σ (zeroValue t) := by unfold zeroValue; (repeat' (first | infer_instance | (refine mild_bind _ _ (hx := ?_) (hf := fun _ => ?_)) | split | (intro _) | (dsimp only)))
instance mild_sizeOf (t : TypeId) : Mild P σ (sizeOf t) := by unfold sizeOf; (repeat' (first | infer_instance | (refine mild_bind _ _ (hx := ?_) (hf := fun _ => ?_)) | split | (intro _) | (dsimp only)))
instance mild_typeStr (t : TypeId) : Mild P σ (typeStr t) := by unfold typeStr; (repeat' (first | infer_instance | (refine mild_bind _ _ (hx := ?_) (hf := fun _ => ?_)) | split | (intro _) | (dsimp only)))
instance mild_isAgg (t : TypeId) : Mild P σ (isAgg t) := by unfold isAgg; (repeat' (first | infer_instance | (refine mild_bind _ _ (hx := ?_) (hf := fun _ => ?_)) | split | (intro _) | (dsimp only)))
instance mild_asIntOf (v : Value) : Mild P σ (asIntOf v) := by unfold asIntOf; (repeat' (first | infer_instance | (refine mild_bind _ _ (hx := ?_) (hf := fun _ => ?_)) | split | (intro _) | (dsimp only)))
instance mild_asInt (v : Value) : Mild P σ (asInt v) := by unfold asInt; (repeat' (first | infer_instance | (refine mild_bind _ _ (hx := ?_) (hf := fun _ => ?_)) | split | (intro _) | (dsimp only)))
instance mild_asBool (v : Value) : Mild P σ (asBool v) := by unfold asBool; (repeat' (first | infer_instance | (refine mild_bind _ _ (hx := ?_) (hf := fun _ => ?_)) | split | (intro _) | (dsimp only)))
instance mild_asAddr (v : Value) : Mild P σ (asAddr v : Sem Addr) := by unfold asAddr; (repeat' (first | infer_instance | (refine mild_bind _ _ (hx := ?_) (hf := fun _ => ?_)) | split | (intro _) | (dsimp only)))
instance mild_asAgg (v : Value) : Mild P σ (asAgg v) := by unfold asAgg; (repeat' (first | infer_instance | (refine mild_bind _ _ (hx := ?_) (hf := fun _ => ?_)) | split | (intro _) | (dsimp only)))
theorem mild_loadCellsFrom (a : Addr) : ∀ (n i : Nat) (acc : Array Value), Mild P σ (loadCellsFrom a i n acc)
  | 0, _, _ => by unfold loadCellsFrom; infer_instance
  | n + 1, i, acc => by
    unfold loadCellsFrom
    have := fun v => mild_loadCellsFrom a n (i + 1) (acc.push v)
    infer_instance
instance mild_loadCells (a : Addr) (n : Nat) : Mild P σ (loadCells a n) := mild_loadCellsFrom a n 0 #[]
theorem mild_storeCells' (a : Addr) : ∀ (vs : List Value) (i : Nat), Mild P σ (storeCells a vs i)
  | [], _ => by unfold storeCells; infer_instance
  | v :: rest, i => by
    unfold storeCells
    have := mild_storeCells' a rest (i + 1)
    infer_instance
instance mild_storeCells (a : Addr) (vs : List Value) (i : Nat) : Mild P σ (storeCells a vs i) := mild_storeCells' a vs i
instance mild_loadVar (t : TypeId) (a : Addr) : Mild P σ (loadVar t a) := by unfold loadVar; (repeat' (first | infer_instance | (refine mild_bind _ _ (hx := ?_) (hf := fun _ => ?_)) | split | (intro _) | (dsimp only)))
instance mild_storeVar (t : TypeId) (a : Addr) (v : Value) : Mild P σ (storeVar t a v) := by unfold storeVar; (repeat' (first | infer_instance | (refine mild_bind _ _ (hx := ?_) (hf := fun _ => ?_)) | split | (intro _) | (dsimp only)))
instance mild_newRow (t : TypeId) (v : Array Value) : Mild P σ (newRow t v) := by unfold newRow; (repeat' (first | infer_instance | (refine mild_bind _ _ (hx := ?_) (hf := fun _ => ?_)) | split | (intro _) | (dsimp only)))
instance mild_newVar (t : TypeId) (v : Value) : Mild P σ (newVar t v) := by unfold newVar; (repeat' (first | infer_instance | (refine mild_bind _ _ (hx := ?_) (hf := fun _ => ?_)) | split | (intro _) | (dsimp only)))
instance mild_elemOf (t : TypeId) : Mild P σ (elemOf t) := by unfold elemOf; (repeat' (first | infer_instance | (refine mild_bind _ _ (hx := ?_) (hf := fun _ => ?_)) | split | (intro _) | (dsimp only)))
instance mild_part (t : TypeId) (cs : Array Value) (off : Nat) : Mild P σ (part t cs off) := by unfold part; (repeat' (first | infer_instance | (refine mild_bind _ _ (hx := ?_) (hf := fun _ => ?_)) | split | (intro _) | (dsimp only)))
instance mild_runtimePanic (e : RuntimeError) : Mild P σ (runtimePanic e : Sem α) := by unfold runtimePanic; (repeat' (first | infer_instance | (refine mild_bind _ _ (hx := ?_) (hf := fun _ => ?_)) | split | (intro _) | (dsimp only)))
instance mild_boundsPanic (k : IntKind) (x y : Int) (c : BoundsCode) : Mild P σ (boundsPanic k x y c : Sem α) := by unfold boundsPanic; (repeat' (first | infer_instance | (refine mild_bind _ _ (hx := ?_) (hf := fun _ => ?_)) | split | (intro _) | (dsimp only)))

instance mild_viewAt (r : Nat) : Mild P σ (viewAt r) := by
  unfold viewAt
  exact mild_shape r _ (fun s => by (repeat' (first | infer_instance | (refine mild_bind _ _ (hx := ?_) (hf := fun _ => ?_)) | split | (intro _) | (dsimp only)))) (fun e n m => rfl)
instance mild_numberAt (r : Nat) : Mild P σ (numberAt r) := by
  unfold numberAt
  exact mild_shape r _ (fun s => by (repeat' (first | infer_instance | (refine mild_bind _ _ (hx := ?_) (hf := fun _ => ?_)) | split | (intro _) | (dsimp only)))) (fun e n m => rfl)
instance mild_noView (a : Addr) : Mild P σ (noView a) := by unfold noView; (repeat' (first | infer_instance | (refine mild_bind _ _ (hx := ?_) (hf := fun _ => ?_)) | split | (intro _) | (dsimp only)))
instance mild_behindNumber (a : Addr) : Mild P σ (behindNumber a) := by unfold behindNumber; (repeat' (first | infer_instance | (refine mild_bind _ _ (hx := ?_) (hf := fun _ => ?_)) | split | (intro _) | (dsimp only)))
instance mild_asNumber (a : Addr) (b : Bool) : Mild P σ (asNumber a b) := by
  have : Mild P σ (newObj (.number a b)) := mild_newObj _ (by simp)
  unfold asNumber
  (repeat' (first | infer_instance | (refine mild_bind _ _ (hx := ?_) (hf := fun _ => ?_)) | split | (intro _) | (dsimp only)))
instance mild_byteOf (a : Addr) : Mild P σ (byteOf a) := by
  unfold byteOf
  split
  · infer_instance
  · refine mild_bind _ _ (hx := inferInstance) (hf := fun p => ?_)
    refine mild_bind _ _ (hx := inferInstance) (hf := fun _ => ?_)
    exact mild_shape _ _ (fun s => by (repeat' (first | infer_instance | (refine mild_bind _ _ (hx := ?_) (hf := fun _ => ?_)) | split | (intro _) | (dsimp only)))) (fun e n m => rfl)
instance mild_partAt (a : Addr) (c b : Nat) : Mild P σ (partAt a c b) := by unfold partAt; (repeat' (first | infer_instance | (refine mild_bind _ _ (hx := ?_) (hf := fun _ => ?_)) | split | (intro _) | (dsimp only)))
instance mild_fieldPlace (a : Addr) (f : Field) : Mild P σ (fieldPlace a f) := by unfold fieldPlace; (repeat' (first | infer_instance | (refine mild_bind _ _ (hx := ?_) (hf := fun _ => ?_)) | split | (intro _) | (dsimp only)))
instance mild_sureAddr (v : Value) : Mild P σ (Instr.sureAddr v) := by unfold Instr.sureAddr; (repeat' (first | infer_instance | (refine mild_bind _ _ (hx := ?_) (hf := fun _ => ?_)) | split | (intro _) | (dsimp only)))
instance mild_loadAt (t : TypeId) (v : Value) : Mild P σ (Instr.loadAt t v) := by unfold Instr.loadAt; (repeat' (first | infer_instance | (refine mild_bind _ _ (hx := ?_) (hf := fun _ => ?_)) | split | (intro _) | (dsimp only)))
instance mild_storeAt (t : TypeId) (v x : Value) : Mild P σ (Instr.storeAt t v x) := by unfold Instr.storeAt; (repeat' (first | infer_instance | (refine mild_bind _ _ (hx := ?_) (hf := fun _ => ?_)) | split | (intro _) | (dsimp only)))
instance mild_fieldAt (t : TypeId) (v : Value) (f : Nat) : Mild P σ (Instr.fieldAt t v f) := by unfold Instr.fieldAt; (repeat' (first | infer_instance | (refine mild_bind _ _ (hx := ?_) (hf := fun _ => ?_)) | split | (intro _) | (dsimp only)))
instance mild_indexAt (t : TypeId) (v x : Value) : Mild P σ (Instr.indexAt t v x) := by unfold Instr.indexAt; (repeat' (first | infer_instance | (refine mild_bind _ _ (hx := ?_) (hf := fun _ => ?_)) | split | (intro _) | (dsimp only)))
instance mild_sliceBound (x : Value) (y : Nat) (c : BoundsCode) : Mild P σ (Instr.sliceBound x y c) := by unfold Instr.sliceBound; (repeat' (first | infer_instance | (refine mild_bind _ _ (hx := ?_) (hf := fun _ => ?_)) | split | (intro _) | (dsimp only)))
instance mild_sliceBounds (b : Bool) (l c : Nat) (x y z : Option Value) : Mild P σ (Instr.sliceBounds b l c x y z) := by unfold Instr.sliceBounds; (repeat' (first | infer_instance | (refine mild_bind _ _ (hx := ?_) (hf := fun _ => ?_)) | split | (intro _) | (dsimp only)))
instance mild_slice (t : TypeId) (v : Value) (x y z : Option Value) : Mild P σ (Instr.slice t v x y z) := by unfold Instr.slice; (repeat' (first | infer_instance | (refine mild_bind _ _ (hx := ?_) (hf := fun _ => ?_)) | split | (intro _) | (dsimp only)))
instance mild_sliceAt (t : TypeId) (v : Value) (x y z : Option Value) : Mild P σ (Instr.sliceAt t v x y z) := by unfold Instr.sliceAt; (repeat' (first | infer_instance | (refine mild_bind _ _ (hx := ?_) (hf := fun _ => ?_)) | split | (intro _) | (dsimp only)))
instance mild_field (t : TypeId) (v : Value) (f : Nat) : Mild P σ (Instr.field t v f) := by unfold Instr.field; (repeat' (first | infer_instance | (refine mild_bind _ _ (hx := ?_) (hf := fun _ => ?_)) | split | (intro _) | (dsimp only)))
instance mild_index (t : TypeId) (v x : Value) : Mild P σ (Instr.index t v x) := by unfold Instr.index; (repeat' (first | infer_instance | (refine mild_bind _ _ (hx := ?_) (hf := fun _ => ?_)) | split | (intro _) | (dsimp only)))
instance mild_alloc (t : TypeId) (b : Bool) (v : Value) : Mild P σ (Instr.alloc t b v) := by unfold Instr.alloc; (repeat' (first | infer_instance | (refine mild_bind _ _ (hx := ?_) (hf := fun _ => ?_)) | split | (intro _) | (dsimp only)))
instance mild_box (t : TypeId) (v : Value) : Mild P σ (Instr.box t v) := by unfold Instr.box; (repeat' (first | infer_instance | (refine mild_bind _ _ (hx := ?_) (hf := fun _ => ?_)) | split | (intro _) | (dsimp only)))
instance mild_extract (v : Value) (i : Nat) : Mild P σ (Instr.extract v i) := by unfold Instr.extract; (repeat' (first | infer_instance | (refine mild_bind _ _ (hx := ?_) (hf := fun _ => ?_)) | split | (intro _) | (dsimp only)))
instance mild_makeInterface (t : TypeId) (v : Value) : Mild P σ (Instr.makeInterface t v) := by unfold Instr.makeInterface; (repeat' (first | infer_instance | (refine mild_bind _ _ (hx := ?_) (hf := fun _ => ?_)) | split | (intro _) | (dsimp only)))
instance mild_makeFunc (f : Fn) (x y : Array Value) : Mild P σ (Instr.makeFunc f x y) := by unfold Instr.makeFunc; (repeat' (first | infer_instance | (refine mild_bind _ _ (hx := ?_) (hf := fun _ => ?_)) | split | (intro _) | (dsimp only)))
instance mild_makeMap (t : TypeId) (v : Option Value) : Mild P σ (Instr.makeMap t v) := by unfold Instr.makeMap; (repeat' (first | infer_instance | (refine mild_bind _ _ (hx := ?_) (hf := fun _ => ?_)) | split | (intro _) | (dsimp only)))
instance mild_makeSlice (t : TypeId) (v x : Value) : Mild P σ (Instr.makeSlice t v x) := by unfold Instr.makeSlice; (repeat' (first | infer_instance | (refine mild_bind _ _ (hx := ?_) (hf := fun _ => ?_)) | split | (intro _) | (dsimp only)))
instance mild_makeChan (t : TypeId) (v : Value) : Mild P σ (Instr.makeChan t v) := by unfold Instr.makeChan; (repeat' (first | infer_instance | (refine mild_bind _ _ (hx := ?_) (hf := fun _ => ?_)) | split | (intro _) | (dsimp only)))
theorem mild_mapM_list (f : α → Sem β) (h : ∀ a, Mild P σ (f a)) : ∀ l : List α, Mild P σ (l.mapM f)
  | [] => by simp only [List.mapM_nil]; infer_instance
  | a :: l => by
    have := mild_mapM_list f h l
    simp only [List.mapM_cons]
    infer_instance
instance mild_mapM (f : α → Sem β) [h : ∀ a, Mild P σ (f a)] (l : Array α) : Mild P σ (l.mapM f) := by
  rw [Array.mapM_eq_mapM_toList]
  have := mild_mapM_list f h l.toList
  infer_instance
instance mild_build (t : TypeId) (x : Array (Nat × Value)) : Mild P σ (Instr.build t x) := by unfold Instr.build; (repeat' (first | infer_instance | (refine mild_bind _ _ (hx := ?_) (hf := fun _ => ?_)) | split | (intro _) | (dsimp only)))
instance mild_buildSlice (t : TypeId) (n : Nat) (x : Array (Nat × Value)) : Mild P σ (Instr.buildSlice t n x) := by unfold Instr.buildSlice; (repeat' (first | infer_instance | (refine mild_bind _ _ (hx := ?_) (hf := fun _ => ?_)) | split | (intro _) | (dsimp only)))
theorem mild_forIn_list {τ : Type} (f : α → τ → Sem (ForInStep τ)) (h : ∀ a s, Mild P σ (f a s)) : ∀ (l : List α) (s : τ), Mild P σ (forIn l s f)
  | [], s => by simp only [List.forIn_nil]; infer_instance
  | a :: l, s => by
    have := mild_forIn_list f h l
    simp only [List.forIn_cons]
    (repeat' (first | infer_instance | (refine mild_bind _ _ (hx := ?_) (hf := fun _ => ?_)) | split | (intro _) | (dsimp only)))
instance mild_forIn_array {τ : Type} (f : α → τ → Sem (ForInStep τ)) [h : ∀ a s, Mild P σ (f a s)] (l : Array α) (s : τ) : Mild P σ (forIn l s f) := by
  rw [← Array.forIn_toList]
  exact mild_forIn_list f h l.toList s
instance mild_forIn_range {τ : Type} (f : Nat → τ → Sem (ForInStep τ)) [h : ∀ a s, Mild P σ (f a s)] (l : Std.Legacy.Range) (s : τ) : Mild P σ (forIn l s f) := by
  rw [Std.Legacy.Range.forIn_eq_forIn_range']
  exact mild_forIn_list f h _ s
theorem mild_checkKey : ∀ (n : Nat) (b : Bool) (t : TypeId) (v : Value), Mild P σ (Instr.checkKey b n t v)
  | 0, b, t, v => by unfold Instr.checkKey; infer_instance
  | n + 1, b, t, v => by
    have := mild_checkKey n
    unfold Instr.checkKey
    (repeat' (first | infer_instance | (refine mild_bind _ _ (hx := ?_) (hf := fun _ => ?_)) | split | (intro _) | (dsimp only)))
instance mild_checkKey' (n : Nat) (b : Bool) (t : TypeId) (v : Value) : Mild P σ (Instr.checkKey b n t v) := mild_checkKey n b t v

/-! ### comparison -/
theorem mild_of_query (s : Sem α) (val : World → α) (hr : ∀ w es, s.runT P w es = (.ok (val w) w, es)) (he : ∀ H w u, Ps P σ H w u → val u = val w) : Mild P σ s := have : Halts P s := ⟨fun w x w' h => by rw [← Sem.runT_fst P s w #[], hr] at h; simp at h⟩; ⟨fun H w u a u' es hp h _ => by
  have h1 : s.run P u = .ok (val u) u := by rw [← Sem.runT_fst P s u #[], hr]
  rw [h1] at h
  simp only [Result.ok.injEq] at h
  obtain ⟨rfl, rfl⟩ := h
  exact ⟨w, #[], by rw [hr, he H w u hp, Array.append_empty], hp, Fr.refl _ _, by simp⟩⟩
def strOf (w : World) (a : Addr) : Bool := if w.frozen? a then true else (match w.shape? a.block with | some (_, n) => w.frozen? { block := a.block, off := n } | none => false)
def noneOf (w : World) (a : Addr) : Bool := (w.shape? a.block) matches some (_, 0)
theorem runT_stringish (a : Addr) (w : World) (es : Array Event) : (stringish a).runT P w es = (.ok (strOf w a) w, es) := by
  unfold stringish strOf
  show ((frozen a).bind _).runT P w es = _
  rw [Sem.runT_bind']
  simp only [frozen, Sem.runT]
  cases h : w.frozen? a with
  | true => simp only [if_true]; rfl
  | false =>
    simp only [Bool.false_eq_true, if_false]
    show ((shape a.block).bind _).runT P w es = _
    rw [Sem.runT_bind']
    simp only [shape, Sem.runT]
    cases w.shape? a.block with
    | none => rfl
    | some x => rfl
theorem strOf_eq {w u : World} (hp : Ps P σ H w u) (a : Addr) : strOf u a = strOf w a := by
  by_cases hb : σ.F a.block
  · obtain ⟨c, hc⟩ := hp.real _ hb
    simp [strOf, World.frozen?, World.shape?, hc, hp.bad _ hb]
  · simp only [strOf, World.frozen?, World.shape?, hp.heap _ hb]
    rfl
theorem strOf_F {w u : World} (hp : Ps P σ H w u) {a : Addr} (hb : σ.F a.block) : strOf w a = false := by
  obtain ⟨c, hc⟩ := hp.real _ hb
  simp [strOf, World.frozen?, World.shape?, hc]
theorem noneOf_eq {w u : World} (hp : Ps P σ H w u) {a : Addr} (hb : ¬ σ.F a.block) : noneOf u a = noneOf w a := by
  simp only [noneOf, World.shape?, hp.heap _ hb]
instance mild_mayBeOne (a b : Addr) : Mild P σ (mayBeOne a b) := by
  refine mild_of_query _ (fun w => (strOf w a && strOf w b) || (strOf w a && noneOf w a) || (strOf w b && noneOf w b)) (fun w es => ?_) (fun H w u hp => ?_)
  · unfold mayBeOne
    show ((stringish a).bind _).runT P w es = _
    rw [Sem.runT_bind', runT_stringish]
    show ((stringish b).bind _).runT P w es = _
    rw [Sem.runT_bind', runT_stringish]
    rfl
  · simp only [strOf_eq hp]
    by_cases ha : σ.F a.block <;> by_cases hb : σ.F b.block
    · simp [strOf_F hp ha, strOf_F hp hb]
    · simp [strOf_F hp ha, noneOf_eq hp hb]
    · simp [strOf_F hp hb, noneOf_eq hp ha]
    · simp [noneOf_eq hp ha, noneOf_eq hp hb]
instance mild_sameAddr (a b : Addr) : Mild P σ (sameAddr a b) := by unfold sameAddr; (repeat' (first | infer_instance | (refine mild_bind _ _ (hx := ?_) (hf := fun _ => ?_)) | split | (intro _) | (dsimp only)))
instance mild_samePointer (a b : Option Addr) : Mild P σ (samePointer a b) := by unfold samePointer; (repeat' (first | infer_instance | (refine mild_bind _ _ (hx := ?_) (hf := fun _ => ?_)) | split | (intro _) | (dsimp only)))
theorem mild_equalIn : ∀ (n : Nat) (t : TypeId) (x y : Value), Mild P σ (Op.equalIn n t x y)
  | 0, t, x, y => by unfold Op.equalIn; infer_instance
  | n + 1, t, x, y => by
    have := mild_equalIn n
    unfold Op.equalIn
    (repeat' (first | infer_instance | (refine mild_bind _ _ (hx := ?_) (hf := fun _ => ?_)) | split | (intro _) | (dsimp only)))
instance mild_equal (t : TypeId) (x y : Value) : Mild P σ (Op.equal t x y) := mild_equalIn _ t x y
theorem mild_eqGuardIn : ∀ (n : Nat) (t : TypeId) (x y : Value), Mild P σ (Op.eqGuardIn n t x y)
  | 0, t, x, y => by unfold Op.eqGuardIn; infer_instance
  | n + 1, t, x, y => by
    have := mild_eqGuardIn n
    unfold Op.eqGuardIn
    (repeat' (first | infer_instance | (refine mild_bind _ _ (hx := ?_) (hf := fun _ => ?_)) | split | (intro _) | (dsimp only)))
instance mild_eqGuardIn' (n : Nat) (t : TypeId) (x y : Value) : Mild P σ (Op.eqGuardIn n t x y) := mild_eqGuardIn n t x y
instance mild_eqGuard (op : BinOp) (t : TypeId) (x y : Operand) (a b : Value) : Mild P σ (eqGuard op t x y a b) := by unfold eqGuard; (repeat' (first | infer_instance | (refine mild_bind _ _ (hx := ?_) (hf := fun _ => ?_)) | split | (intro _) | (dsimp only)))

/-! ### arithmetic -/
instance mild_intArith (op : BinOp) (k : IntKind) (x y : Int) : Mild P σ (Op.intArith op k x y) := by unfold Op.intArith; (repeat' (first | infer_instance | (refine mild_bind _ _ (hx := ?_) (hf := fun _ => ?_)) | split | (intro _) | (dsimp only)))
instance mild_intDiv (op : BinOp) (k : IntKind) (x y : Int) : Mild P σ (Op.intDiv op k x y) := by unfold Op.intDiv; (repeat' (first | infer_instance | (refine mild_bind _ _ (hx := ?_) (hf := fun _ => ?_)) | split | (intro _) | (dsimp only)))
instance mild_intCmp (op : BinOp) (x y : Int) : Mild P σ (Op.intCmp op x y) := by unfold Op.intCmp; (repeat' (first | infer_instance | (refine mild_bind _ _ (hx := ?_) (hf := fun _ => ?_)) | split | (intro _) | (dsimp only)))
instance mild_intBits (op : BinOp) (k : IntKind) (x y : Int) : Mild P σ (Op.intBits op k x y) := by unfold Op.intBits; (repeat' (first | infer_instance | (refine mild_bind _ _ (hx := ?_) (hf := fun _ => ?_)) | split | (intro _) | (dsimp only)))
instance mild_shift (op : BinOp) (k : IntKind) (x : Int) (k' : IntKind) (y : Int) : Mild P σ (Op.shift op k x k' y) := by unfold Op.shift; (repeat' (first | infer_instance | (refine mild_bind _ _ (hx := ?_) (hf := fun _ => ?_)) | split | (intro _) | (dsimp only)))
instance mild_stringOp (op : BinOp) (x y : ByteArray) : Mild P σ (Op.stringOp op x y) := by unfold Op.stringOp; (repeat' (first | infer_instance | (refine mild_bind _ _ (hx := ?_) (hf := fun _ => ?_)) | split | (intro _) | (dsimp only)))
instance mild_floatArith (op : BinOp) (k : FloatKind) (x y : Nat) : Mild P σ (Op.floatArith op k x y) := by unfold Op.floatArith; (repeat' (first | infer_instance | (refine mild_bind _ _ (hx := ?_) (hf := fun _ => ?_)) | split | (intro _) | (dsimp only)))
instance mild_floatCmp (op : BinOp) (k : FloatKind) (x y : Nat) : Mild P σ (Op.floatCmp op k x y) := by unfold Op.floatCmp; (repeat' (first | infer_instance | (refine mild_bind _ _ (hx := ?_) (hf := fun _ => ?_)) | split | (intro _) | (dsimp only)))
instance mild_floatToFloat (k : FloatKind) (x : Nat) (d : FloatKind) : Mild P σ (Conv.floatToFloat k x d) := by unfold Conv.floatToFloat; (repeat' (first | infer_instance | (refine mild_bind _ _ (hx := ?_) (hf := fun _ => ?_)) | split | (intro _) | (dsimp only)))
instance mild_cArith (op : BinOp) (k : FloatKind) (x y : Nat) : Mild P σ (Op.Complex.arith op k x y) := by unfold Op.Complex.arith; (repeat' (first | infer_instance | (refine mild_bind _ _ (hx := ?_) (hf := fun _ => ?_)) | split | (intro _) | (dsimp only)))
instance mild_cCmp (op : BinOp) (k : FloatKind) (x y : Nat) : Mild P σ (Op.Complex.cmp op k x y) := by unfold Op.Complex.cmp; (repeat' (first | infer_instance | (refine mild_bind _ _ (hx := ?_) (hf := fun _ => ?_)) | split | (intro _) | (dsimp only)))
instance mild_cConv (k : FloatKind) (x : Nat) (d : FloatKind) : Mild P σ (Op.Complex.conv k x d) := by unfold Op.Complex.conv; (repeat' (first | infer_instance | (refine mild_bind _ _ (hx := ?_) (hf := fun _ => ?_)) | split | (intro _) | (dsimp only)))
instance mild_cAdd (x y : Nat) : Mild P σ (Op.Complex.add x y) := mild_cArith _ _ _ _
instance mild_cSub (x y : Nat) : Mild P σ (Op.Complex.sub x y) := mild_cArith _ _ _ _
instance mild_cMul (x y : Nat) : Mild P σ (Op.Complex.mul x y) := mild_cArith _ _ _ _
instance mild_cQuo (x y : Nat) : Mild P σ (Op.Complex.quo x y) := mild_cArith _ _ _ _
instance mild_cProduct (a b c d : Nat) : Mild P σ (Op.Complex.product a b c d) := by unfold Op.Complex.product; (repeat' (first | infer_instance | (refine mild_bind _ _ (hx := ?_) (hf := fun _ => ?_)) | split | (intro _) | (dsimp only)))
instance mild_cCorrected (s a b c d : Nat) : Mild P σ (Op.Complex.corrected s a b c d) := by unfold Op.Complex.corrected; (repeat' (first | infer_instance | (refine mild_bind _ _ (hx := ?_) (hf := fun _ => ?_)) | split | (intro _) | (dsimp only)))
instance mild_cQuotient (a b c d : Nat) : Mild P σ (Op.Complex.quotient a b c d) := by unfold Op.Complex.quotient; (repeat' (first | infer_instance | (refine mild_bind _ _ (hx := ?_) (hf := fun _ => ?_)) | split | (intro _) | (dsimp only)))
instance mild_complexOp (op : BinOp) (k : FloatKind) (a b c d : Nat) : Mild P σ (Op.complexOp op k a b c d) := by unfold Op.complexOp; (repeat' (first | infer_instance | (refine mild_bind _ _ (hx := ?_) (hf := fun _ => ?_)) | split | (intro _) | (dsimp only)))
instance mild_unary (op : UnOp) (x : Value) : Mild P σ (Op.unary op x) := by unfold Op.unary; (repeat' (first | infer_instance | (refine mild_bind _ _ (hx := ?_) (hf := fun _ => ?_)) | split | (intro _) | (dsimp only)))
instance mild_twoPlaces (a b : Addr) : Mild P σ (Op.twoPlaces a b) := by unfold Op.twoPlaces; (repeat' (first | infer_instance | (refine mild_bind _ _ (hx := ?_) (hf := fun _ => ?_)) | split | (intro _) | (dsimp only)))
instance mild_addrSub (k : IntKind) (a b : Addr) : Mild P σ (Op.addrSub k a b) := by unfold Op.addrSub; (repeat' (first | infer_instance | (refine mild_bind _ _ (hx := ?_) (hf := fun _ => ?_)) | split | (intro _) | (dsimp only)))
instance mild_addrCmp (op : BinOp) (a b : Addr) : Mild P σ (Op.addrCmp op a b) := by unfold Op.addrCmp; (repeat' (first | infer_instance | (refine mild_bind _ _ (hx := ?_) (hf := fun _ => ?_)) | split | (intro _) | (dsimp only)))
instance mild_addrMod (k : IntKind) (a : Addr) (n : Int) : Mild P σ (Op.addrMod k a n) := by
  unfold Op.addrMod
  exact mild_shape _ _ (fun s => by (repeat' (first | infer_instance | (refine mild_bind _ _ (hx := ?_) (hf := fun _ => ?_)) | split | (intro _) | (dsimp only)))) (fun e n m => rfl)

theorem mild_shape_stop (r : Nat) (f : Option (TypeId × Nat) → Sem β) (h0 : ∀ s, Mild P σ (f s)) (h1 : ∀ e u b u', (f (some (e, 0))).run P u ≠ .ok b u') : Mild P σ (shape r >>= f) := have := fun s => (h0 s).toHalts; ⟨fun H w u b u' es hp hr hd => by
  by_cases hb : σ.F r
  · have e1 : u.shape? r = some (σ.ty r, 0) := by simp [World.shape?, hp.bad r hb]
    have hr' : (f (some (σ.ty r, 0))).run P u = .ok b u' := by rw [← e1]; exact hr
    exact absurd hr' (h1 _ _ _ _)
  · have e1 : u.shape? r = w.shape? r := by simp only [World.shape?, hp.heap r hb]
    obtain ⟨w', es', k⟩ := (h0 (w.shape? r)).sim H w u b u' es hp (by rw [← e1]; exact hr) hd
    exact ⟨w', es', k.1, k.2⟩⟩
theorem cellAtBytes_none (p : Program) (d : Nat) (e : TypeId) (off : Nat) (n : Int) : cellAtBytes p d e 0 off n = none := by
  unfold cellAtBytes
  simp only [Nat.zero_mul]
  split
  · rfl
  · cases byteOfCell p d e (off % p.cellsOf e) with
    | none => rfl
    | some x =>
      simp
      intro h1 h2
      exact absurd h2 (Int.not_lt.2 h1)
instance mild_unsafeAdd (x : Array TypeId) (t : TypeId) (a : Array Value) : Mild P σ (Builtin.unsafeAdd_ x t a) := by
  unfold Builtin.unsafeAdd_
  rcases a with ⟨_ | ⟨x1, _ | ⟨x2, _ | ⟨x3, l⟩⟩⟩⟩
  · exact mild_stuck _
  · cases x1 <;> exact mild_stuck _
  · cases x1 with
    | pointer ptr =>
      dsimp only
      refine mild_bind _ _ (hx := inferInstance) (hf := fun n => ?_)
      have key : ∀ a : Addr, Mild P σ (do
          let some (e, cells) ← shape a.block | unsupported (.unsafePointer "Add")
          let p ← program
          match cellAtBytes p p.depth e (cells / p.cellsOf e) a.off n with
          | some off => pure (Value.pointer (some { a with off }))
          | none => unsupported (.unsafePointer "Add")) := fun a => by
        refine mild_shape_stop _ _ (fun s => by (repeat' (first | infer_instance | (refine mild_bind _ _ (hx := ?_) (hf := fun _ => ?_)) | split | (intro _) | (dsimp only)))) (fun e u b u' h => ?_)
        simp only [Nat.zero_div, cellAtBytes_none] at h
        simp [program, bind, Sem.bind, Sem.run, unsupported] at h
      have key2 : ∀ o : Option Addr, Mild P σ (match o with
          | some a => (do
            let some (e, cells) ← shape a.block | unsupported (.unsafePointer "Add")
            let p ← program
            match cellAtBytes p p.depth e (cells / p.cellsOf e) a.off n with
            | some off => pure (Value.pointer (some { a with off }))
            | none => unsupported (.unsafePointer "Add"))
          | x => unsupported (.unsafePointer "Add")) := fun o => by
        cases o with
        | none => infer_instance
        | some a => exact key a
      have k := key2 ptr
      repeat' (first | exact k | infer_instance | (refine mild_bind _ _ (hx := ?_) (hf := fun _ => ?_)) | split | (intro _) | (dsimp only))
    | _ => exact mild_stuck _
  · cases x1 <;> exact mild_stuck _
instance mild_movedNumber (t : TypeId) (x y : Value) : Mild P σ (movedNumber t x y) := by unfold movedNumber; (repeat' (first | infer_instance | (refine mild_bind _ _ (hx := ?_) (hf := fun _ => ?_)) | split | (intro _) | (dsimp only)))
instance mild_movedPointer (t : TypeId) (x y : Value) : Mild P σ (movedPointer t x y) := by unfold movedPointer; (repeat' (first | infer_instance | (refine mild_bind _ _ (hx := ?_) (hf := fun _ => ?_)) | split | (intro _) | (dsimp only)))
instance mild_binOp (op : BinOp) (t : TypeId) (x y : Value) : Mild P σ (binOp op t x y) := by unfold binOp; (repeat' (first | infer_instance | (refine mild_bind _ _ (hx := ?_) (hf := fun _ => ?_)) | split | (intro _) | (dsimp only)))

/-! ### conversions, maps, the built-in functions -/
theorem mild_known {t : TypeId} {d : TypeDesc} (h : P.underlying t = some d) (f : TypeDesc → Sem β) (hf : Mild P σ (f d)) : Mild P σ (underlying t >>= f) := have : Halts P (underlying t >>= f) := ⟨fun w x w' hr => by
    have e : ∀ w : World, (underlying t).run P w = .ok d w := fun w => by simp [underlying, program, bind, Sem.bind, Sem.run, h]
    rw [Sem.run_bind, e, Result.andThen_ok] at hr
    exact hf.halts _ _ _ hr⟩; ⟨fun H w u b u' es hp hr hd => by
  have e : ∀ w : World, (underlying t).run P w = .ok d w := fun w => by simp [underlying, program, bind, Sem.bind, Sem.run, h]
  have e2 : ∀ (w : World) (es : Array Event), (underlying t).runT P w es = (.ok d w, es) := fun w es => by
    simp only [underlying, program, bind, Sem.bind, Sem.runT, h]; rfl
  rw [Sem.run_bind, e, Result.andThen_ok] at hr
  obtain ⟨w', es', k⟩ := hf.sim H w u b u' es hp hr hd
  refine ⟨w', es', ?_, k.2⟩
  show ((underlying t).bind f).runT P w es = _
  rw [Sem.runT_bind', e2]
  exact k.1⟩
theorem mild_convInt {src dst : TypeId} {k k' : IntKind} (hs : P.underlying src = some (.int k)) (hd : P.underlying dst = some (.int k')) (x : Value) : Mild P σ (convert src dst x) := by
  have h2 : ∀ a b c, Mild P σ (Conv.floatToInt a b c) := fun a b c => by unfold Conv.floatToInt; (repeat' (first | infer_instance | (refine mild_bind _ _ (hx := ?_) (hf := fun _ => ?_)) | split | (intro _) | (dsimp only)))
  unfold convert
  refine mild_known hs _ (mild_known hd _ ?_)
  cases x with
  | pointer a => cases a <;> (dsimp only; infer_instance)
  | int k n => dsimp only; unfold Conv.intToInt; infer_instance
  | float k n => exact h2 _ _ _
  | _ => dsimp only; infer_instance
theorem mild_findAsking (t : TypeId) (k : Value) : ∀ (es : List MapEntry) (i : Nat), Mild P σ (Instr.findAsking t k es i)
  | [], i => by unfold Instr.findAsking; infer_instance
  | e :: es, i => by
    have := mild_findAsking t k es (i + 1)
    unfold Instr.findAsking
    (repeat' (first | infer_instance | (refine mild_bind _ _ (hx := ?_) (hf := fun _ => ?_)) | split | (intro _) | (dsimp only)))
instance mild_findAsking' (t : TypeId) (k : Value) (es : List MapEntry) (i : Nat) : Mild P σ (Instr.findAsking t k es i) := mild_findAsking t k es i
instance mild_findKey (t : TypeId) (k : Value) (es : List MapEntry) : Mild P σ (Instr.findKey t k es) := by unfold Instr.findKey; (repeat' (first | infer_instance | (refine mild_bind _ _ (hx := ?_) (hf := fun _ => ?_)) | split | (intro _) | (dsimp only)))
instance mild_keyThatStays (x y : Value) : Mild P σ (Instr.keyThatStays x y) := by unfold Instr.keyThatStays; (repeat' (first | infer_instance | (refine mild_bind _ _ (hx := ?_) (hf := fun _ => ?_)) | split | (intro _) | (dsimp only)))
instance mild_lookup (t : TypeId) (x y : Value) (b : Bool) : Mild P σ (Instr.lookup t x y b) := by unfold Instr.lookup; (repeat' (first | infer_instance | (refine mild_bind _ _ (hx := ?_) (hf := fun _ => ?_)) | split | (intro _) | (dsimp only)))
instance mild_mapUpdate [NoC σ] (t : TypeId) (x y z : Value) : Mild P σ (Instr.mapUpdate t x y z) := by unfold Instr.mapUpdate; (repeat' (first | infer_instance | (refine mild_bind _ _ (hx := ?_) (hf := fun _ => ?_)) | split | (intro _) | (dsimp only)))
instance mild_mapEntry [NoC σ] (t : TypeId) (x y : Value) : Mild P σ (Instr.mapEntry t x y) := by unfold Instr.mapEntry; (repeat' (first | infer_instance | (refine mild_bind _ _ (hx := ?_) (hf := fun _ => ?_)) | split | (intro _) | (dsimp only)))
instance mild_entryStore [NoC σ] (t : TypeId) (x y z : Value) : Mild P σ (Instr.entryStore t x y z) := by unfold Instr.entryStore; (repeat' (first | infer_instance | (refine mild_bind _ _ (hx := ?_) (hf := fun _ => ?_)) | split | (intro _) | (dsimp only)))
instance mild_typeAssert (x : Value) (t u : TypeId) (b : Bool) : Mild P σ (Instr.typeAssert x t u b) := by unfold Instr.typeAssert; (repeat' (first | infer_instance | (refine mild_bind _ _ (hx := ?_) (hf := fun _ => ?_)) | split | (intro _) | (dsimp only)))
instance mild_len (x : Array TypeId) (t : TypeId) (a : Array Value) : Mild P σ (Builtin.len_ x t a) := by unfold Builtin.len_; (repeat' (first | infer_instance | (refine mild_bind _ _ (hx := ?_) (hf := fun _ => ?_)) | split | (intro _) | (dsimp only)))
instance mild_cap (x : Array TypeId) (t : TypeId) (a : Array Value) : Mild P σ (Builtin.cap_ x t a) := by unfold Builtin.cap_; (repeat' (first | infer_instance | (refine mild_bind _ _ (hx := ?_) (hf := fun _ => ?_)) | split | (intro _) | (dsimp only)))
instance mild_lenOf (v : Value) : Mild P σ (Builtin.lenOf v) := by unfold Builtin.lenOf; (repeat' (first | infer_instance | (refine mild_bind _ _ (hx := ?_) (hf := fun _ => ?_)) | split | (intro _) | (dsimp only)))
instance mild_firstCells (a b : Nat) (v : Value) : Mild P σ (Builtin.firstCells a b v) := by unfold Builtin.firstCells; (repeat' (first | infer_instance | (refine mild_bind _ _ (hx := ?_) (hf := fun _ => ?_)) | split | (intro _) | (dsimp only)))
instance mild_copy (x : Array TypeId) (t : TypeId) (a : Array Value) : Mild P σ (Builtin.copy_ x t a) := by unfold Builtin.copy_; (repeat' (first | infer_instance | (refine mild_bind _ _ (hx := ?_) (hf := fun _ => ?_)) | split | (intro _) | (dsimp only)))
instance mild_clear [NoC σ] (x : Array TypeId) (t : TypeId) (a : Array Value) : Mild P σ (Builtin.clear_ x t a) := by unfold Builtin.clear_; (repeat' (first | infer_instance | (refine mild_bind _ _ (hx := ?_) (hf := fun _ => ?_)) | split | (intro _) | (dsimp only)))
instance mild_delete [NoC σ] (x : Array TypeId) (t : TypeId) (a : Array Value) : Mild P σ (Builtin.delete_ x t a) := by unfold Builtin.delete_; (repeat' (first | infer_instance | (refine mild_bind _ _ (hx := ?_) (hf := fun _ => ?_)) | split | (intro _) | (dsimp only)))
theorem mild_foldlM (f : β → α → Sem β) (h : ∀ b a, Mild P σ (f b a)) : ∀ (l : List α) (b : β), Mild P σ (l.foldlM f b)
  | [], b => by simp only [List.foldlM_nil]; infer_instance
  | a :: l, b => by
    have := mild_foldlM f h l
    simp only [List.foldlM_cons]
    infer_instance
instance mild_foldlM' (f : β → α → Sem β) [h : ∀ b a, Mild P σ (f b a)] (l : List α) (b : β) : Mild P σ (l.foldlM f b) := mild_foldlM f h l b
instance mild_max2 (x y : Value) : Mild P σ (Builtin.max2 x y) := by unfold Builtin.max2; (repeat' (first | infer_instance | (refine mild_bind _ _ (hx := ?_) (hf := fun _ => ?_)) | split | (intro _) | (dsimp only)))
instance mild_max (x : Array TypeId) (t : TypeId) (a : Array Value) : Mild P σ (Builtin.max_ x t a) := by unfold Builtin.max_; (repeat' (first | infer_instance | (refine mild_bind _ _ (hx := ?_) (hf := fun _ => ?_)) | split | (intro _) | (dsimp only)))
instance mild_min2 (x y : Value) : Mild P σ (Builtin.min2 x y) := by unfold Builtin.min2; (repeat' (first | infer_instance | (refine mild_bind _ _ (hx := ?_) (hf := fun _ => ?_)) | split | (intro _) | (dsimp only)))
instance mild_min (x : Array TypeId) (t : TypeId) (a : Array Value) : Mild P σ (Builtin.min_ x t a) := by unfold Builtin.min_; (repeat' (first | infer_instance | (refine mild_bind _ _ (hx := ?_) (hf := fun _ => ?_)) | split | (intro _) | (dsimp only)))
theorem mild_bind_never (x : Sem α) (f : α → Sem β) [Halts P x] [∀ a, Halts P (f a)] (h : ∀ a w b w', (f a).run P w ≠ .ok b w') : Mild P σ (x >>= f) := ⟨fun H w u b u' es hp hr hd => by
  rw [Sem.run_bind] at hr
  cases e : x.run P u with
  | halt t w2 => rw [e] at hr; simp at hr
  | ok a u1 => rw [e, Result.andThen_ok] at hr; exact absurd hr (h _ _ _ _)⟩

theorem never_unsupported {w : World} {u : Unsupported} {b : β} {w' : World} : (unsupported u : Sem β).run P w ≠ .ok b w' := by simp [unsupported, Sem.run]
theorem never_mark {w : World} {u : Unsupported} {b : β} {w' : World} {m : Mark} : (mark m >>= fun _ => (unsupported u : Sem β)).run P w ≠ .ok b w' := by simp [mark, unsupported, Sem.run, bind, Sem.bind]
instance halts_holdsCells (a : Addr) (n : Nat) : Halts P (Builtin.holdsCells a n) := by
  unfold Builtin.holdsCells
  repeat' (first | infer_instance | (refine halts_bind _ _ (hx := ?_) (hf := fun _ => ?_)) | split | (intro _) | (dsimp only))
instance halts_mayShare (a b c : Nat) (d : Option Addr) (v : Value) : Halts P (Builtin.mayShare a b c d v) := by
  unfold Builtin.mayShare
  repeat' (first | infer_instance | (refine halts_bind _ _ (hx := ?_) (hf := fun _ => ?_)) | split | (intro _) | (dsimp only))
set_option maxHeartbeats 1600000 in
instance mild_append (x : Array TypeId) (t : TypeId) (a : Array Value) : Mild P σ (Builtin.append_ x t a) := by
  unfold Builtin.append_
  repeat' (first
    | (with_reducible refine mild_bind_never _ _ (fun a w b w' => ?_)
       split
       · exact never_mark
       · exact never_unsupported)
    | (with_reducible refine mild_bind _ _ (hx := ?_) (hf := fun _ => ?_))
    | (with_reducible refine mild_ite _ _ _ (hx := ?_) (hy := ?_))
    | infer_instance
    | split | (intro _) | (dsimp only))
end
end Go.Proofs.Ytdedmmjmiakidaa
/- Plain words: which operations of a function's text are mild (see ConA), and what they may hand on. No condition. -/
namespace Go.Proofs.Ytdedmmjmiakidaa
section
variable {P : Program} {σ : Poison} {α β : Type}

theorem mild_never {s : Sem α} [Halts P s] (h : ∀ w a w', s.run P w ≠ .ok a w') : Mild P σ s := ⟨fun H w u a u' es hp hr hd => absurd hr (h _ _ _)⟩
theorem never_bind {x : Sem α} {f : α → Sem β} (h : ∀ a w b w', (f a).run P w ≠ .ok b w') (w : World) (b : β) (w' : World) : (x >>= f).run P w ≠ .ok b w' := by
  rw [Sem.run_bind]
  cases e : x.run P w with
  | halt t w2 => simp
  | ok a u1 => rw [Result.andThen_ok]; exact h _ _ _ _
theorem never_goPanic (v : Value) (w : World) (b : β) (w' : World) : (goPanic v : Sem β).run P w ≠ .ok b w' := by simp [goPanic, Sem.run]
theorem never_runtimePanic (e : RuntimeError) (w : World) (b : β) (w' : World) : (runtimePanic e : Sem β).run P w ≠ .ok b w' := by
  unfold runtimePanic
  refine never_bind (fun p w b w' => ?_) _ _ _
  dsimp only
  cases e with
  | bounds x y s c => exact never_goPanic _ _ _ _
  | error m => exact never_goPanic _ _ _ _
  | plain m => exact never_goPanic _ _ _ _
  | nilDeref => exact never_goPanic _ _ _ _
  | typeAssertion i c a m => exact never_bind (fun _ _ _ _ => never_bind (fun _ _ _ _ => never_goPanic _ _ _ _) _ _ _) _ _ _
  | panicNil => exact never_bind (fun _ _ _ _ => never_bind (fun _ _ _ _ => never_goPanic _ _ _ _) _ _ _) _ _ _
  | unhashable t => exact never_goPanic _ _ _ _
theorem never_panic (x : Value) (w : World) (b : Value) (w' : World) : (Instr.panic x).run P w ≠ .ok b w' := by
  unfold Instr.panic
  split
  · exact never_goPanic _ _ _ _
  · refine never_bind (fun a w b w' => ?_) _ _ _
    split
    · exact never_goPanic _ _ _ _
    · exact never_runtimePanic _ _ _ _
  · simp [stuck, Sem.run]
instance halts_runtimePanic (e : RuntimeError) : Halts P (runtimePanic e : Sem α) := by
  have : Mild P (⟨fun _ => False, fun _ => 0, fun _ => False⟩ : Poison) (runtimePanic e : Sem α) := inferInstance
  infer_instance
instance halts_sys (c : Sys) : Halts P (sys c) := ⟨fun w x w' h => by simp [sys, Sem.run] at h⟩
instance halts_panic (x : Value) : Halts P (Instr.panic x) := by
  unfold Instr.panic Instr.panicnil
  repeat' (first | infer_instance | (refine halts_bind _ _ (hx := ?_) (hf := fun _ => ?_)) | split | (intro _) | (dsimp only))
instance mild_panic (x : Value) : Mild P σ (Instr.panic x) := mild_never (never_panic x)

theorem mild_followBlind : ∀ (l : List FieldStep) (t : TypeId) (x : Option Value), Mild P σ (followBlind l t x)
  | [], t, x => by unfold followBlind; infer_instance
  | s :: rest, t, x => by
    have := mild_followBlind rest
    unfold followBlind
    (repeat' (first | infer_instance | (refine mild_bind _ _ (hx := ?_) (hf := fun _ => ?_)) | split | (intro _) | (dsimp only)))
instance mild_followBlind' (l : List FieldStep) (t : TypeId) (x : Option Value) : Mild P σ (followBlind l t x) := mild_followBlind l t x
theorem mild_nilAhead : ∀ (n : Nat) (t : TypeId) (x : Value) (s : String), Mild P σ (nilAhead n t x s)
  | 0, t, x, s => by unfold nilAhead; infer_instance
  | n + 1, t, x, s => by
    have := mild_nilAhead n
    unfold nilAhead
    (repeat' (first | infer_instance | (refine mild_bind _ _ (hx := ?_) (hf := fun _ => ?_)) | split | (intro _) | (dsimp only)))
instance mild_nilAhead' (n : Nat) (t : TypeId) (x : Value) (s : String) : Mild P σ (nilAhead n t x s) := mild_nilAhead n t x s

/-- A gate that hinders nobody: none, or one of a type that writes down (or a slot not written yet). -/
def Quiet (tn : TypeId) (v : Value) : Prop := v = .nilIface ∨ v = undef ∨ ∃ x, v = .iface tn x
/-- The functions that may be called: which; the slots of each that hold quiet gates alone; the gates' type; whether maps may be used. -/
structure Names where
  is : FuncId → Bool
  quiet : FuncId → List Nat
  tn : TypeId
  nc : Bool
instance : CoeFun Names fun _ => FuncId → Bool := ⟨Names.is⟩
/-- How operands are read. -/
structure Reads (ρ : Operand → Value) : Prop where
  func : ∀ f, ρ (.func f) = .func (.func f) #[] #[]
  const : ∀ v, ρ (.const v) = v
theorem reads_act (a : Act) : Reads a.eval := ⟨fun _ => rfl, fun _ => rfl⟩
/-- What an operation may hand on. -/
def NextOk (S : Names) : Next → Prop
  | .value _ | .skip => True
  | .enter f a => S f = true ∧ ∀ s ∈ S.quiet f, Quiet S.tn (a.getD s undef)
  | _ => False
/-- Mild, and hands on nothing else. -/
structure Tame (P : Program) (σ : Poison) (S : Names) (s : Sem Next) : Prop where
  mild : Mild P σ s
  next : ∀ w n w', s.run P w = .ok n w' → NextOk S n
theorem tame_v {S : Names} (s : Sem Value) [h : Mild P σ s] : Tame P σ S (do pure (.value (← s))) := ⟨inferInstance, fun w n w' hr => by
  change (s >>= fun x => (Pure.pure (Next.value x) : Sem Next)).run P w = .ok n w' at hr
  rw [Sem.run_bind] at hr
  cases e : s.run P w with
  | halt t w2 => rw [e] at hr; simp at hr
  | ok a u1 =>
    rw [e, Result.andThen_ok] at hr
    simp only [Sem.run_pure, Result.ok.injEq] at hr
    rw [← hr.1]; trivial⟩
theorem tame_u {S : Names} (s : Sem Unit) [h : Mild P σ s] : Tame P σ S (do s; pure .skip) := ⟨inferInstance, fun w n w' hr => by
  change (s >>= fun _ => (Pure.pure Next.skip : Sem Next)).run P w = .ok n w' at hr
  rw [Sem.run_bind] at hr
  cases e : s.run P w with
  | halt t w2 => rw [e] at hr; simp at hr
  | ok a u1 =>
    rw [e, Result.andThen_ok] at hr
    simp only [Sem.run_pure, Result.ok.injEq] at hr
    rw [← hr.1]; trivial⟩
theorem tame_pure {S : Names} (v : Value) : Tame P σ S (Pure.pure (.value v)) := ⟨inferInstance, fun w n w' hr => by
  simp only [Sem.run_pure, Result.ok.injEq] at hr
  rw [← hr.1]; trivial⟩
theorem tame_never {S : Names} {s : Sem Next} [Halts P s] (h : ∀ w a w', s.run P w ≠ .ok a w') : Tame P σ S s := ⟨mild_never h, fun w n w' hr => absurd hr (h _ _ _)⟩
theorem tame_bind {S : Names} {x : Sem α} {f : α → Sem Next} [hx : Mild P σ x] (hf : ∀ a, Tame P σ S (f a)) : Tame P σ S (x >>= f) :=
  ⟨mild_bind x f (hf := fun a => (hf a).mild), fun w n w' hr => by
    rw [Sem.run_bind] at hr
    cases e : x.run P w with
    | halt t w2 => rw [e] at hr; simp at hr
    | ok a u1 => rw [e, Result.andThen_ok] at hr; exact (hf a).next _ _ _ hr⟩

/-- An operand that is a quiet gate, where these slots are. -/
def quietArg (N : List Nat) : Operand → Bool
  | .const .nilIface => true
  | .tmp t => N.contains t
  | _ => false
def quietOp (tn : TypeId) (N : List Nat) : Op → Bool
  | .move x | .assign x => quietArg N x
  | .makeInterface t _ => t == tn
  | _ => false
/-- The operations that are tame by their text, where these slots hold quiet gates. -/
def okOpN (P : Program) (S : Names) (nc : Bool) (N : List Nat) : Op → Bool
  | .move _ | .assign _ | .pick .. | .alloc _ | .box .. | .build .. | .buildSlice .. | .load .. | .store .. | .nilCheck _ | .binOp .. | .unOp .. | .makeInterface .. | .makeFunc ..
  | .makeSlice .. | .makeMap .. | .makeChan .. | .slice .. | .fieldAddr .. | .field .. | .indexAddr .. | .index .. | .lookup .. | .typeAssert .. | .extract .. | .panic _ => true
  | .mapUpdate .. | .insert .. | .mapEntry .. | .entryStore .. => nc
  | .convert src dst _ => match P.underlying src, P.underlying dst with
    | some (.int _), some (.int _) => true
    | _, _ => false
  | .call { callee := .value (.func f), args, .. } => S f && (S.quiet f).all fun s => match args[s]? with
    | some a => quietArg N a
    | none => true
  | .call { callee := .invoke (.tmp r) name, .. } => N.contains r && name == "Step"
  | .call { callee := .builtin b, .. } => match b with
    | .append | .cap | .copy | .len | .max | .min | .panic => true
    | .clear | .delete => nc
    | _ => false
  | _ => false
abbrev okOp (P : Program) (S : Names) (nc : Bool) : Op → Bool := okOpN P S nc []
/-- .. with what they write. -/
def okOper (P : Program) (S : Names) (N : List Nat) (o : Oper) : Bool := okOpN P S S.nc N o.op && match o.dst with
  | some d => !N.contains d || quietOp S.tn N o.op
  | none => true

/-- A function that may be called: it has a text; or it is one of the library's that is tame as such. -/
def MayCall (P : Program) (σ : Poison) (S : Names) (f : FuncId) : Prop := ∀ args : Array Value, (∀ s ∈ S.quiet f, Quiet S.tn (args.getD s undef)) → Tame P σ S (callFunc f args)

theorem tame_nilCheck {S : Names} (ρ : Operand → Value) (x : Operand) (t d g p a) : Tame P σ S (execOp ρ { op := .nilCheck x, type := t, dst := d, guard := g, pos := p, after := a }) := by
  unfold execOp
  dsimp only
  split
  · exact tame_never (never_runtimePanic _)
  · exact tame_never (never_runtimePanic _)
  · exact tame_never (never_runtimePanic _)
  · split
    · exact tame_never (never_runtimePanic _)
    · refine tame_bind fun p => ?_
      refine tame_bind fun r => ?_
      split
      · exact tame_bind fun _ => tame_pure _
      · exact tame_pure _
    · exact tame_pure _
  · exact tame_pure _

set_option maxHeartbeats 1600000 in
theorem quiet_arg {ρ : Operand → Value} (hρ : Reads ρ) {tn : TypeId} {N : List Nat} (hN : ∀ s ∈ N, Quiet tn (ρ (.tmp s))) {a : Operand} (h : quietArg N a = true) : Quiet tn (ρ a) := by
  unfold quietArg at h
  split at h
  · rw [hρ.const]; exact .inl rfl
  · exact hN _ (by simpa using h)
  · cases h
theorem tame_quiet {S : Names} (hM : ∀ x args, Tame P σ S (callMethod (.iface S.tn x) "Step" args)) {v : Value} (hv : Quiet S.tn v) (args : Array Value) : Tame P σ S (callMethod v "Step" args) := by
  rcases hv with rfl | rfl | ⟨x, rfl⟩
  · show Tame P σ S (runtimePanic .nilDeref)
    exact tame_never (never_runtimePanic _)
  · show Tame P σ S (stuck "invoke: interface value expected")
    exact tame_never (fun w a w' => by simp [stuck, Sem.run])
  · exact hM x args
theorem tame_opN {S : Names} {nc : Bool} (hnc : nc = true → NoC σ) (hS : ∀ f, S f = true → MayCall P σ S f) (ρ : Operand → Value) (hρ : Reads ρ) {N : List Nat} (hM : N ≠ [] → ∀ x args, Tame P σ S (callMethod (.iface S.tn x) "Step" args))
    (hN : ∀ s ∈ N, Quiet S.tn (ρ (.tmp s))) (o : Oper) (h : okOpN P S nc N o.op = true) : Tame P σ S (execOp ρ o) := by
  obtain ⟨d, op, t, p, aft, g⟩ := o
  dsimp only at h
  cases op with
  | move x => exact tame_pure _
  | assign x => exact tame_pure _
  | pick c a b => exact tame_bind fun _ => tame_pure _
  | alloc e => exact tame_v _
  | box e x => exact tame_v _
  | build t parts => exact tame_v _
  | buildSlice t len parts => exact tame_v _
  | load t a => exact tame_v _
  | store t a x => exact tame_u _
  | nilCheck x => exact tame_nilCheck ρ x _ _ _ _ _
  | binOp op xt x y yt => exact tame_v _
  | unOp op xt x => exact tame_v _
  | makeInterface xt x => exact tame_v _
  | makeFunc fn first captured => exact tame_v _
  | makeSlice t l c => exact tame_v _
  | makeMap t r => exact tame_v _
  | makeChan t s => exact tame_v _
  | slice t x lo hi mx => exact tame_v _
  | fieldAddr s x f => exact tame_v _
  | field xt x f => exact tame_v _
  | indexAddr t x ix => exact tame_v _
  | index xt x ix => exact tame_v _
  | lookup xt x ix ok => exact tame_v _
  | typeAssert x xt asserted ok => exact tame_v _
  | extract t ix => exact tame_v _
  | panic x => exact tame_v _
  | mapUpdate t m k x => have := hnc h; exact tame_u _
  | insert t m k x => have := hnc h; exact tame_u _
  | mapEntry t m k => have := hnc h; exact tame_v _
  | entryStore t m s x => have := hnc h; exact tame_u _
  | convert src dst x =>
    simp only [okOpN] at h
    split at h
    · rename_i k k' e1 e2
      have := mild_convInt (σ := σ) e1 e2 (ρ x)
      exact tame_v _
    · simp at h
  | call c =>
    obtain ⟨callee, args, ats⟩ := c
    cases callee with
    | value f =>
      cases f with
      | func f =>
        simp only [okOpN, Bool.and_eq_true, List.all_eq_true] at h
        have h2 := hS f h.1 ((#[] ++ args.map ρ) ++ #[]) fun s hs => by
          have h3 := h.2 s hs
          rw [Array.append_empty, Array.empty_append, Array.getD_eq_getD_getElem?, Array.getElem?_map]
          cases ha : args[s]? with
          | none => exact .inr (.inl rfl)
          | some a =>
            rw [ha] at h3
            exact quiet_arg hρ hN h3
        unfold execOp resolve
        simp only [hρ.func]
        exact h2
      | _ => simp [okOpN] at h
    | invoke r name =>
      cases r with
      | tmp r =>
        simp only [okOpN, Bool.and_eq_true, beq_iff_eq] at h
        obtain ⟨h1, rfl⟩ := h
        have h1 : r ∈ N := by simpa using h1
        have h2 := tame_quiet (hM (fun e => by rw [e] at h1; cases h1)) (hN r h1) ((#[ρ (.tmp r)] ++ args.map ρ).extract 1 (#[ρ (.tmp r)] ++ args.map ρ).size)
        unfold execOp resolve
        have e : (#[ρ (.tmp r)] ++ args.map ρ)[0]? = some (ρ (.tmp r)) := by
          rw [Array.getElem?_append_left (Nat.lt_add_one 0)]
          rfl
        show Tame P σ S (invoke (.fn (.method "Step") #[]) (#[ρ (.tmp r)] ++ args.map ρ))
        unfold invoke
        simp only [e]
        exact h2
      | _ => simp [okOpN] at h
    | builtin b =>
      cases b <;> first
        | (simp [okOpN] at h; done)
        | exact tame_v (s := Builtin.append_ _ _ _)
        | exact tame_v (s := Builtin.cap_ _ _ _)
        | exact tame_v (s := Builtin.copy_ _ _ _)
        | exact tame_v (s := Builtin.len_ _ _ _)
        | exact tame_v (s := Builtin.max_ _ _ _)
        | exact tame_v (s := Builtin.min_ _ _ _)
        | exact tame_v (s := Instr.panic _)
        | (have := hnc h; exact tame_v (s := Builtin.clear_ _ _ _))
        | (have := hnc h; exact tame_v (s := Builtin.delete_ _ _ _))
  | _ => simp [okOpN] at h
theorem tame_op {S : Names} {nc : Bool} (hnc : nc = true → NoC σ) (hS : ∀ f, S f = true → MayCall P σ S f) (ρ : Operand → Value) (hρ : Reads ρ) (o : Oper) (h : okOp P S nc o.op = true) : Tame P σ S (execOp ρ o) :=
  tame_opN hnc hS ρ hρ (fun h => absurd rfl h) (fun s hs => by cases hs) o h
/-- What is written where quiet gates lie is one. -/
theorem quiet_dst {S : Names} (hT : ∀ x w v w', (Instr.makeInterface S.tn x).run P w = .ok v w' → v = .iface S.tn x) (ρ : Operand → Value) (hρ : Reads ρ) {N : List Nat} (hN : ∀ s ∈ N, Quiet S.tn (ρ (.tmp s))) (o : Oper) (h : quietOp S.tn N o.op = true)
    {w : World} {n : Next} {w' : World} (hr : (execOp ρ o).run P w = .ok n w') : ∃ v, n = .value v ∧ Quiet S.tn v := by
  obtain ⟨d, op, t, p, aft, g⟩ := o
  dsimp only at h
  cases op with
  | move x =>
    change (Pure.pure (Next.value (ρ x)) : Sem Next).run P w = .ok n w' at hr
    simp only [Sem.run_pure, Result.ok.injEq] at hr
    exact ⟨_, hr.1.symm, quiet_arg hρ hN h⟩
  | assign x =>
    change (Pure.pure (Next.value (ρ x)) : Sem Next).run P w = .ok n w' at hr
    simp only [Sem.run_pure, Result.ok.injEq] at hr
    exact ⟨_, hr.1.symm, quiet_arg hρ hN h⟩
  | makeInterface xt x =>
    simp only [quietOp, beq_iff_eq] at h
    subst h
    change (Instr.makeInterface S.tn (ρ x) >>= fun x => (Pure.pure (Next.value x) : Sem Next)).run P w = .ok n w' at hr
    rw [Sem.run_bind] at hr
    cases e : (Instr.makeInterface S.tn (ρ x)).run P w with
    | halt t w2 => rw [e] at hr; simp at hr
    | ok a u1 =>
      rw [e, Result.andThen_ok] at hr
      simp only [Sem.run_pure, Result.ok.injEq] at hr
      exact ⟨_, hr.1.symm, .inr (.inr ⟨_, hT _ _ _ _ e⟩)⟩
  | _ => simp [quietOp] at h
end
end Go.Proofs.Ytdedmmjmiakidaa
/- Plain words: a step of a goroutine that is carried out alone in a spoilt world is carried out alike in the true world, in company. No condition. -/
namespace Go.Proofs.Ytdedmmjmiakidaa
open Go.Conc

/-- Text that may be carried out so: its operations are; it does not jump by goto; it returns only where that is allowed. -/
def okC (ok : Oper → Bool) (ret : Bool) : Code → Bool
  | .skip | .label _ | .exit _ | .refuse _ => true
  | .ret => ret
  | .seq a b | .cond _ a b => okC ok ret a && okC ok ret b
  | .block _ c | .loop c | .scope c => okC ok ret c
  | .region _ ops _ => ops.all ok
  | _ => false
abbrev okCode (ok : Op → Bool) : Bool → Code → Bool := okC fun o => ok o.op
def okItem (ok : Oper → Bool) (ret : Bool) : Item → Bool
  | .code c | .inLoop c | .inScope c => okC ok ret c
  | .inBlock _ => true
  | .inRegion ops _ => ops.all ok
  | _ => false
def okItems (ok : Oper → Bool) (ret : Bool) (l : List Item) : Bool := l.all (okItem ok ret)
/-- What is asked of operations where these slots hold quiet gates. -/
structure Lawful (P : Program) (σ : Poison) (S : Names) (ok : Oper → Bool) (N : List Nat) : Prop where
  tame : ∀ ρ : Operand → Value, Reads ρ → (∀ s ∈ N, Quiet S.tn (ρ (.tmp s))) → ∀ o : Oper, ok o = true → Tame P σ S (execOp ρ o)
  dst : ∀ ρ : Operand → Value, Reads ρ → (∀ s ∈ N, Quiet S.tn (ρ (.tmp s))) → ∀ o : Oper, ok o = true → ∀ d ∈ N, o.dst = some d → ∀ w n w', (execOp ρ o).run P w = .ok n w' → ∃ v, n = .value v ∧ Quiet S.tn v
/-- Slots that hold quiet gates alone. -/
def QuietIn (S : Names) (N : List Nat) (t : Array Value) : Prop := ∀ s ∈ N, Quiet S.tn (t.getD s undef)
theorem QuietIn.set {S : Names} {N : List Nat} {t : Array Value} (h : QuietIn S N t) {d : Nat} {v : Value} (hd : d ∈ N → Quiet S.tn v) : QuietIn S N (t.setIfInBounds d v) := by
  intro s hs
  rw [Array.getD_eq_getD_getElem?, Array.getElem?_setIfInBounds]
  by_cases e : d = s
  · subst e
    rw [if_pos rfl]
    split
    · exact hd hs
    · exact .inr (.inl rfl)
  · rw [if_neg e, ← Array.getD_eq_getD_getElem?]
    exact h s hs
theorem QuietIn.set? {S : Names} {N : List Nat} {t : Array Value} (h : QuietIn S N t) : ∀ {d : Option Nat} {v : Value}, (∀ x, d = some x → x ∈ N → Quiet S.tn v) → QuietIn S N (match d with | some x => t.setIfInBounds x v | none => t)
  | none, _, _ => h
  | some x, _, hd => h.set (hd x rfl)

theorem exitTo_append (id : Nat) : ∀ (xs ys : List Item), exitTo id (xs ++ ys) = match exitTo id xs with | some r => some (r ++ ys) | none => exitTo id ys
  | [], ys => by simp [exitTo]
  | x :: xs, ys => by
    have := exitTo_append id xs ys
    cases x <;> simp only [List.cons_append, exitTo, this]
    split <;> rfl
theorem exitTo_ok {ok : Oper → Bool} {ret : Bool} (id : Nat) : ∀ (xs r : List Item), okItems ok ret xs = true → exitTo id xs = some r → okItems ok ret r = true
  | [], r, _, h => by simp [exitTo] at h
  | x :: xs, r, ho, h => by
    simp only [okItems, List.all_cons, Bool.and_eq_true] at ho
    have := exitTo_ok id xs r ho.2
    cases x <;> simp only [exitTo] at h <;> try exact this h
    split at h
    · simp only [Option.some.injEq] at h; subst h; exact ho.2
    · exact this h

/-- What a step in company has in common with the one alone. -/
structure Beh (P : Program) (σ : Poison) (H : Nat) (w u w' u' : World) (es : Array Event) : Prop where
  ps : Ps P σ H w' u'
  fr : Fr σ w w' u u'
  ev : ∀ e ∈ es, EvOk σ.F w'.heap.size e

theorem Beh.still {P : Program} {σ : Poison} {H : Nat} {w u : World} (h : Ps P σ H w u) : Beh P σ H w u w u #[] := ⟨h, Fr.refl _ _, by simp⟩

theorem seen_sub (P : Program) (fn : FuncId) (es : Array Event) : ∀ e ∈ seen P fn es, e ∈ es := by
  unfold seen
  dsimp only
  refine Array.foldl_induction (motive := fun n (s : Bool × Array Event) => ∀ e ∈ s.2, e ∈ es) (by simp) ?_
  intro i s ih e he
  split at he
  · exact ih e he
  · split at he
    · exact ih e he
    · rcases Array.mem_push.1 he with h | h
      · exact ih e h
      · rw [h]; simp

section
variable {P : Program} {σ : Poison} {H : Nat} {main : Bool} {ok : Oper → Bool} {S : Names} {N : List Nat}

theorem early_ended {fr : Frame} {cs : List Frame} {g : Nat} {w : World} (hf : P.follows .staticDataAhead = true) (hs : P.stepOf g = none) : early P fr cs none g w = .ended (.unsupported (.initOrder g) (fr.pos P)) w := by
  unfold early
  simp [hf, hs]

/-- What is known of a step. -/
inductive Out (P : Program) (σ : Poison) (H : Nat) (ok : Oper → Bool) (S : Names) (N : List Nat) (ret : Bool) (b : Frame) (t0 : Array Value) (i0 : List Item) (ds : List Deferred) (kl kr : List Item) (cl cr : List Frame) (w u : World) : Goroutine → World → GStep → Prop
  | go (t : Array Value) (its : List Item) (w' u' : World) (es : Array Event) (hi : okItems ok ret its = true) (hq : QuietIn S N t) (h : Beh P σ H w u w' u' es) :
      Out P σ H ok S N ret b t0 i0 ds kl kr cl cr w u (G (b.at ⟨t, []⟩ (its ++ kl)) cl) u' (.go (G (b.at ⟨t, ds⟩ (its ++ kr)) cr) w' es)
  | enter (f : FuncId) (args : Array Value) (w' u' : World) (es : Array Event) (hf : S f = true) (ha : ∀ s ∈ S.quiet f, Quiet S.tn (args.getD s undef)) (h : Beh P σ H w u w' u' es) (hi : okItems ok ret i0 = true) (hh : ∃ ops i rest k, i0 = .inRegion ops (i :: rest) :: k ∧ ∀ d, (ops[i]?).bind (·.dst) = some d → d ∉ N) :
      Out P σ H ok S N ret b t0 i0 ds kl kr cl cr w u (G (Frame.enter P f args .normal) (b.at ⟨t0, []⟩ (i0 ++ kl) :: cl)) u' (.go (G (Frame.enter P f args .normal) (b.at ⟨t0, ds⟩ (i0 ++ kr) :: cr)) w' es)
  | ret (hr : ret = true) : Out P σ H ok S N ret b t0 i0 ds kl kr cl cr w u (G { b.at ⟨t0, []⟩ (i0 ++ kl) with mode := .returning } cl) u (.go (G { b.at ⟨t0, ds⟩ (i0 ++ kr) with mode := .returning } cr) w #[])
  | panic (todo : List Item) (ch : List PanicEntry) (u' : World) (s : GStep) : Out P σ H ok S N ret b t0 i0 ds kl kr cl cr w u (G { b.at ⟨t0, []⟩ todo with mode := .panicking ch } cl) u' s

theorem apply_step {ret : Bool} {b : Frame} {t : Array Value} {ops : Array Oper} {i : Nat} {rest : List Nat} {k : List Item} {ds : List Deferred} {kl kr : List Item} {cl cr : List Frame} {w u u' : World} {g' : Goroutine} {es : Array Event}
    (hk : (b.kind == CallKind.early) = false) (hst : ∀ g, P.stepOf g = none) (hf : P.follows .staticDataAhead = true)
    (hi : okItems ok ret (.inRegion ops (i :: rest) :: k) = true) (hN : QuietIn S N t) {s : Sem Next} (hs : Tame P σ S s) (hsd : ∀ d ∈ N, (ops[i]?).bind (·.dst) = some d → ∀ w n w', s.run P w = .ok n w' → ∃ v, n = .value v ∧ Quiet S.tn v) (hp : Ps P σ H w u)
    (h : stepG.apply P true (b.at ⟨t, []⟩ ((.inRegion ops (i :: rest) :: k) ++ kl)) cl none s u = .go g' u' es) (hd : u'.drawn ≤ H) :
    Out P σ H ok S N ret b t (.inRegion ops (i :: rest) :: k) ds kl kr cl cr w u g' u' (stepG.apply P true (b.at ⟨t, ds⟩ ((.inRegion ops (i :: rest) :: k) ++ kr)) cr none s w) := by
  have hrest : okItems ok ret (.inRegion ops rest :: k) = true := hi
  have hfin : ∀ (d : List Deferred) (kk : List Item) (v : Value), (b.at ⟨t, d⟩ ((.inRegion ops (i :: rest) :: k) ++ kk)).finish v = b.at ⟨match (ops[i]?).bind (·.dst) with | some x => t.setIfInBounds x v | none => t, d⟩ ((.inRegion ops rest :: k) ++ kk) := by
    intro d kk v
    cases e : (ops[i]?).bind (·.dst) <;> simp [Frame.finish, Frame.at, e]
  have hkd : ∀ d kk, ((b.at ⟨t, d⟩ kk).kind == CallKind.early) = false := fun _ _ => hk
  cases hr : s.run P u with
  | ok n v =>
    have hn := hs.next u n v hr
    have hv : v = u' := by
      unfold stepG.apply at h
      simp only [if_true, Sem.runT_eq, hr] at h
      cases n <;> simp [NextOk, GStep.after, Frame.at] at hn h <;> exact h.2.1
    subst hv
    obtain ⟨w', es', h1, p1, f1, v1⟩ := hs.mild.sim H w u n v #[] hp hr hd
    have hr' : s.run P w = .ok n w' := by rw [← Sem.runT_fst P s w #[], h1]
    have hB : Beh P σ H w u w' v (seen P b.fn (#[] ++ es')) := ⟨p1, f1, fun e he => v1 e (by simpa using seen_sub _ _ _ e he)⟩
    unfold stepG.apply at h ⊢
    simp only [if_true, Sem.runT_eq, hr, hkd, if_false, Bool.false_eq_true] at h
    simp only [if_true, h1, hkd, if_false, Bool.false_eq_true]
    cases n with
    | value x =>
      simp only [GStep.after, hfin, Array.append_empty] at h ⊢
      simp only [GStep.go.injEq] at h
      rw [← h.1]
      exact Out.go _ _ _ _ _ hrest (hN.set? fun d hd hdN => by
        obtain ⟨v, e, hv⟩ := hsd d hdN hd _ _ _ hr
        cases e; exact hv) hB
    | skip =>
      simp only [GStep.after, hfin, Array.append_empty] at h ⊢
      simp only [GStep.go.injEq] at h
      rw [← h.1]
      exact Out.go _ _ _ _ _ hrest (hN.set? fun d hd hdN => by
        obtain ⟨v, e, hv⟩ := hsd d hdN hd _ _ _ hr
        cases e) hB
    | enter f args =>
      simp only [GStep.after, Array.append_empty] at h ⊢
      simp only [GStep.go.injEq] at h
      rw [← h.1]
      exact Out.enter f args _ _ _ hn.1 hn.2 hB hi ⟨_, _, _, _, rfl, fun d hd hdN => by
        obtain ⟨v, e, hv⟩ := hsd d hdN hd _ _ _ hr
        cases e⟩
    | _ => simp [NextOk] at hn
  | halt x v =>
    have hx := hs.mild.halts u x v hr
    unfold stepG.apply at h
    simp only [if_true, Sem.runT_eq, hr, hkd, if_false, Bool.false_eq_true] at h
    cases x with
    | panic pv =>
      simp only [GStep.after, Array.append_empty, GStep.go.injEq] at h
      rw [← h.1]
      exact Out.panic _ _ _ _
    | stuck m => simp [GStep.after] at h
    | unsupported m =>
      cases m with
      | initOrder g => simp [early_ended hf (hst g), GStep.after] at h
      | _ => simp [GStep.after] at h
    | _ => simp [HaltOk] at hx

theorem run_step {ret : Bool} {b : Frame} {t : Array Value} {its : List Item} {ds : List Deferred} {kl kr : List Item} {cl cr : List Frame} {w u u' : World} {g' : Goroutine} {es : Array Event}
    (hk : (b.kind == CallKind.early) = false) (hst : ∀ g, P.stepOf g = none) (hf : P.follows .staticDataAhead = true)
    (hop : Lawful P σ S ok N)
    (hi : okItems ok ret its = true) (hN : QuietIn S N t) (hit : its ≠ [] ∨ ret = true ∧ kl = [] ∧ kr = []) (hkl : ∀ id, exitTo id kl = none) (hp : Ps P σ H w u)
    (h : stepG P true (G (b.at ⟨t, []⟩ (its ++ kl)) cl) u = .go g' u' es) (hd : u'.drawn ≤ H) :
    Out P σ H ok S N ret b t its ds kl kr cl cr w u g' u' (stepG P main (G (b.at ⟨t, ds⟩ (its ++ kr)) cr) w) := by
  have hgo : ∀ (its' : List Item), okItems ok ret its' = true → (GStep.go (G (b.at ⟨t, []⟩ (its' ++ kl)) cl) u #[] = .go g' u' es) →
      Out P σ H ok S N ret b t its ds kl kr cl cr w u g' u' (.go (G (b.at ⟨t, ds⟩ (its' ++ kr)) cr) w #[]) := by
    intro its' h1 h2
    simp only [GStep.go.injEq] at h2
    obtain ⟨rfl, rfl, _⟩ := h2
    exact Out.go _ _ _ _ _ h1 hN (Beh.still hp)
  have hc : ∀ (x : Item) (k : List Item), okItem ok ret x = true → okItems ok ret k = true → okItems ok ret (x :: k) = true := fun x k h1 h2 => by
    unfold okItems at *
    rw [List.all_cons, h1, h2]
    rfl
  cases its with
  | nil =>
    obtain ⟨hr, rfl, rfl⟩ := hit.resolve_left (by simp)
    simp only [List.append_nil, stepG_end] at h ⊢
    simp only [GStep.go.injEq] at h
    obtain ⟨rfl, rfl, _⟩ := h
    exact Out.ret hr
  | cons it k =>
    have hi0 := hi
    simp only [okItems, List.all_cons, Bool.and_eq_true] at hi
    obtain ⟨hi1, hi2⟩ := hi
    have hi2 : okItems ok ret k = true := hi2
    simp only [List.cons_append] at h ⊢
    cases it with
    | code c =>
      cases c with
      | skip => rw [stepG_skip] at h ⊢; exact hgo k hi2 h
      | label l => rw [stepG_label] at h ⊢; exact hgo k hi2 h
      | seq x y =>
        rw [stepG_seq] at h ⊢
        simp only [okItem, okC, Bool.and_eq_true] at hi1
        exact hgo (.code x :: .code y :: k) (hc _ _ hi1.1 (hc _ _ hi1.2 hi2)) h
      | cond c x y =>
        simp only [okItem, okC, Bool.and_eq_true] at hi1
        cases hb : (⟨t, []⟩ : Act).eval c with
        | bool v =>
          have hb' : (⟨t, ds⟩ : Act).eval c = .bool v := by rw [← hb]; cases c <;> rfl
          rw [stepG_cond hb] at h
          rw [stepG_cond hb']
          refine hgo (.code (if v then x else y) :: k) (hc _ _ ?_ hi2) h
          cases v
          · exact hi1.2
          · exact hi1.1
        | _ =>
          have h' : (b.at ⟨t, []⟩ (.code (.cond c x y) :: (k ++ kl))).eval c = (⟨t, []⟩ : Act).eval c := Frame.eval_at _ _ _ _
          simp only [Frame.at] at h'
          simp [G, stepG, stepG.exec, Frame.at, h', hb] at h
      | block id c => rw [stepG_block] at h ⊢; exact hgo (.code c :: .inBlock id :: k) (hc _ _ hi1 (hc _ _ rfl hi2)) h
      | loop c => rw [stepG_loop] at h ⊢; exact hgo (.code c :: .inLoop c :: k) (hc _ _ hi1 (hc _ _ hi1 hi2)) h
      | scope c =>
        have e : ∀ (d : List Deferred) (kk : List Item) (cs : List Frame) (m : Bool) (v : World), stepG P m (G (b.at ⟨t, d⟩ (.code (.scope c) :: kk)) cs) v = .go (G (b.at ⟨t, d⟩ (.code c :: .inScope c :: kk)) cs) v := by
          intro d kk cs m v; simp [G, stepG, stepG.exec, Frame.at]
        rw [e] at h ⊢
        exact hgo (.code c :: .inScope c :: k) (hc _ _ hi1 (hc _ _ hi1 hi2)) h
      | exit id =>
        cases he : exitTo id k with
        | some r =>
          have e1 : ∀ kk, exitTo id (k ++ kk) = some (r ++ kk) := fun kk => by rw [exitTo_append, he]
          rw [stepG_exit (e1 _)] at h ⊢
          exact hgo r (exitTo_ok _ _ _ hi2 he) h
        | none =>
          have e1 : exitTo id (k ++ kl) = none := by rw [exitTo_append, he]; exact hkl id
          simp [G, stepG, stepG.exec, Frame.at, e1] at h
      | ret =>
        have e : ∀ (d : List Deferred) (kk : List Item) (cs : List Frame) (m : Bool) (v : World), stepG P m (G (b.at ⟨t, d⟩ (.code .ret :: kk)) cs) v = .go (G { b.at ⟨t, d⟩ (.code .ret :: kk) with mode := .returning } cs) v := by
          intro d kk cs m v; simp [G, stepG, stepG.exec, Frame.at]
        rw [e] at h ⊢
        simp only [GStep.go.injEq] at h
        obtain ⟨rfl, rfl, _⟩ := h
        exact Out.ret hi1
      | refuse m => simp [G, stepG, stepG.exec, Frame.at] at h
      | region id ops draw =>
        have hit2 : ∀ l, okItems ok ret (.inRegion ops l :: k) = true := fun l => hc _ _ hi1 hi2
        cases draw with
        | false => rw [stepG_region] at h ⊢; exact hgo (.inRegion ops (List.range ops.size) :: k) (hit2 _) h
        | true =>
          have e : ∀ (d : List Deferred) (kk : List Item) (cs : List Frame) (m : Bool) (v : World), stepG P m (G (b.at ⟨t, d⟩ (.code (.region id ops true) :: kk)) cs) v =
              match (choose (.order b.fn id)).run P v with
              | .ok n v => .go (G (b.at ⟨t, d⟩ (.inRegion ops (Region.schedule (P.follows .mixedOrders) ops n) :: kk)) cs) v
              | .halt _ v => .ended (.stuck "order" ((b.at ⟨t, d⟩ (.code (.region id ops true) :: kk)).pos P)) v := by
            intro d kk cs m v; simp [G, stepG, stepG.exec, Frame.at]; rfl
          rw [e] at h ⊢
          cases hr : (choose (.order b.fn id)).run P u with
          | halt x v => rw [hr] at h; simp at h
          | ok n v =>
            rw [hr] at h
            simp only [GStep.go.injEq] at h
            obtain ⟨rfl, rfl, _⟩ := h
            obtain ⟨w', es', h1, p1, f1, v1⟩ := (inferInstance : Mild P σ (choose (.order b.fn id))).sim H w u n v #[] hp hr hd
            have hr' : (choose (.order b.fn id)).run P w = .ok n w' := by rw [← Sem.runT_fst P _ w #[], h1]
            rw [hr']
            exact Out.go _ (.inRegion ops _ :: k) _ _ _ (hit2 _) hN ⟨p1, f1, by simp⟩
      | _ => simp [okItem, okC] at hi1
    | inBlock id => rw [stepG_inBlock] at h ⊢; exact hgo k hi2 h
    | inLoop c => rw [stepG_inLoop] at h ⊢; exact hgo (.code c :: .inLoop c :: k) (hc _ _ hi1 (hc _ _ hi1 hi2)) h
    | inScope c =>
      have e : ∀ (d : List Deferred) (kk : List Item) (cs : List Frame) (m : Bool) (v : World), stepG P m (G (b.at ⟨t, d⟩ (.inScope c :: kk)) cs) v = .go (G (b.at ⟨t, d⟩ kk) cs) v := by
        intro d kk cs m v; simp [G, stepG, stepG.exec, Frame.at]
      rw [e] at h ⊢
      exact hgo k hi2 h
    | inRegion ops l =>
      cases l with
      | nil => rw [stepG_region_end] at h ⊢; exact hgo k hi2 h
      | cons i rest =>
        have hrest : okItems ok ret (.inRegion ops rest :: k) = true := hc _ _ hi1 hi2
        cases ho : ops[i]? with
        | none =>
          have e : ∀ (d : List Deferred) (kk : List Item) (cs : List Frame) (m : Bool) (v : World), stepG P m (G (b.at ⟨t, d⟩ (.inRegion ops (i :: rest) :: kk)) cs) v = .go (G (b.at ⟨t, d⟩ (.inRegion ops rest :: kk)) cs) v := by
            intro d kk cs m v; simp [G, stepG, stepG.exec, Frame.at, ho, Frame.finish]
          rw [e] at h ⊢
          exact hgo (.inRegion ops rest :: k) hrest h
        | some o =>
          cases hw : Region.wanted o (yielded ops t) with
          | false =>
            have e : ∀ (d : List Deferred) (kk : List Item) (cs : List Frame) (m : Bool) (v : World), stepG P m (G (b.at ⟨t, d⟩ (.inRegion ops (i :: rest) :: kk)) cs) v = .go (G (b.at ⟨match o.dst with | some x => t.setIfInBounds x undef | none => t, d⟩ (.inRegion ops rest :: kk)) cs) v := by
              intro d kk cs m v
              simp [G, stepG, stepG.exec, Frame.at, ho, hw, Frame.finish]
              cases o.dst <;> rfl
            rw [e] at h ⊢
            simp only [GStep.go.injEq] at h
            obtain ⟨rfl, rfl, _⟩ := h
            exact Out.go _ (.inRegion ops rest :: k) _ _ _ hrest (hN.set? fun _ _ _ => .inr (.inl rfl)) (Beh.still hp)
          | true =>
            rw [stepG_oper ho hw] at h ⊢
            have hoo : ok o = true := by
              simp only [okItem, Array.all_eq_true] at hi1
              obtain ⟨hlt, rfl⟩ := Array.getElem?_eq_some_iff.1 ho
              exact hi1 i hlt
            have hq : ∀ s ∈ N, Quiet S.tn ((⟨t, []⟩ : Act).eval (.tmp s)) := hN
            refine apply_step hk hst hf hi0 hN (hop.tame _ (reads_act _) hq o hoo) (fun d hdN hd => ?_) hp h hd
            rw [ho] at hd
            exact hop.dst _ (reads_act _) hq o hoo d hdN hd
    | _ => simp [okItem] at hi1
end
end Go.Proofs.Ytdedmmjmiakidaa
