/- Plain words: the goroutine alone and the goroutine in company, whole: their frames, step by step. No condition. -/
import Derived.Test.YtdedmmjmiakidaaFwAA
import Derived.Conc.Walk
import Derived.Test.YtdedmmjmiakidaaProg
import Derived.WalkKit
import Derived.WalkLawsBesides
import Derived.WalkSpells
import Derived.RowKit
import Derived.KernelRfl
import Derived.Conc.Token
set_option linter.unusedVariables false
set_option linter.unusedSimpArgs false
/- Plain words: the goroutine alone and the goroutine in company, whole: their frames, step by step. No condition. -/
namespace Go.Proofs.Ytdedmmjmiakidaa
open Go.Conc
section
variable {P : Program} {σ : Poison} {H : Nat} {main : Bool} {ok : Oper → Bool} {S : Names} {N : List Nat}

/-- A step that goes on or ends everything. -/
def CalmStep (s : GStep) : Prop := (∃ g w es, s = .go g w es) ∨ ∃ o w es, s = .ended o w es
theorem CalmStep.go {g : Goroutine} {w : World} {es : Array Event} : CalmStep (.go g w es) := .inl ⟨_, _, _, rfl⟩
theorem CalmStep.ended {o : Outcome} {w : World} {es : Array Event} : CalmStep (.ended o w es) := .inr ⟨_, _, _, rfl⟩

theorem apply_calm {b : Frame} {t : Array Value} {ops : Array Oper} {i : Nat} {rest : List Nat} {k : List Item} {ds : List Deferred} {cl : List Frame} {u : World}
    (hk : (b.kind == CallKind.early) = false) (hst : ∀ g, P.stepOf g = none) (hf : P.follows .staticDataAhead = true) {s : Sem Next} (hs : Tame P σ S s) :
    CalmStep (stepG.apply P true (b.at ⟨t, ds⟩ (.inRegion ops (i :: rest) :: k)) cl none s u) := by
  have hkd : ∀ d kk, ((b.at ⟨t, d⟩ kk).kind == CallKind.early) = false := fun _ _ => hk
  unfold stepG.apply
  cases hr : s.run P u with
  | ok n v =>
    have hn := hs.next u n v hr
    simp only [if_true, Sem.runT_eq, hr, hkd, if_false, Bool.false_eq_true]
    cases n with
    | value x => exact .go
    | skip => exact .go
    | enter f args => exact .go
    | _ => simp [NextOk] at hn
  | halt x v =>
    have hx := hs.mild.halts u x v hr
    simp only [if_true, Sem.runT_eq, hr, hkd, if_false, Bool.false_eq_true]
    cases x with
    | panic pv => exact .go
    | stuck m => exact .ended
    | unsupported m =>
      cases m with
      | initOrder g => simp only [early_ended hf (hst g), GStep.after]; exact .ended
      | _ => exact .ended
    | _ => simp [HaltOk] at hx

theorem run_calm {ret : Bool} {b : Frame} {t : Array Value} {its : List Item} {ds : List Deferred} {kl : List Item} {cl : List Frame} {u : World}
    (hk : (b.kind == CallKind.early) = false) (hst : ∀ g, P.stepOf g = none) (hf : P.follows .staticDataAhead = true)
    (hop : Lawful P σ S ok N) (hN : QuietIn S N t)
    (hi : okItems ok ret its = true) (hit : its ≠ [] ∨ kl = []) :
    CalmStep (stepG P true (G (b.at ⟨t, ds⟩ (its ++ kl)) cl) u) := by
  cases its with
  | nil =>
    rw [hit.resolve_left (by simp), List.append_nil, stepG_end]
    exact .go
  | cons it k =>
    simp only [okItems, List.all_cons, Bool.and_eq_true] at hi
    obtain ⟨hi1, hi2⟩ := hi
    simp only [List.cons_append]
    cases it with
    | code c =>
      cases c with
      | skip => rw [stepG_skip]; exact .go
      | label l => rw [stepG_label]; exact .go
      | seq x y => rw [stepG_seq]; exact .go
      | cond c x y =>
        have h' : (b.at ⟨t, ds⟩ (.code (.cond c x y) :: (k ++ kl))).eval c = (⟨t, ds⟩ : Act).eval c := Frame.eval_at _ _ _ _
        simp only [Frame.at] at h'
        cases hb : (⟨t, ds⟩ : Act).eval c <;> simp [G, stepG, stepG.exec, Frame.at, h', hb] <;> first | exact .go | exact .ended
      | block id c => rw [stepG_block]; exact .go
      | loop c => rw [stepG_loop]; exact .go
      | scope c => simp [G, stepG, stepG.exec, Frame.at]; exact .go
      | exit id =>
        cases he : exitTo id (k ++ kl) with
        | some r => rw [stepG_exit he]; exact .go
        | none => simp [G, stepG, stepG.exec, Frame.at, he]; exact .ended
      | ret => simp [G, stepG, stepG.exec, Frame.at]; exact .go
      | refuse m => simp [G, stepG, stepG.exec, Frame.at]; exact .ended
      | region id ops draw =>
        cases draw with
        | false => rw [stepG_region]; exact .go
        | true =>
          simp only [G, stepG, stepG.exec, Frame.at]
          cases hr : (choose (.order b.fn id)).run P u with
          | halt x v => simp [hr]; exact .ended
          | ok n v => simp [hr]; exact .go
      | _ => simp [okItem, okC] at hi1
    | inBlock id => rw [stepG_inBlock]; exact .go
    | inLoop c => rw [stepG_inLoop]; exact .go
    | inScope c => simp [G, stepG, stepG.exec, Frame.at]; exact .go
    | inRegion ops l =>
      cases l with
      | nil => rw [stepG_region_end]; exact .go
      | cons i rest =>
        cases ho : ops[i]? with
        | none => simp [G, stepG, stepG.exec, Frame.at, ho]; exact .go
        | some o =>
          cases hw : Region.wanted o (yielded ops t) with
          | false => simp [G, stepG, stepG.exec, Frame.at, ho, hw]; exact .go
          | true =>
            rw [stepG_oper ho hw]
            have hoo : ok o = true := by
              simp only [okItem, Array.all_eq_true] at hi1
              obtain ⟨hlt, rfl⟩ := Array.getElem?_eq_some_iff.1 ho
              exact hi1 i hlt
            have hq : ∀ s ∈ N, Quiet S.tn ((⟨t, ds⟩ : Act).eval (.tmp s)) := hN
            exact apply_calm hk hst hf (hop.tame _ (reads_act _) hq o hoo)
    | _ => simp [okItem] at hi1

instance mild_results (fn : Func) (t : Array Value) : Mild P σ (results fn t) := by
  unfold results
  (repeat' (first | infer_instance | (refine mild_bind _ _ (hx := ?_) (hf := fun _ => ?_)) | (refine mild_mapM _ (h := fun _ => ?_) _) | split | (intro _) | (dsimp only)))

/-- What is asked of a called function's operations. -/
abbrev okF (P : Program) (S : Names) (f : FuncId) : Oper → Bool := okOper P S (S.quiet f)
/-- A frame of called text that runs. -/
structure Clean (P : Program) (S : Names) (f : Frame) : Prop where
  kind : f.kind = .normal
  round : f.roundOf = none
  defers : f.defers = []
  items : okItems (okF P S f.fn) true f.todo = true
  mode : f.mode = .run
  quiet : QuietIn S (S.quiet f.fn) f.tmps
  name : S f.fn = true
theorem Clean.at {f : Frame} (h : Clean P S f) : f.at ⟨f.tmps, []⟩ (f.todo ++ []) = f := by
  obtain ⟨h1, h2, h3, _, h5, _, _⟩ := h
  cases f
  simp only [Frame.at, List.append_nil] at *
  simp [h2, h3, h5]
theorem Clean.of_at {f : Frame} (hk : f.kind = .normal) (hn : S f.fn = true) {t : Array Value} {its : List Item} (hi : okItems (okF P S f.fn) true its = true) (hq : QuietIn S (S.quiet f.fn) t) : Clean P S (f.at ⟨t, []⟩ (its ++ [])) :=
  ⟨hk, rfl, rfl, by simpa [Frame.at] using hi, rfl, hq, hn⟩
/-- .. that waits for a call. -/
def Waits (S : Names) (f : Frame) : Prop := ∃ ops i rest k, f.todo = .inRegion ops (i :: rest) :: k ∧ ∀ d, (ops[i]?).bind (·.dst) = some d → d ∉ S.quiet f.fn

/-- Behind a goroutine: nothing but this frame, which is not to be reached. -/
def sink : Frame := { fn := 0, tmps := #[], todo := [], defers := [⟨.nil, #[]⟩], mode := .run, kind := .normal }
/-- Behind the text: this. -/
def tailL : List Item := [.code (.refuse "")]

section sit
variable (P : Program) (S : Names) (ok : Oper → Bool) (b : Frame) (ds : List Deferred) (kr : List Item) (cr : List Frame)
/-- The frames below the topmost: alone, in company. -/
inductive Und : List Frame → List Frame → Prop
  | base (t : Array Value) (ops : Array Oper) (i : Nat) (rest : List Nat) (k : List Item) (h : okItems ok false (.inRegion ops (i :: rest) :: k) = true) :
      Und (b.at ⟨t, []⟩ ((.inRegion ops (i :: rest) :: k) ++ tailL) :: [sink]) (b.at ⟨t, ds⟩ ((.inRegion ops (i :: rest) :: k) ++ kr) :: cr)
  | up (f : Frame) (hf : Clean P S f) (hw : Waits S f) {l r : List Frame} (h : Und l r) : Und (f :: l) (f :: r)
/-- A goroutine alone, and in company. -/
inductive Sit : Goroutine → Goroutine → Prop
  | base (t : Array Value) (its : List Item) (h : okItems ok false its = true) : Sit (G (b.at ⟨t, []⟩ (its ++ tailL)) [sink]) (G (b.at ⟨t, ds⟩ (its ++ kr)) cr)
  | up (f : Frame) (hf : Clean P S f) {l r : List Frame} (h : Und P S ok b ds kr cr l r) : Sit (G f l) (G f r)
  | back (f : Frame) (hf : Clean P S f) {l r : List Frame} (h : Und P S ok b ds kr cr l r) : Sit (G { f with mode := .returning } l) (G { f with mode := .returning } r)
end sit
/-- Frames under a panic. -/
inductive Dead : List Frame → Prop
  | sink : Dead [sink]
  | up (f : Frame) (hd : f.defers = []) (hm : f.mode = .run) {l : List Frame} (h : Dead l) : Dead (f :: l)
/-- A goroutine that is lost. -/
inductive Lost : Goroutine → Prop
  | up (f : Frame) (ch : List PanicEntry) (hd : f.defers = []) {l : List Frame} (h : Dead l) : Lost (G { f with mode := .panicking ch } l)
  | sink (ch : List PanicEntry) : Lost (G { Go.Proofs.Ytdedmmjmiakidaa.sink with mode := .panicking ch } [])

theorem lost_step {g g' : Goroutine} {u u' : World} {es : Array Event} (h : Lost g) (hs : stepG P true g u = .go g' u' es) : Lost g' := by
  cases h with
  | up f ch hd hD =>
    have key : ∀ (c : Frame) (l : List Frame), stepG P true (G { f with mode := .panicking ch } (c :: l)) u = .go g' u' es → g' = G (c.raise ch) l := by
      intro c l h
      simp only [G, stepG, unwind, hd] at h
      split at h
      · simp at h
      · simp only [GStep.go.injEq] at h; exact h.1.symm
    cases hD with
    | sink => rw [key _ _ hs]; exact Lost.sink ch
    | up f2 hd2 hm hD2 =>
      rw [key _ _ hs]
      have : f2.raise ch = { f2 with mode := .panicking ch } := by simp [Frame.raise, hm]
      rw [this]
      exact Lost.up f2 ch hd2 hD2
  | sink ch =>
    simp [G, stepG, unwind, sink, callDeferred] at hs

theorem und_dead {b : Frame} {ds : List Deferred} {kr : List Item} {cr l r : List Frame} (h : Und P S ok b ds kr cr l r) : Dead l := by
  induction h with
  | base t ops i rest k hi => exact Dead.up _ rfl rfl Dead.sink
  | up f hf _ _ ih => exact Dead.up _ hf.defers hf.mode ih

theorem finish_clean {f : Frame} (h : Clean P S f) (hw : Waits S f) (v : Value) : Clean P S (f.finish v) := by
  obtain ⟨h1, h2, h3, h4, h5, h6, h7⟩ := h
  obtain ⟨ops, i, rest, k, e, hd⟩ := hw
  have hfin : f.finish v = { f with tmps := (match (ops[i]?).bind (·.dst) with | some y => f.tmps.setIfInBounds y v | none => f.tmps), todo := .inRegion ops rest :: k } := by
    unfold Frame.finish
    rw [e]
    rfl
  rw [hfin]
  refine ⟨h1, h2, h3, ?_, h5, h6.set? fun d hd' hdN => absurd hdN (hd d hd'), h7⟩
  rw [e] at h4
  exact h4

theorem enter_clean (hB : ∀ f, S f = true → ∀ c, (P.funcs[f]?).bind (·.body) = some c → okC (okF P S f) true c = true) {f : FuncId} (hf : S f = true) {args : Array Value} (ha : ∀ s ∈ S.quiet f, Quiet S.tn (args.getD s undef)) : Clean P S (Frame.enter P f args .normal) := by
  refine ⟨rfl, rfl, rfl, ?_, rfl, ?_, hf⟩
  · simp only [Frame.enter, okItems, List.all_cons, List.all_nil, Bool.and_true, okItem]
    cases e : (P.funcs[f]?).bind (·.body) with
    | none => rfl
    | some c => exact hB f hf c e
  · intro s hs
    have h1 := ha s hs
    simp only [Frame.enter] at hs ⊢
    rw [Array.getD_eq_getD_getElem?] at h1 ⊢
    rw [Array.getElem?_append]
    split
    · exact h1
    · rw [Array.getElem?_replicate]
      split <;> exact .inr (.inl rfl)

/-- The step of a goroutine that is alone, met in company. -/
theorem sit_step {b : Frame} {ds : List Deferred} {kr : List Item} {cr : List Frame} {g r g' : Goroutine} {w u u' : World} {es : Array Event}
    (hk : (b.kind == CallKind.early) = false) (hst : ∀ g, P.stepOf g = none) (hf : P.follows .staticDataAhead = true)
    (hop : Lawful P σ S ok []) (hopF : ∀ f, S f = true → Lawful P σ S (okF P S f) (S.quiet f))
    (hB : ∀ f, S f = true → ∀ c, (P.funcs[f]?).bind (·.body) = some c → okC (okF P S f) true c = true)
    (h : Sit P S ok b ds kr cr g r) (hp : Ps P σ H w u) (hs : stepG P true g u = .go g' u' es) (hd : u'.drawn ≤ H) (hnot : ∀ t, g ≠ G (b.at ⟨t, []⟩ tailL) [sink]) :
    Lost g' ∨ ∃ r' w' es', stepG P main r w = .go r' w' es' ∧ Sit P S ok b ds kr cr g' r' ∧ Beh P σ H w u w' u' es' := by
  cases h with
  | base t its hi =>
    have hne : its ≠ [] := fun h => hnot t (by rw [h]; rfl)
    have := run_step (main := main) (ds := ds) (kr := kr) (cr := cr) hk hst hf hop hi (fun s hs => by cases hs) (.inl hne) (fun _ => rfl) hp hs hd
    generalize he : stepG P main (G (b.at ⟨t, ds⟩ (its ++ kr)) cr) w = s at this
    cases this with
    | go t' its' w' v es' hi' hq hb => exact .inr ⟨_, _, _, rfl, Sit.base _ _ hi', hb⟩
    | enter f args w' v es' hS ha hb hi' hh =>
      obtain ⟨ops, i, rest, k, rfl, _⟩ := hh
      exact .inr ⟨_, _, _, rfl, Sit.up _ (enter_clean hB hS ha) (Und.base t ops i rest k hi'), hb⟩
    | ret hr => simp at hr
    | panic todo ch => exact .inl (Lost.up (b.at ⟨t, []⟩ todo) ch rfl Dead.sink)
  | @up f hcl l r hu =>
    have hkf : (f.kind == CallKind.early) = false := by rw [hcl.kind]; rfl
    rw [← hcl.at] at hs
    have := run_step (main := main) (ds := []) (kr := []) (cr := r) hkf hst hf (hopF f.fn hcl.name) hcl.items hcl.quiet (.inr ⟨rfl, rfl, rfl⟩) (fun _ => rfl) hp hs hd
    rw [hcl.at] at this
    generalize he : stepG P main (G f r) w = s at this
    cases this with
    | go t' its' w' v es' hi' hq hb => exact .inr ⟨_, _, _, rfl, Sit.up _ (Clean.of_at hcl.kind hcl.name hi' hq) hu, hb⟩
    | enter f2 args w' v es' hS ha hb hi' hh =>
      rw [hcl.at]
      exact .inr ⟨_, _, _, rfl, Sit.up _ (enter_clean hB hS ha) (Und.up f hcl hh hu), hb⟩
    | ret hr =>
      rw [hcl.at]
      exact .inr ⟨_, _, _, rfl, Sit.back f hcl hu, Beh.still hp⟩
    | panic todo ch => exact .inl (Lost.up (f.at ⟨f.tmps, []⟩ todo) ch rfl (und_dead hu))
  | @back f hcl l r hu =>
    obtain ⟨h1, h2, h3, h4, h5, h6, h7⟩ := hcl
    have key : ∀ (m : Bool) (cs : List Frame) (v : World), stepG P m (G { f with mode := .returning } cs) v =
        (match P.funcs[f.fn]? with
        | none => doReturn P m { f with mode := .returning } cs none (f.tmps.getD 0 undef) v
        | some fn =>
          match (results fn f.tmps).runT P v #[] with
          | (r, es) => GStep.after (seen P f.fn es) (match r with
            | .ok x w => doReturn P m { f with mode := .returning } cs none x w
            | .halt (.stuck s) w => .ended (.stuck s (({ f with mode := .returning } : Frame).pos P)) w
            | .halt _ w => .ended (.stuck "return: the result variables cannot be read" (({ f with mode := .returning } : Frame).pos P)) w)) := by
      intro m cs v
      simp only [G, stepG, unwind, h3]
      cases P.funcs[f.fn]? with
      | none => rfl
      | some fn =>
        dsimp only
        generalize (results fn f.tmps).runT P v #[] = z
        obtain ⟨z1, z2⟩ := z
        cases z1 with
        | ok a b => rfl
        | halt a b => cases a <;> rfl
    have ret : ∀ (m : Bool) (c : Frame) (cs : List Frame) (x : Value) (v : World), doReturn P m { f with mode := .returning } (c :: cs) none x v = .go (G (c.finish x) cs) v #[] := by
      intro m c cs x v
      simp [doReturn, h1, G]
    have land : ∀ (x : Value), ∃ c l2 c' r2, l = c :: l2 ∧ r = c' :: r2 ∧ Sit P S ok b ds kr cr (G (c.finish x) l2) (G (c'.finish x) r2) := by
      intro x
      cases hu with
      | base t ops i rest k hi =>
        refine ⟨_, _, _, _, rfl, rfl, ?_⟩
        have hfin : ∀ (d : List Deferred) (kk : List Item), (b.at ⟨t, d⟩ ((.inRegion ops (i :: rest) :: k) ++ kk)).finish x = b.at ⟨match (ops[i]?).bind (·.dst) with | some y => t.setIfInBounds y x | none => t, d⟩ ((.inRegion ops rest :: k) ++ kk) := by
          intro d kk
          cases e : (ops[i]?).bind (·.dst) <;> simp [Frame.finish, Frame.at, e]
        rw [hfin, hfin]
        exact Sit.base _ (.inRegion ops rest :: k) hi
      | up f2 hf2 hw2 hu2 => exact ⟨_, _, _, _, rfl, rfl, Sit.up _ (finish_clean hf2 hw2 x) hu2⟩
    rw [key] at hs
    rw [key]
    cases hfn : P.funcs[f.fn]? with
    | none =>
      rw [hfn] at hs
      obtain ⟨c, l2, c', r2, rfl, rfl, hsit⟩ := land (f.tmps.getD 0 undef)
      simp only [ret, GStep.go.injEq] at hs ⊢
      obtain ⟨rfl, rfl, rfl⟩ := hs
      exact .inr ⟨_, _, _, ⟨rfl, rfl, rfl⟩, hsit, Beh.still hp⟩
    | some fn =>
      rw [hfn] at hs
      cases hr : (results fn f.tmps).run P u with
      | halt x v =>
        simp only [Sem.runT_eq, hr] at hs
        cases x <;> simp [GStep.after] at hs
      | ok x v =>
        simp only [Sem.runT_eq, hr] at hs
        obtain ⟨c, l2, c', r2, rfl, rfl, hsit⟩ := land x
        simp only [ret, GStep.after, GStep.go.injEq] at hs
        obtain ⟨rfl, rfl, _⟩ := hs
        obtain ⟨w', es', e1, p1, f1, v1⟩ := (inferInstance : Mild P σ (results fn f.tmps)).sim H w u x v #[] hp hr hd
        simp only [e1, ret, GStep.after, GStep.go.injEq]
        exact .inr ⟨_, _, _, ⟨rfl, rfl, rfl⟩, hsit, p1, f1, fun e he => v1 e (by simpa using seen_sub _ _ _ e (by simpa using he))⟩
end
end Go.Proofs.Ytdedmmjmiakidaa
/- Plain words: what a goroutine alone does whatever it draws, it does though the draws are dealt anew before each step. No condition. -/
namespace Go.Proofs.Ytdedmmjmiakidaa
open Go.Conc

/-- The world with other draws ahead. -/
def World.deal (u : World) (t : Nat → Question → Nat) : World := { u with tape := t }

/-- A goroutine alone, on its way to a stop, whatever it draws. -/
inductive LI (P : Program) (Stop : Goroutine → World → Prop) : Goroutine → World → Prop
  | stop {g : Goroutine} {u : World} (h : ∀ t, Stop g (World.deal u t)) : LI P Stop g u
  | step {g : Goroutine} {u : World} (ng : (Nat → Question → Nat) → Goroutine) (nu : (Nat → Question → Nat) → World) (ne : (Nat → Question → Nat) → Array Event)
      (hs : ∀ t, stepG P true g (World.deal u t) = .go (ng t) (nu t) (ne t)) (ih : ∀ t, LI P Stop (ng t) (nu t)) : LI P Stop g u

/-- n steps of it. -/
def runG (P : Program) : Nat → Goroutine → World → Option (Goroutine × World)
  | 0, g, u => some (g, u)
  | n + 1, g, u => match stepG P true g u with
    | .go g' u' _ => runG P n g' u'
    | _ => none

/-- Nothing is spoilt. -/
def none0 : Poison := ⟨fun _ => False, fun _ => 0, fun _ => False⟩
instance : NoC none0 := ⟨fun _ h => h⟩

section
variable {P : Program} {ok : Oper → Bool} {S : Names} {b : Frame}

theorem und_id {l r : List Frame} (h : Und P S ok b [] tailL [sink] l r) : r = l := by
  induction h with
  | base t ops i rest k hi => rfl
  | up f hf _ _ ih => rw [ih]
theorem sit_id {g r : Goroutine} (h : Sit P S ok b [] tailL [sink] g r) : r = g := by
  cases h with
  | base t its hi => rfl
  | up f hf hu => rw [und_id hu]
  | back f hf hu => rw [und_id hu]

theorem und_len {l r : List Frame} {ds : List Deferred} {kr : List Item} {cr : List Frame} (h : Und P S ok b ds kr cr l r) : 2 ≤ l.length := by
  induction h with
  | base t ops i rest k hi => simp
  | up f hf _ _ ih => simp; omega
theorem lost_not {g : Goroutine} (h : Lost g) : ∀ t, g ≠ G (b.at ⟨t, []⟩ tailL) [sink] := by
  intro t e
  cases h with
  | up f ch hd hD =>
    have := congrArg (fun g : Goroutine => g.frame.mode) e
    simp [G, Frame.at] at this
  | sink ch =>
    have := congrArg (fun g : Goroutine => g.frame.mode) e
    simp [G, Frame.at] at this
theorem stop_ends {t : Array Value} {u : World} {g' : Goroutine} {u' : World} {es : Array Event} : stepG P true (G (b.at ⟨t, []⟩ tailL) [sink]) u ≠ .go g' u' es := by
  simp [G, stepG, stepG.exec, Frame.at, tailL]

theorem lost_run : ∀ (n : Nat) {g g' : Goroutine} {u u' : World}, Lost g → runG P n g u = some (g', u') → Lost g'
  | 0, g, g', u, u', h, e => by
    simp only [runG, Option.some.injEq, Prod.mk.injEq] at e
    rw [← e.1]; exact h
  | n + 1, g, g', u, u', h, e => by
    simp only [runG] at e
    split at e
    · rename_i g1 u1 es hs
      exact lost_run n (lost_step h hs) e
    · simp at e

/-- The draws that a step does not reach do not matter. -/
theorem loc (hk : (b.kind == CallKind.early) = false) (hst : ∀ g, P.stepOf g = none) (hf : P.follows .staticDataAhead = true)
    (hop : Lawful P none0 S ok []) (hopF : ∀ f, S f = true → Lawful P none0 S (okF P S f) (S.quiet f))
    (hB : ∀ f, S f = true → ∀ c, (P.funcs[f]?).bind (·.body) = some c → okC (okF P S f) true c = true)
    {g g' : Goroutine} {u u' : World} {t1 t2 : Nat → Question → Nat} {es : Array Event}
    (h : Sit P S ok b [] tailL [sink] g g) (hs : stepG P true g (World.deal u t1) = .go g' u' es) (ht : ∀ n q, u.drawn ≤ n → n < u'.drawn → t2 n q = t1 n q) :
    Lost g' ∨ ∃ es', stepG P true g (World.deal u t2) = .go g' (World.deal u' t2) es' ∧ Sit P S ok b [] tailL [sink] g' g' ∧ u.drawn ≤ u'.drawn := by
  have hp : Ps P none0 u'.drawn (World.deal u t2) (World.deal u t1) := by
    refine ⟨fun _ _ => rfl, fun _ h => h.elim, fun _ h => h.elim, rfl, rfl, rfl, fun j q hj => ?_, fun b _ _ _ => hst b⟩
    exact (ht _ q (by show u.drawn ≤ u.drawn + j; omega) hj).symm
  have hnot : ∀ t, g ≠ G (b.at ⟨t, []⟩ tailL) [sink] := by
    intro t e
    rw [e] at hs
    exact stop_ends hs
  rcases sit_step (main := true) hk hst hf hop hopF hB h hp hs (Nat.le_refl _) hnot with hl | ⟨r', w', es', h1, h2, h3⟩
  · exact .inl hl
  · have hr := sit_id h2
    subst hr
    obtain ⟨n, d1, d2⟩ := h3.fr.drawn
    have hw : w' = World.deal u' t2 := by
      obtain ⟨heap, tape, drawn, os, output⟩ := w'
      obtain ⟨heap', tape', drawn', os', output'⟩ := u'
      have e1 : heap' = heap := Array.ext_getElem? fun i => h3.ps.heap i fun h => h
      have e2 := h3.fr.tape
      have e3 := h3.ps.os
      have e4 := h3.ps.output
      simp only [World.deal] at *
      subst e1 e2 e3 e4
      simp only [World.mk.injEq, true_and, and_true]
      omega
    rw [hw] at h1
    exact .inr ⟨es', h1, h2, by change _ = u.drawn + n at d2; omega⟩

theorem deal_deal (u : World) (t t' : Nat → Question → Nat) : World.deal (World.deal u t) t' = World.deal u t' := rfl
theorem li_deal {Stop : Goroutine → World → Prop} {g : Goroutine} {u : World} {t : Nat → Question → Nat} (h : LI P Stop g (World.deal u t)) : LI P Stop g u := by
  cases h with
  | stop h => exact LI.stop h
  | step ng nu ne hs ih => exact LI.step ng nu ne hs ih
theorem li_undeal {Stop : Goroutine → World → Prop} {g : Goroutine} {u : World} {t : Nat → Question → Nat} (h : LI P Stop g u) : LI P Stop g (World.deal u t) := by
  cases h with
  | stop h => exact LI.stop h
  | step ng nu ne hs ih => exact LI.step ng nu ne hs ih

open Classical in
/-- Out of all runs. -/
theorem li_of_all (hk : (b.kind == CallKind.early) = false) (hst : ∀ g, P.stepOf g = none) (hf : P.follows .staticDataAhead = true)
    (hop : Lawful P none0 S ok []) (hopF : ∀ f, S f = true → Lawful P none0 S (okF P S f) (S.quiet f))
    (hB : ∀ f, S f = true → ∀ c, (P.funcs[f]?).bind (·.body) = some c → okC (okF P S f) true c = true)
    {Stop : Goroutine → World → Prop} (hS : ∀ g u t, Stop g u → Stop g (World.deal u t)) (hstop : ∀ g u, Stop g u → ¬ Lost g)
    {g0 : Goroutine} {u0 : World} (h0 : Sit P S ok b [] tailL [sink] g0 g0)
    (all : ∀ T, ∃ n g' u', runG P n g0 (World.deal u0 T) = some (g', u') ∧ Stop g' u') : LI P Stop g0 u0 := by
  apply Classical.byContradiction
  intro hn
  have pick : ∀ (s : Goroutine × World), ∃ τ : Nat → Question → Nat, ¬ LI P Stop s.1 s.2 → ∀ g' u' es, stepG P true s.1 (World.deal s.2 τ) = .go g' u' es → ¬ LI P Stop g' u' := by
    intro s
    apply Classical.byContradiction
    intro hc
    have hc2 : ¬ LI P Stop s.1 s.2 := fun h => hc ⟨fun _ _ => 0, fun h' => absurd h h'⟩
    have hc3 : ∀ τ, ∃ g' u' es, stepG P true s.1 (World.deal s.2 τ) = .go g' u' es ∧ LI P Stop g' u' := by
      intro τ
      apply Classical.byContradiction
      intro hc4
      exact hc ⟨τ, fun _ g' u' es e1 e2 => hc4 ⟨g', u', es, e1, e2⟩⟩
    refine hc2 (LI.step (fun τ => (hc3 τ).choose) (fun τ => (hc3 τ).choose_spec.choose) (fun τ => (hc3 τ).choose_spec.choose_spec.choose) (fun τ => (hc3 τ).choose_spec.choose_spec.choose_spec.1) (fun τ => (hc3 τ).choose_spec.choose_spec.choose_spec.2))
  obtain ⟨τ, hτ⟩ : ∃ τ : Goroutine × World → Nat → Question → Nat, ∀ s, ¬ LI P Stop s.1 s.2 → ∀ g' u' es, stepG P true s.1 (World.deal s.2 (τ s)) = .go g' u' es → ¬ LI P Stop g' u' :=
    ⟨fun s => (pick s).choose, fun s => (pick s).choose_spec⟩
  let nxt : Goroutine × World → Option (Goroutine × World) := fun s => match stepG P true s.1 (World.deal s.2 (τ s)) with
    | .go g' u' _ => if Lost g' then none else some (g', u')
    | _ => none
  let seq : Nat → Option (Goroutine × World) := fun i => Nat.rec (some (g0, u0)) (fun _ s => s.bind nxt) i
  have seq0 : seq 0 = some (g0, u0) := rfl
  have seqS : ∀ i, seq (i + 1) = (seq i).bind nxt := fun _ => rfl
  have nxt_some : ∀ s s', nxt s = some s' → ∃ es, stepG P true s.1 (World.deal s.2 (τ s)) = .go s'.1 s'.2 es ∧ ¬ Lost s'.1 := by
    intro s s' h
    simp only [nxt] at h
    split at h
    · rename_i g' u' es e
      split at h
      · simp at h
      · rename_i hl
        simp only [Option.some.injEq] at h
        subst h
        exact ⟨es, e, hl⟩
    · simp at h
  have sits : ∀ i s, seq i = some s → Sit P S ok b [] tailL [sink] s.1 s.1 ∧ ¬ LI P Stop s.1 s.2 := by
    intro i
    induction i with
    | zero => intro s h; rw [seq0] at h; simp only [Option.some.injEq] at h; subst h; exact ⟨h0, hn⟩
    | succ i ih =>
      intro s h
      rw [seqS] at h
      cases e : seq i with
      | none => rw [e] at h; simp at h
      | some s0 =>
        rw [e] at h
        obtain ⟨es, h1, h2⟩ := nxt_some s0 s h
        obtain ⟨i1, i2⟩ := ih s0 e
        rcases loc (t2 := τ s0) hk hst hf hop hopF hB i1 h1 (fun _ _ _ _ => rfl) with hl | ⟨_, _, i3, _⟩
        · exact absurd hl h2
        · exact ⟨i3, hτ s0 i2 _ _ _ h1⟩
  have mono1 : ∀ i s s', seq i = some s → seq (i + 1) = some s' → s.2.drawn ≤ s'.2.drawn := by
    intro i s s' h h'
    rw [seqS, h] at h'
    obtain ⟨es, h1, h2⟩ := nxt_some s s' h'
    rcases loc (t2 := τ s) hk hst hf hop hopF hB (sits i s h).1 h1 (fun _ _ _ _ => rfl) with hl | ⟨_, _, _, h4⟩
    · exact absurd hl h2
    · exact h4
  have prev : ∀ i s', seq (i + 1) = some s' → ∃ s, seq i = some s := by
    intro i s' h
    rw [seqS] at h
    cases e : seq i with
    | none => rw [e] at h; simp at h
    | some s => exact ⟨s, rfl⟩
  have mono : ∀ d i s s', seq i = some s → seq (i + d) = some s' → s.2.drawn ≤ s'.2.drawn := by
    intro d
    induction d with
    | zero => intro i s s' h h'; rw [Nat.add_zero, h] at h'; simp only [Option.some.injEq] at h'; rw [h']; exact Nat.le_refl _
    | succ d ih =>
      intro i s s' h h'
      obtain ⟨s1, e⟩ := prev (i + d) s' h'
      exact Nat.le_trans (ih i s s1 h e) (mono1 _ _ _ e h')
  let At : Nat → Nat → (Goroutine × World) → Prop := fun n i s => seq i = some s ∧ s.2.drawn ≤ n ∧ ∀ s', seq (i + 1) = some s' → n < s'.2.drawn
  have uniq : ∀ n i j s s', At n i s → At n j s' → i = j := by
    have half : ∀ n i j s s', At n i s → At n j s' → ¬ i < j := by
      intro n i j s s' h h' hlt
      obtain ⟨d, rfl⟩ : ∃ d, j = i + 1 + d := ⟨j - (i + 1), by omega⟩
      have h1 : ∀ d s', seq (i + 1 + d) = some s' → ∃ s1, seq (i + 1) = some s1 := by
        intro d
        induction d with
        | zero => intro s' h; exact ⟨s', h⟩
        | succ d ih => intro s' h; obtain ⟨s2, e⟩ := prev _ _ h; exact ih s2 e
      obtain ⟨s1, e1⟩ := h1 d s' h'.1
      have := h.2.2 s1 e1
      have := mono d (i + 1) s1 s' e1 h'.1
      have := h'.2.1
      omega
    intro n i j s s' h h'
    rcases Nat.lt_trichotomy i j with h1 | h1 | h1
    · exact absurd h1 (half n i j s s' h h')
    · exact h1
    · exact absurd h1 (half n j i s' s h' h)
  let T : Nat → Question → Nat := fun n q => if h : ∃ i s, At n i s then τ h.choose_spec.choose n q else 0
  have hT : ∀ n i s q, At n i s → T n q = τ s n q := by
    intro n i s q h
    have hex : ∃ i s, At n i s := ⟨i, s, h⟩
    have e1 := hex.choose_spec.choose_spec
    have e2 := uniq n i hex.choose s hex.choose_spec.choose h e1
    have e3 : s = hex.choose_spec.choose := by
      have h1 := h.1
      have h2 := congrArg seq e2
      have h3 := h1.symm.trans (h2.trans e1.1)
      simpa using h3
    show (if h : ∃ i s, At n i s then τ h.choose_spec.choose n q else 0) = _
    rw [dif_pos hex, ← e3]
  obtain ⟨n, gs, us, hrun, hS'⟩ := all T
  have main : ∀ i, i ≤ n → ∃ s, seq i = some s ∧ runG P (n - i) s.1 (World.deal s.2 T) = some (gs, us) := by
    intro i
    induction i with
    | zero => intro _; exact ⟨_, seq0, hrun⟩
    | succ i ih =>
      intro hi
      obtain ⟨s, e, hr⟩ := ih (by omega)
      obtain ⟨i1, i2⟩ := sits i s e
      have hni : n - i = (n - (i + 1)) + 1 := by omega
      rw [hni] at hr
      simp only [runG] at hr
      cases hs : stepG P true s.1 (World.deal s.2 T) with
      | go g1 u1 es =>
        rw [hs] at hr
        have hr : runG P (n - (i + 1)) g1 u1 = some (gs, us) := hr
        have hnl : ¬ Lost g1 := by
          intro hl
          exact hstop gs us hS' (lost_run _ hl hr)
        cases e2 : seq (i + 1) with
        | some s2 =>
          have e3 := e2
          rw [seqS, e] at e3
          obtain ⟨es2, h1, h2⟩ := nxt_some s s2 e3
          rcases loc (t2 := T) hk hst hf hop hopF hB i1 h1 (fun m q hm1 hm2 => hT m i s q ⟨e, hm1, fun s' hs' => by rw [e2] at hs'; simp only [Option.some.injEq] at hs'; rw [← hs']; exact hm2⟩) with hl | ⟨_, h3, _, _⟩
          · exact absurd hl h2
          · rw [hs] at h3
            simp only [GStep.go.injEq] at h3
            refine ⟨s2, rfl, ?_⟩
            rw [← h3.1, ← h3.2.1]
            exact hr
        | none =>
          exfalso
          rcases loc (t2 := τ s) hk hst hf hop hopF hB i1 hs (fun m q hm1 _ => (hT m i s q ⟨e, hm1, fun s' hs' => by rw [e2] at hs'; simp at hs'⟩).symm) with hl | ⟨_, h3, _, _⟩
          · exact hnl hl
          · rw [seqS, e] at e2
            simp only [Option.bind_some, nxt, h3] at e2
            rw [if_neg hnl] at e2
            simp at e2
      | _ => rw [hs] at hr; simp at hr
  obtain ⟨s, e, hr⟩ := main n (Nat.le_refl _)
  rw [Nat.sub_self] at hr
  simp only [runG, Option.some.injEq, Prod.mk.injEq] at hr
  obtain ⟨r1, r2⟩ := hr
  refine (sits n s e).2 (LI.stop fun t => ?_)
  rw [r1, ← deal_deal s.2 T t, r2]
  exact hS _ _ _ hS'

theorem lost_calm {g : Goroutine} {u : World} (h : Lost g) : CalmStep (stepG P true g u) := by
  cases h with
  | up f ch hd hD =>
    have key : ∀ (c : Frame) (l : List Frame), CalmStep (stepG P true (G { f with mode := .panicking ch } (c :: l)) u) := by
      intro c l
      simp only [G, stepG, unwind, hd]
      split
      · exact .ended
      · exact .go
    cases hD with
    | sink => exact key _ _
    | up f2 hd2 hm hD2 => exact key _ _
  | sink ch =>
    simp [G, stepG, unwind, sink, callDeferred]
    exact .ended

theorem sit_calm (hk : (b.kind == CallKind.early) = false) (hst : ∀ g, P.stepOf g = none) (hf : P.follows .staticDataAhead = true)
    (hop : Lawful P none0 S ok []) (hopF : ∀ f, S f = true → Lawful P none0 S (okF P S f) (S.quiet f))
    {g r : Goroutine} {u : World} (h : Sit P S ok b [] tailL [sink] g r) : CalmStep (stepG P true g u) := by
  cases h with
  | base t its hi =>
    by_cases hne : its = []
    · subst hne
      simp [G, stepG, stepG.exec, Frame.at, tailL]
      exact .ended
    · exact run_calm hk hst hf hop (fun s hs => by cases hs) hi (.inl hne)
  | @up f hcl l r hu =>
    have hkf : (f.kind == CallKind.early) = false := by rw [hcl.kind]; rfl
    have := run_calm (t := f.tmps) (ds := []) (kl := []) (cl := l) (u := u) hkf hst hf (hopF f.fn hcl.name) hcl.quiet hcl.items (.inr rfl)
    rw [hcl.at] at this
    exact this
  | @back f hcl l r hu =>
    obtain ⟨h1, h2, h3, h4, h5, h6, h7⟩ := hcl
    have ret : ∀ (x : Value) (v : World), CalmStep (doReturn P true { f with mode := .returning } l none x v) := by
      intro x v
      cases hu <;> (simp [doReturn, h1]; exact .go)
    simp only [G, stepG, unwind, h3]
    cases hfn : P.funcs[f.fn]? with
    | none =>
      have := ret (f.tmps.getD 0 undef) u
      rw [h3] at this
      exact this
    | some fn =>
      cases hr : (results fn f.tmps).run P u with
      | halt x v =>
        simp only [Sem.runT_eq, hr]
        cases x <;> exact .ended
      | ok x v =>
        simp only [Sem.runT_eq, hr]
        have := ret x v
        rw [h3] at this
        rcases this with ⟨a, b, c, e⟩ | ⟨a, b, c, e⟩ <;> rw [e]
        · exact .go
        · exact .ended

theorem fine_run (hk : (b.kind == CallKind.early) = false) (hst : ∀ g, P.stepOf g = none) (hf : P.follows .staticDataAhead = true)
    (hop : Lawful P none0 S ok []) (hopF : ∀ f, S f = true → Lawful P none0 S (okF P S f) (S.quiet f))
    (hB : ∀ f, S f = true → ∀ c, (P.funcs[f]?).bind (·.body) = some c → okC (okF P S f) true c = true) {fr' : Frame} {cs' : List Frame} {u' : World} :
    ∀ (n : Nat) {fr : Frame} {cs : List Frame} {u : World}, (Sit P S ok b [] tailL [sink] (G fr cs) (G fr cs) ∨ Lost (G fr cs)) → runN P n (lone fr cs u) = .next (lone fr' cs' u') → runG P n (G fr cs) u = some (G fr' cs', u')
  | 0, fr, cs, u, _, h => by
    simp only [runN, Stepped.next.injEq, lone, Machine.mk.injEq, Array.mk.injEq, List.cons.injEq, Goroutine.mk.injEq] at h
    simp only [runG, G, Option.some.injEq, Prod.mk.injEq, Goroutine.mk.injEq]
    obtain ⟨h1, ⟨⟨h2, h3, _⟩, _⟩, _⟩ := h
    subst h1 h2 h3
    simp
  | n + 1, fr, cs, u, hF, h => by
    have hc : CalmStep (stepG P true (G fr cs) u) := by
      rcases hF with hF | hF
      · exact sit_calm hk hst hf hop hopF hF
      · exact lost_calm hF
    simp only [runN] at h
    simp only [runG]
    rcases hc with ⟨g1, u1, es, e⟩ | ⟨o, u1, es, e⟩
    · have hF1 : Sit P S ok b [] tailL [sink] g1 g1 ∨ Lost g1 := by
        rcases hF with hF | hF
        · have hp : Ps P none0 u1.drawn u u := ⟨fun _ _ => rfl, fun _ h => h.elim, fun _ h => h.elim, rfl, rfl, rfl, fun _ _ _ => rfl, fun b _ _ _ => hst b⟩
          have hnot : ∀ t, G fr cs ≠ G (b.at ⟨t, []⟩ tailL) [sink] := by
            intro t e2
            rw [e2] at e
            exact stop_ends e
          rcases sit_step (main := true) hk hst hf hop hopF hB hF hp e (Nat.le_refl _) hnot with hl | ⟨r', _, _, _, h2, _⟩
          · exact .inr hl
          · have := sit_id h2
            subst this
            exact .inl h2
        · exact .inr (lost_step hF e)
      have hg : ∃ fr1 cs1, g1 = G fr1 cs1 := by
        rcases hF1 with hF1 | hF1
        · cases hF1 <;> exact ⟨_, _, rfl⟩
        · cases hF1 <;> exact ⟨_, _, rfl⟩
      obtain ⟨fr1, cs1, rfl⟩ := hg
      have hst1 : step P (lone fr cs u) = .next (lone fr1 cs1 u1) := step_lone_go (by
        change (stepG P true (G fr cs) u).bare = _
        rw [e]; rfl)
      rw [hst1] at h
      rw [e]
      exact fine_run hk hst hf hop hopF hB n hF1 h
    · have hst1 : step P (lone fr cs u) = .ended o u1 := step_lone_ended (by
        change (stepG P true (G fr cs) u).bare = _
        rw [e]; rfl)
      rw [hst1] at h
      simp at h

theorem lost_base {g : Goroutine} (h : Lost g) (t : Array Value) (k : List Item) (cs : List Frame) : g ≠ G (b.at ⟨t, []⟩ k) cs := by
  intro e
  cases h with
  | up f ch hd hD =>
    have := congrArg (fun g : Goroutine => g.frame.mode) e
    simp [G, Frame.at] at this
  | sink ch =>
    have := congrArg (fun g : Goroutine => g.frame.mode) e
    simp [G, Frame.at] at this

/-- Where a walk alone is to end. -/
def Ends (b : Frame) (its : List Item) (Q : Array Value → World → Prop) (g : Goroutine) (u : World) : Prop := ∃ t', g = G (b.at ⟨t', []⟩ (its ++ tailL)) [sink] ∧ Q t' u

/-- Out of the lone walk, whatever is drawn. -/
theorem li_of_steps (hk : (b.kind == CallKind.early) = false) (hst : ∀ g, P.stepOf g = none) (hf : P.follows .staticDataAhead = true)
    (hop : Lawful P none0 S ok []) (hopF : ∀ f, S f = true → Lawful P none0 S (okF P S f) (S.quiet f))
    (hB : ∀ f, S f = true → ∀ c, (P.funcs[f]?).bind (·.body) = some c → okC (okF P S f) true c = true)
    {Q : Array Value → World → Prop} (hQt : ∀ t u T, Q t u → Q t (World.deal u T))
    {its its' : List Item} (hi : okItems ok false its = true) {t : Array Value} {u : World}
    (h : ∀ T, ∃ t' u', Q t' u' ∧ Steps P (lone (b.at ⟨t, []⟩ (its ++ tailL)) [sink] (World.deal u T)) (lone (b.at ⟨t', []⟩ (its' ++ tailL)) [sink] u')) :
    LI P (Ends b its' Q) (G (b.at ⟨t, []⟩ (its ++ tailL)) [sink]) u := by
  have hs0 : Sit P S ok b [] tailL [sink] (G (b.at ⟨t, []⟩ (its ++ tailL)) [sink]) (G (b.at ⟨t, []⟩ (its ++ tailL)) [sink]) := Sit.base t its hi
  refine li_of_all hk hst hf hop hopF hB (fun g u t h => ?_) (fun g u h => ?_) hs0 fun T => ?_
  · obtain ⟨t', e, q⟩ := h
    exact ⟨t', e, hQt _ _ _ q⟩
  · obtain ⟨t', e, q⟩ := h
    exact fun hl => lost_base hl _ _ _ e
  · obtain ⟨t', u', q, n, hn⟩ := h T
    exact ⟨n, _, _, fine_run hk hst hf hop hopF hB n (.inl hs0) hn, t', rfl, q⟩

/-- A part of a region, alone. -/
theorem steps_ops {ops : Array Oper} {Q : Exit → Act → World → Prop} (hQ : ∀ e a w, Q e a w → e = .normal) (l : List Nat) :
    ∀ (a : Act) (w : World), wpOps P ops Q l a w → ∀ (b : Frame) (l2 : List Nat) (k : List Item) (cs : List Frame), b.kind ≠ .early →
      ∃ a' w', Q .normal a' w' ∧ Steps P (lone (b.at a (.inRegion ops (l ++ l2) :: k)) cs w) (lone (b.at a' (.inRegion ops l2 :: k)) cs w') := by
  have hno : ¬ LetsOut Q := fun ⟨a, w, q⟩ => by have := hQ _ _ _ q; cases this
  induction l with
  | nil => exact fun a w h b l2 k cs _ => ⟨a, w, h, Steps.refl _ _⟩
  | cons i rest ih =>
    intro a w h b l2 k cs hk
    simp only [wpOps] at h
    simp only [List.cons_append]
    cases ho : ops[i]? with
    | none =>
      simp only [ho] at h
      obtain ⟨a', w', hq, harr⟩ := ih a w h b l2 k cs hk
      have hs := step_op_skip (P := P) (b := b) (a := a) (k := k) (cs := cs) (w := w) (ops := ops) (i := i) (rest := rest ++ l2) (by simp [ho])
      simp only [ho, Option.bind_none, Act.put] at hs
      exact ⟨a', w', hq, .head hs harr⟩
    | some o =>
      simp only [ho] at h
      by_cases hw : Region.wanted o (yielded ops a.tmps) = true
      · simp only [hw, if_true] at h
        replace h := h.resolve_right fun h => hno h.2
        simp only [Oper.wp, Oper.upon] at h
        have hg := stepG_op (P := P) (b := b) (k := k) (cs := cs) (w := w) (rest := rest ++ l2) ho hw
        have hfin : ∀ v, (b.at a (.inRegion ops (i :: (rest ++ l2)) :: k)).finish v = b.at (a.put o.dst v) (.inRegion ops (rest ++ l2) :: k) := by
          intro v; rw [Frame.finish_at, ho]; rfl
        split at h
        · rename_i v w' hr
          obtain ⟨a', w'', hq, harr⟩ := ih _ _ h b l2 k cs hk
          refine ⟨a', w'', hq, .head (step_lone_go ?_) harr⟩
          rw [hg, ← hfin]; simp [stepG.apply, hr]
        · rename_i w' hr
          obtain ⟨a', w'', hq, harr⟩ := ih _ _ h b l2 k cs hk
          refine ⟨a', w'', hq, .head (step_lone_go ?_) harr⟩
          rw [hg, ← hfin]; simp [stepG.apply, hr]
        · rename_i d w' hr
          obtain ⟨a', w'', hq, harr⟩ := ih _ _ h b l2 k cs hk
          refine ⟨a', w'', hq, .head (step_lone_go ?_) harr⟩
          have : ({ b.at a (.inRegion ops (i :: (rest ++ l2)) :: k) with defers := d :: a.defers } : Frame).finish undef =
              b.at ({ a with defers := d :: a.defers }.put o.dst undef) (.inRegion ops (rest ++ l2) :: k) := by
            have := Frame.finish_at b { a with defers := d :: a.defers } ops i (rest ++ l2) k undef
            rw [ho] at this; exact this
          rw [hg]; simp only [stepG.apply, Sem.runT_eq, hr, GStep.bare_after]
          exact congrArg (fun fr => GStep.go { frame := fr, callers := cs, status := .running, dying := none } w') this
        · rename_i f args w' hr
          obtain ⟨e, w'', fr, hR, hsteps, _, hleave⟩ := h (b.at a (.inRegion ops (i :: (rest ++ l2)) :: k) :: cs)
          have henter : step P (lone (b.at a (.inRegion ops (i :: (rest ++ l2)) :: k)) cs w) =
              .next (lone (Frame.enter P f args .normal) (b.at a (.inRegion ops (i :: (rest ++ l2)) :: k) :: cs) w') :=
            step_lone_go (by rw [hg]; simp [stepG.apply, hr, Frame.at])
          cases e with
          | returned v =>
            obtain ⟨a', w₃, hq, harr⟩ := ih _ _ hR b l2 k cs hk
            refine ⟨a', w₃, hq, .head henter (Steps.trans hsteps (.head ?_ harr))⟩
            rw [← hfin]; exact step_leave_returned hleave
          | panicked chain => have := hQ _ _ _ hR; cases this
          | outgrown => exact absurd hR hno
        · rename_i row args w' hr
          obtain ⟨v, w'', hR, hsteps⟩ := h (b.at a (.inRegion ops (i :: (rest ++ l2)) :: k)) cs
          have henter : step P (lone (b.at a (.inRegion ops (i :: (rest ++ l2)) :: k)) cs w) =
              .next (lone (Frame.ofRow P row args .normal) (b.at a (.inRegion ops (i :: (rest ++ l2)) :: k) :: cs) w') :=
            step_lone_go (by rw [hg]; simp [stepG.apply, hr, Frame.at])
          obtain ⟨a', w₃, hq, harr⟩ := ih _ _ hR b l2 k cs hk
          refine ⟨a', w₃, hq, .head henter (Steps.trans hsteps ?_)⟩
          rw [hfin]; exact harr
        · rename_i v w' hr
          have := hQ _ _ _ h; cases this
        · exact h.elim
      · simp only [hw, if_false, Bool.false_eq_true] at h
        obtain ⟨a', w', hq, harr⟩ := ih _ _ h b l2 k cs hk
        have hs := step_op_skip (P := P) (b := b) (a := a) (k := k) (cs := cs) (w := w) (ops := ops) (i := i) (rest := rest ++ l2)
          (by simp [ho]; simpa using hw)
        simp only [ho, Option.bind_some] at hs
        exact ⟨a', w', hq, .head hs harr⟩
end
end Go.Proofs.Ytdedmmjmiakidaa
/- Plain words: what a goroutine alone does whatever it draws, it does in company, the others touching spoilt blocks alone. No condition. -/
namespace Go.Proofs.Ytdedmmjmiakidaa
open Go.Conc

/-- A goroutine on its way to a stop, the others turning the world by R before each of its steps. -/
inductive GoesI (P : Program) (main : Bool) (R : World → World → Prop) (D : World → World → Array Event → Prop) (Stop : Goroutine → World → Prop) : Goroutine → World → Prop
  | stop {g : Goroutine} {w : World} (h : ∀ w₁, R w w₁ → Stop g w₁) : GoesI P main R D Stop g w
  | step {g : Goroutine} {w : World} (ng : World → Goroutine) (nw : World → World) (ne : World → Array Event) (hr : g.status = .running)
      (hs : ∀ w₁, R w w₁ → stepG P main g w₁ = .go (ng w₁) (nw w₁) (ne w₁)) (hd : ∀ w₁, R w w₁ → D w₁ (nw w₁) (ne w₁)) (ih : ∀ w₁, R w w₁ → GoesI P main R D Stop (ng w₁) (nw w₁)) : GoesI P main R D Stop g w

section
variable {P : Program} {main : Bool} {R : World → World → Prop} {D : World → World → Array Event → Prop} {Stop Stop' : Goroutine → World → Prop}

theorem GoesI.rely (trans : ∀ a b c, R a b → R b c → R a c) {g : Goroutine} {w w₁ : World} (h : GoesI P main R D Stop g w) (hr : R w w₁) : GoesI P main R D Stop g w₁ := by
  cases h with
  | stop h => exact .stop fun w₂ h₂ => h w₂ (trans _ _ _ hr h₂)
  | step ng nw ne h1 hs hd ih => exact .step ng nw ne h1 (fun w₂ h₂ => hs w₂ (trans _ _ _ hr h₂)) (fun w₂ h₂ => hd w₂ (trans _ _ _ hr h₂)) fun w₂ h₂ => ih w₂ (trans _ _ _ hr h₂)

/-- Behind the stop another way. -/
theorem GoesI.bind (refl : ∀ w, R w w) (trans : ∀ a b c, R a b → R b c → R a c) {g : Goroutine} {w : World} (h : GoesI P main R D Stop g w) (k : ∀ g w, Stop g w → GoesI P main R D Stop' g w) : GoesI P main R D Stop' g w := by
  induction h with
  | @stop g w h =>
    have := k g w (h w (refl w))
    exact this
  | step ng nw ne h1 hs hd _ ih => exact .step ng nw ne h1 hs hd ih

/-- One step. -/
theorem GoesI.one {g : Goroutine} {w : World} (hr : g.status = .running) (h : ∀ w₁, R w w₁ → ∃ g' w' es, stepG P main g w₁ = .go g' w' es ∧ D w₁ w' es ∧ GoesI P main R D Stop g' w') : GoesI P main R D Stop g w := by
  by_cases hx : ∃ w₁, R w w₁
  · have : ∀ w₁, ∃ g' w' es, R w w₁ → stepG P main g w₁ = .go g' w' es ∧ D w₁ w' es ∧ GoesI P main R D Stop g' w' := by
      intro w₁
      by_cases hw : R w w₁
      · obtain ⟨g', w', es, x⟩ := h w₁ hw
        exact ⟨g', w', es, fun _ => x⟩
      · exact ⟨g, w, #[], fun h => absurd h hw⟩
    exact .step (fun w₁ => (this w₁).choose) (fun w₁ => (this w₁).choose_spec.choose) (fun w₁ => (this w₁).choose_spec.choose_spec.choose) hr
      (fun w₁ hw => ((this w₁).choose_spec.choose_spec.choose_spec hw).1) (fun w₁ hw => ((this w₁).choose_spec.choose_spec.choose_spec hw).2.1) (fun w₁ hw => ((this w₁).choose_spec.choose_spec.choose_spec hw).2.2)
  · exact .stop fun w₁ hw => absurd ⟨w₁, hw⟩ hx

/-- Out of the kit's judgement. -/
theorem GoesI.of_goes : ∀ (n : Nat) {g : Goroutine} {w : World}, Goes P main R D Stop n g w → GoesI P main R D Stop g w
  | 0, g, w, h => .stop h
  | n + 1, g, w, h => by
    rcases h with h | ⟨hr, h⟩
    · exact .stop h
    · refine GoesI.one hr fun w₁ hw => ?_
      have := h w₁ hw
      cases hs : stepG P main g w₁ with
      | go g' w' es => rw [hs] at this; exact ⟨g', w', es, rfl, this.1, GoesI.of_goes n this.2⟩
      | _ => rw [hs] at this; exact this.elim
end

/-- What the others may do to the world, as the spoilt one sees it: they leave all blocks but the spoilt ones, and these stay what they are. -/
structure Others (P : Program) (σ : Poison) (w w₁ : World) : Prop where
  heap : ∀ b, ¬ σ.F b → w₁.heap[b]? = w.heap[b]?
  real : ∀ b, σ.F b → (∃ c, w.heap[b]? = some (.cells c (σ.ty b) (0, 0))) → ∃ c, w₁.heap[b]? = some (.cells c (σ.ty b) (0, 0))
  size : w₁.heap.size = w.heap.size
  tape : w₁.tape = w.tape
  os : w₁.os = w.os
  output : w₁.output = w.output

/-- The spoilt world beside the true one, the draws apart. -/
def Ps0 (P : Program) (σ : Poison) (w u : World) : Prop := Ps P σ u.drawn w u

section
variable {P : Program} {σ : Poison}
theorem Ps.others {H : Nat} {w w₁ u : World} (hp : Ps P σ H w u) (h : Others P σ w w₁) : Ps0 P σ w₁ u := by
  refine ⟨fun b hb => (hp.heap b hb).trans (h.heap b hb).symm, hp.bad, fun b hb => h.real b hb (hp.real b hb), hp.size.trans h.size.symm, hp.os.trans h.os.symm, hp.output.trans h.output.symm, fun j q hj => by omega, fun b c t hb => ?_⟩
  by_cases hF : σ.F b
  · obtain ⟨c', hc'⟩ := h.real b hF (hp.real b hF)
    rw [hc'] at hb
    cases hb
  · rw [h.heap b hF] at hb
    exact hp.pend b c t hb
/-- .. with the same draws ahead. -/
theorem Ps0.deal {w u : World} (hp : Ps0 P σ w u) : ∀ H, Ps P σ H w (World.deal u fun n => w.tape (w.drawn + (n - u.drawn))) := by
  intro H
  refine ⟨hp.heap, hp.bad, hp.real, hp.size, hp.os, hp.output, fun j q _ => ?_, hp.pend⟩
  show w.tape (w.drawn + (u.drawn + j - u.drawn)) q = _
  rw [Nat.add_sub_cancel_left]
theorem Ps.off {H : Nat} {w u : World} (hp : Ps P σ H w u) : Ps0 P σ w u := ⟨hp.heap, hp.bad, hp.real, hp.size, hp.os, hp.output, fun j q hj => by omega, hp.pend⟩

theorem lost_li {b : Frame} {its : List Item} {Q : Array Value → World → Prop} {g : Goroutine} {u : World} (h : LI P (Ends b its Q) g u) (hl : Lost g) : False := by
  induction h with
  | @stop g u h =>
    obtain ⟨t, e, _⟩ := h u.tape
    exact lost_base hl _ _ _ e
  | @step g u ng nu ne hs _ ih => exact ih u.tape (lost_step hl (hs u.tape))

/-- ████ THE EMBEDDING. ████ -/
theorem goes_of_li {ok : Oper → Bool} {S : Names} {b : Frame} {main : Bool} {R : World → World → Prop} {D : World → World → Array Event → Prop} {Stop : Goroutine → World → Prop} {K : World → World → Prop}
    (hk : (b.kind == CallKind.early) = false) (hst : ∀ g, P.stepOf g = none) (hf : P.follows .staticDataAhead = true)
    (hop : Lawful P σ S ok []) (hopF : ∀ f, S f = true → Lawful P σ S (okF P S f) (S.quiet f))
    (hB : ∀ f, S f = true → ∀ c, (P.funcs[f]?).bind (·.body) = some c → okC (okF P S f) true c = true)
    (hR : ∀ w w₁, R w w₁ → Others P σ w w₁) (hKR : ∀ w w₁, R w w₁ → K w w₁) (hKF : ∀ w w' u u', Fr σ w w' u u' → K w w') (hKt : ∀ a b c, K a b → K b c → K a c)
    (hD : ∀ w w' u u' es, Fr σ w w' u u' → (∀ e ∈ es, EvOk σ.F w'.heap.size e) → D w w' es)
    {ds : List Deferred} {kr : List Item} {cr : List Frame} {its : List Item} {Q : Array Value → World → Prop} {w0 : World}
    (hQ : ∀ t u' w', Q t u' → Ps0 P σ w' u' → K w0 w' → GoesI P main R D Stop (G (b.at ⟨t, ds⟩ (its ++ kr)) cr) w')
    {g : Goroutine} {u : World} (h : LI P (Ends b its Q) g u) :
    ∀ {r : Goroutine} {w : World}, Sit P S ok b ds kr cr g r → Ps0 P σ w u → K w0 w → GoesI P main R D Stop r w := by
  induction h with
  | @stop g u h =>
    intro r w hs hp hK
    obtain ⟨t, rfl, q⟩ := h u.tape
    have hr : r = G (b.at ⟨t, ds⟩ (its ++ kr)) cr := by
      generalize hg : G (b.at ⟨t, []⟩ (its ++ tailL)) [sink] = g at hs
      cases hs with
      | base t' its' hi =>
        have h1 := congrArg (fun g : Goroutine => g.frame.tmps) hg
        have h2 := congrArg (fun g : Goroutine => g.frame.todo) hg
        simp only [G, Frame.at] at h1 h2
        have h3 : its = its' := List.append_cancel_right h2
        subst h1 h3
        rfl
      | up f hcl hu =>
        have h2 := congrArg (fun g : Goroutine => g.callers.length) hg
        have := und_len hu
        simp [G] at h2
        omega
      | back f hcl hu =>
        have h2 := congrArg (fun g : Goroutine => g.callers.length) hg
        have := und_len hu
        simp [G] at h2
        omega
    rw [hr]
    exact hQ t _ _ q hp hK
  | @step g u ng nu ne hs ih ihh =>
    intro r w hsit hp hK
    have hrun : r.status = .running := by cases hsit <;> rfl
    by_cases hstop : ∃ t, g = G (b.at ⟨t, []⟩ tailL) [sink]
    · obtain ⟨t, rfl⟩ := hstop
      exact absurd (hs u.tape) stop_ends
    · refine GoesI.one hrun fun w₁ hw => ?_
      have hp1 : Ps0 P σ w₁ u := Ps.others hp (hR _ _ hw)
      let T : Nat → Question → Nat := fun n => w₁.tape (w₁.drawn + (n - u.drawn))
      rcases sit_step (main := main) (H := (nu T).drawn) hk hst hf hop hopF hB hsit (hp1.deal _) (hs T) (Nat.le_refl _) (fun t e => hstop ⟨t, e⟩) with hl | ⟨r', w', es', h1, h2, h3⟩
      · exact (lost_li (ih T) hl).elim
      · exact ⟨r', w', es', h1, hD _ _ _ _ _ h3.fr h3.ev, ihh T h2 h3.ps.off (hKt _ _ _ hK (hKt _ _ _ (hKR _ _ hw) (hKF _ _ _ _ h3.fr)))⟩

/-- The world, its blocks spoilt. -/
noncomputable def spoil (σ : Poison) (w : World) : World := by
  classical
  exact { w with heap := w.heap.mapIdx fun i o => if σ.F i then .cells #[] (σ.ty i) (0, 0) else o }
theorem spoil_ps (hst : ∀ g, P.stepOf g = none) {w : World} (real : ∀ b, σ.F b → ∃ c, w.heap[b]? = some (.cells c (σ.ty b) (0, 0))) : Ps0 P σ w (spoil σ w) := by
  unfold spoil
  refine ⟨fun b hb => ?_, fun b hb => ?_, real, by simp, rfl, rfl, fun j q hj => by omega, fun b c t _ => hst b⟩
  · simp only [Array.getElem?_mapIdx]
    cases w.heap[b]? with
    | none => rfl
    | some o => simp [hb]
  · simp only [Array.getElem?_mapIdx]
    obtain ⟨c, hc⟩ := real b hb
    rw [hc]
    simp [hb]

/-- What is asked of the program, of its operations and of the functions that are called. -/
structure Fit (P : Program) (σ : Poison) (ok : Op → Bool) (S : Names) : Prop where
  steps : ∀ g, P.stepOf g = none
  ahead : P.follows .staticDataAhead = true
  op : ∀ ρ : Operand → Value, Reads ρ → ∀ o : Oper, ok o.op = true → Tame P σ S (execOp ρ o)
  op0 : ∀ ρ : Operand → Value, Reads ρ → ∀ o : Oper, ok o.op = true → Tame P none0 S (execOp ρ o)
  opF : ∀ f, S f = true → Lawful P σ S (okF P S f) (S.quiet f)
  opF0 : ∀ f, S f = true → Lawful P none0 S (okF P S f) (S.quiet f)
  body : ∀ f, S f = true → ∀ c, (P.funcs[f]?).bind (·.body) = some c → okC (okF P S f) true c = true
theorem Fit.base {P : Program} {σ : Poison} {ok : Op → Bool} {S : Names} (F : Fit P σ ok S) : Lawful P σ S (fun o => ok o.op) [] := ⟨fun ρ hρ _ o ho => F.op ρ hρ o ho, fun _ _ _ _ _ d hd => by cases hd⟩
theorem Fit.base0 {P : Program} {σ : Poison} {ok : Op → Bool} {S : Names} (F : Fit P σ ok S) : Lawful P none0 S (fun o => ok o.op) [] := ⟨fun ρ hρ _ o ho => F.op0 ρ hρ o ho, fun _ _ _ _ _ d hd => by cases hd⟩

/-- How the others' doing, and what is kept and may be listed, lie to what is spoilt. -/
structure Suits (P : Program) (σ : Poison) (R : World → World → Prop) (D : World → World → Array Event → Prop) (K : World → World → Prop) : Prop where
  oth : ∀ w w₁, R w w₁ → Others P σ w w₁
  kr : ∀ w w₁, R w w₁ → K w w₁
  kf : ∀ w w' u u', Fr σ w w' u u' → K w w'
  refl : ∀ w, K w w
  trans : ∀ a b c, K a b → K b c → K a c
  list : ∀ w w' u u' es, Fr σ w w' u u' → (∀ e ∈ es, EvOk σ.F w'.heap.size e) → D w w' es

theorem Ps0.dealt {w u : World} (hp : Ps0 P σ w u) (T : Nat → Question → Nat) : Ps0 P σ w (World.deal u T) := ⟨hp.heap, hp.bad, hp.real, hp.size, hp.os, hp.output, fun j q hj => by change u.drawn + j < u.drawn at hj; omega, hp.pend⟩
theorem Ps0.undealt {w u : World} {T : Nat → Question → Nat} (hp : Ps0 P σ w (World.deal u T)) : Ps0 P σ w u := ⟨hp.heap, hp.bad, hp.real, hp.size, hp.os, hp.output, fun j q hj => by omega, hp.pend⟩

/-- A piece, walked alone in every spoilt world. -/
theorem goes_steps {ok : Op → Bool} {S : Names} {b : Frame} {main : Bool} {R : World → World → Prop} {D : World → World → Array Event → Prop} {Stop : Goroutine → World → Prop} {K : World → World → Prop}
    (F : Fit P σ ok S) (U : Suits P σ R D K) (hk : (b.kind == CallKind.early) = false) {w : World} (real : ∀ b, σ.F b → ∃ c, w.heap[b]? = some (.cells c (σ.ty b) (0, 0)))
    {its its' : List Item} (hi : okItems (fun o => ok o.op) false its = true) {t : Array Value} {ds : List Deferred} {k : List Item} {cs : List Frame}
    (h : ∀ u, Ps0 P σ w u → ∃ t' u', (∀ w', Ps0 P σ w' u' → K w w' → GoesI P main R D Stop (G (b.at ⟨t', ds⟩ (its' ++ k)) cs) w') ∧ Steps P (lone (b.at ⟨t, []⟩ (its ++ tailL)) [sink] u) (lone (b.at ⟨t', []⟩ (its' ++ tailL)) [sink] u')) :
    GoesI P main R D Stop (G (b.at ⟨t, ds⟩ (its ++ k)) cs) w := by
  have hp := spoil_ps F.steps real
  have hli := li_of_steps (b := b) (Q := fun t' u' => ∀ w', Ps0 P σ w' u' → K w w' → GoesI P main R D Stop (G (b.at ⟨t', ds⟩ (its' ++ k)) cs) w') hk F.steps F.ahead F.base0 F.opF0 F.body
    (fun t u T q w' hw' hK => q w' hw'.undealt hK) hi (its' := its') (u := spoil σ w) (t := t) (fun T => h _ (hp.dealt T))
  exact goes_of_li (K := K) (w0 := w) hk F.steps F.ahead F.base F.opF F.body U.oth U.kr U.kf U.trans U.list (fun t u' w' q hps hK => q w' hps hK) hli (Sit.base t its hi) hp (U.refl w)

theorem goes_code {ok : Op → Bool} {S : Names} {b : Frame} {main : Bool} {R : World → World → Prop} {D : World → World → Array Event → Prop} {Stop : Goroutine → World → Prop} {K : World → World → Prop}
    (F : Fit P σ ok S) (U : Suits P σ R D K) (hk : (b.kind == CallKind.early) = false) {w : World} (real : ∀ b, σ.F b → ∃ c, w.heap[b]? = some (.cells c (σ.ty b) (0, 0)))
    {c : Code} (hc : okCode ok false c = true) {t : Array Value} {ds : List Deferred} {k : List Item} {cs : List Frame}
    (hwp : ∀ u, Ps0 P σ w u → c.wp P (fun e a' u' => e = .normal ∧ a'.defers = [] ∧ ∀ w', Ps0 P σ w' u' → K w w' → GoesI P main R D Stop (G (b.at ⟨a'.tmps, ds⟩ k) cs) w') ⟨t, []⟩ u) :
    GoesI P main R D Stop (G (b.at ⟨t, ds⟩ (.code c :: k)) cs) w := by
  refine goes_steps (its := [.code c]) (its' := []) F U hk real (by simp [okItems, okItem, hc]) fun u hu => ?_
  obtain ⟨e, ⟨t', d'⟩, u', ⟨rfl, hd, q⟩, harr⟩ := hwp u hu b tailL [sink]
  simp only at hd
  subst hd
  exact ⟨t', u', q, harr⟩
/-- .. a part of a region. -/
theorem goes_ops {ok : Op → Bool} {S : Names} {b : Frame} {main : Bool} {R : World → World → Prop} {D : World → World → Array Event → Prop} {Stop : Goroutine → World → Prop} {K : World → World → Prop}
    (F : Fit P σ ok S) (U : Suits P σ R D K) (hk : (b.kind == CallKind.early) = false) {w : World} (real : ∀ b, σ.F b → ∃ c, w.heap[b]? = some (.cells c (σ.ty b) (0, 0)))
    {ops : Array Oper} (ho : ops.all (fun o => ok o.op) = true) {l l2 : List Nat} {t : Array Value} {ds : List Deferred} {k : List Item} {cs : List Frame}
    (hwp : ∀ u, Ps0 P σ w u → wpOps P ops (fun e a' u' => e = .normal ∧ a'.defers = [] ∧ ∀ w', Ps0 P σ w' u' → K w w' → GoesI P main R D Stop (G (b.at ⟨a'.tmps, ds⟩ (.inRegion ops l2 :: k)) cs) w') l ⟨t, []⟩ u) :
    GoesI P main R D Stop (G (b.at ⟨t, ds⟩ (.inRegion ops (l ++ l2) :: k)) cs) w := by
  have hk' : b.kind ≠ .early := by simpa using hk
  refine goes_steps (its := [.inRegion ops (l ++ l2)]) (its' := [.inRegion ops l2]) F U hk real (by simp [okItems, okItem]; simpa using ho) fun u hu => ?_
  obtain ⟨⟨t', d'⟩, u', ⟨_, hd, q⟩, harr⟩ := steps_ops (fun e a w q => q.1) l _ _ (hwp u hu) b l2 tailL [sink] hk'
  simp only at hd
  subst hd
  exact ⟨t', u', q, harr⟩
end
end Go.Proofs.Ytdedmmjmiakidaa
/- Plain words: words for a goroutine's walk in company, in the style of continuations. No condition. -/
namespace Go.Proofs.Ytdedmmjmiakidaa
open Go.Conc

/-- A goroutine's company: what the others may do, what it may do, where it stops (by an index that falls), what is known of the frames below it. -/
structure Env where
  P : Program
  main : Bool
  R : World → World → Prop
  ι : Type
  D : ι → World → World → Array Event → Prop
  le : ι → ι → Prop
  St : ι → Goroutine → World → Prop
  cs : List Frame → Prop
structure Env.Ok (E : Env) : Prop where
  rrefl : ∀ w, E.R w w
  rtrans : ∀ a b c, E.R a b → E.R b c → E.R a c
  lrefl : ∀ n, E.le n n
  ltrans : ∀ a b c, E.le a b → E.le b c → E.le a c
  still : ∀ n w, E.D n w w #[]
  draw : ∀ n w, E.D n w { w with drawn := w.drawn + 1 } #[]
  rdraw : ∀ w w₁, E.R w w₁ → E.R w { w₁ with drawn := w₁.drawn + 1 }
  sub : ∀ n w w' es es', E.D n w w' es → (∀ e ∈ es', e ∈ es) → E.D n w w' es'
  push : ∀ (b : Frame) (t : Array Value) (k : List Item) (cs : List Frame), (b.kind == CallKind.early) = false → (∃ f, E.P.funcs[b.fn]? = some f) → E.cs cs → E.cs (b.at ⟨t, []⟩ k :: cs)
/-- On its way. -/
abbrev Env.Go (E : Env) (n : E.ι) (g : Goroutine) (w : World) : Prop := GoesI E.P E.main E.R (E.D n) (E.St n) g w
/-- A frame that may run so. -/
structure Env.Fr (E : Env) (b : Frame) (cs : List Frame) : Prop where
  kind : (b.kind == CallKind.early) = false
  fn : ∃ f, E.P.funcs[b.fn]? = some f
  cs : E.cs cs

section
variable (E : Env)
/-- Behind a piece of text, left so. -/
def aft (n : E.ι) (b : Frame) (k : List Item) (cs : List Frame) : Exit → Array Value → World → Prop
  | .normal, t, w => E.Go n (G (b.at ⟨t, []⟩ k) cs) w
  | .exit id, t, w => ∃ k', exitTo id k = some k' ∧ E.Go n (G (b.at ⟨t, []⟩ k') cs) w
  | .ret, t, w => ∀ todo, E.Go n (G { b.at ⟨t, []⟩ todo with mode := .returning } cs) w
  | _, _, _ => True
/-- A piece of text leads to Q. -/
def cps (c : Code) (Q : E.ι → Exit → Array Value → World → Prop) (n : E.ι) (t : Array Value) (w : World) : Prop :=
  ∀ (b : Frame) (k : List Item) (cs : List Frame), E.Fr b cs → (∀ n', E.le n' n → ∀ e t' w', Q n' e t' w' → aft E n' b k cs e t' w') → E.Go n (G (b.at ⟨t, []⟩ (.code c :: k)) cs) w
/-- .. in the middle of a region. -/
def cpsR (ops : Array Oper) (l : List Nat) (Q : E.ι → Array Value → World → Prop) (n : E.ι) (t : Array Value) (w : World) : Prop :=
  ∀ (b : Frame) (k : List Item) (cs : List Frame), E.Fr b cs → (∀ n', E.le n' n → ∀ t' w', Q n' t' w' → E.Go n' (G (b.at ⟨t', []⟩ k) cs) w') → E.Go n (G (b.at ⟨t, []⟩ (.inRegion ops l :: k)) cs) w
/-- A call leads to Q. -/
def cpsC (f : FuncId) (args : Array Value) (Q : E.ι → Value → World → Prop) (n : E.ι) (w : World) : Prop :=
  ∀ (fr : Frame) (cs : List Frame), E.cs (fr :: cs) → (∀ n', E.le n' n → ∀ v w', Q n' v w' → E.Go n' (G (fr.finish v) cs) w') → E.Go n (G (Frame.enter E.P f args .normal) (fr :: cs)) w
end

section
variable {E : Env} {Q Q' : E.ι → Exit → Array Value → World → Prop} {n : E.ι} {t : Array Value} {w w₁ : World}

theorem aft.rely (O : E.Ok) {b : Frame} {k : List Item} {cs : List Frame} {e : Exit} (h : aft E n b k cs e t w) (hr : E.R w w₁) : aft E n b k cs e t w₁ := by
  cases e with
  | normal => exact GoesI.rely O.rtrans h hr
  | exit id => exact h.imp fun k' hk => ⟨hk.1, GoesI.rely O.rtrans hk.2 hr⟩
  | ret => exact fun todo => GoesI.rely O.rtrans (h todo) hr
  | _ => trivial

theorem Env.Ok.step1 (O : E.Ok) {g g' : Goroutine} (hr : g.status = .running) (hs : ∀ v, stepG E.P E.main g v = .go g' v #[]) (h : E.Go n g' w) : E.Go n g w :=
  GoesI.one hr fun v hv => ⟨g', v, #[], hs v, O.still n v, GoesI.rely O.rtrans h hv⟩

theorem cps.mono (O : E.Ok) {c : Code} (h : cps E c Q n t w) (hq : ∀ n', E.le n' n → ∀ e t' w', Q n' e t' w' → Q' n' e t' w') : cps E c Q' n t w :=
  fun b k cs hf hk => h b k cs hf fun n' hn e t' w' q => hk n' hn e t' w' (hq n' hn e t' w' q)
theorem cps.rely (O : E.Ok) {c : Code} (h : cps E c Q n t w) (hr : E.R w w₁) : cps E c Q n t w₁ :=
  fun b k cs hf hk => GoesI.rely O.rtrans (h b k cs hf hk) hr

theorem cps_skip (O : E.Ok) (h : Q n .normal t w) : cps E .skip Q n t w := fun b k cs hf hk => O.step1 rfl (fun _ => stepG_skip) (hk n (O.lrefl n) _ _ _ h)
theorem cps_exit (O : E.Ok) {id : Nat} (h : Q n (.exit id) t w) : cps E (.exit id) Q n t w := fun b k cs hf hk => by
  obtain ⟨k', he, hG⟩ := hk n (O.lrefl n) _ _ _ h
  exact O.step1 rfl (fun _ => stepG_exit he) hG
theorem cps_ret (O : E.Ok) (h : Q n .ret t w) : cps E .ret Q n t w := fun b k cs hf hk =>
  O.step1 rfl (fun v => by simp [G, stepG, stepG.exec, Frame.at]) (hk n (O.lrefl n) _ _ _ h (.code .ret :: k))
theorem cps_cond (O : E.Ok) {c : Operand} {x y : Code} {v : Bool} (hc : (⟨t, []⟩ : Act).eval c = .bool v) (h : cps E (if v then x else y) Q n t w) : cps E (.cond c x y) Q n t w := fun b k cs hf hk =>
  O.step1 rfl (fun _ => stepG_cond hc) (h b k cs hf hk)
/-- .. behind the first of two. -/
def thenQ (E : Env) (next : E.ι → Array Value → World → Prop) (Q : E.ι → Exit → Array Value → World → Prop) : E.ι → Exit → Array Value → World → Prop
  | n, .normal, t, w => next n t w
  | n, e, t, w => Q n e t w
theorem cps_seq (O : E.Ok) {x y : Code} (h : cps E x (thenQ E (cps E y Q) Q) n t w) : cps E (.seq x y) Q n t w := fun b k cs hf hk => by
  refine O.step1 rfl (fun _ => stepG_seq) (h b (.code y :: k) cs hf fun n' hn e t' w' q => ?_)
  cases e with
  | normal => exact q b k cs hf fun n'' hn' => hk n'' (O.ltrans _ _ _ hn' hn)
  | exit id => exact (hk n' hn _ _ _ q).imp fun k' h => ⟨by simpa [exitTo] using h.1, h.2⟩
  | ret => exact fun todo => hk n' hn _ _ _ q todo
  | _ => trivial
/-- .. of a block. -/
def blockQ (E : Env) (id : Nat) (Q : E.ι → Exit → Array Value → World → Prop) : E.ι → Exit → Array Value → World → Prop
  | n, .exit id', t, w => if id' = id then Q n .normal t w else Q n (.exit id') t w
  | n, e, t, w => Q n e t w
theorem cps_block (O : E.Ok) {id : Nat} {c : Code} (h : cps E c (blockQ E id Q) n t w) : cps E (.block id c) Q n t w := fun b k cs hf hk => by
  refine O.step1 rfl (fun _ => stepG_block) (h b (.inBlock id :: k) cs hf fun n' hn e t' w' q => ?_)
  cases e with
  | normal => exact O.step1 rfl (fun _ => stepG_inBlock) (hk n' hn _ _ _ q)
  | exit id' =>
    simp only [blockQ] at q
    by_cases e : id' = id
    · subst e
      rw [if_pos rfl] at q
      exact ⟨k, by simp [exitTo], hk n' hn _ _ _ q⟩
    · rw [if_neg e] at q
      have : (id == id') = false := by simpa using fun h => e h.symm
      exact (hk n' hn _ _ _ q).imp fun k' h => ⟨by simp [exitTo, this, h.1], h.2⟩
  | ret => exact fun todo => hk n' hn _ _ _ q todo
  | _ => trivial
/-- A loop, by an invariant whose measure falls, or whose index does. -/
theorem cps_loop (O : E.Ok) {c : Code} {lt : E.ι → E.ι → Prop} (wf : WellFounded lt) (hlt : ∀ n' n, E.le n' n → n' = n ∨ lt n' n) (Inv : Nat → E.ι → Array Value → World → Prop)
    (hb : ∀ m n t w, Inv m n t w → cps E c (fun n' e t' w' => match e with
      | .normal => ∃ m', (lt n' n ∨ m' < m) ∧ Inv m' n' t' w'
      | e => Q n' e t' w') n t w) {m : Nat} (h : Inv m n t w) : cps E (.loop c) Q n t w := by
  have key : ∀ n m t w, Inv m n t w → ∀ (b : Frame) (k : List Item) (cs : List Frame), E.Fr b cs → (∀ n', E.le n' n → ∀ e t' w', Q n' e t' w' → aft E n' b k cs e t' w') → E.Go n (G (b.at ⟨t, []⟩ (.code c :: .inLoop c :: k)) cs) w := by
    intro n
    induction n using wf.induction with
    | _ n ihn =>
      intro m
      induction m using Nat.strongRecOn with
      | _ m ihm =>
        intro t w hI b k cs hf hk
        refine hb m n t w hI b (.inLoop c :: k) cs hf fun n' hn e t' w' q => ?_
        cases e with
        | normal =>
          obtain ⟨m', hm, hI'⟩ := q
          refine O.step1 rfl (fun _ => stepG_inLoop) ?_
          by_cases hl : lt n' n
          · exact ihn n' hl m' t' w' hI' b k cs hf fun n'' hn' => hk n'' (O.ltrans _ _ _ hn' hn)
          · obtain rfl := (hlt n' n hn).resolve_right hl
            exact ihm m' (hm.resolve_left hl) t' w' hI' b k cs hf hk
        | exit id => exact (hk n' hn _ _ _ q).imp fun k' h => ⟨by simpa [exitTo] using h.1, h.2⟩
        | ret => exact fun todo => hk n' hn _ _ _ q todo
        | _ => trivial
  exact fun b k cs hf hk => O.step1 rfl (fun _ => stepG_loop) (key n m t w h b k cs hf hk)

theorem cps_scope (O : E.Ok) {c : Code} (h : cps E c Q n t w) : cps E (.scope c) Q n t w := fun b k cs hf hk => by
  refine O.step1 (g' := G (b.at ⟨t, []⟩ (.code c :: .inScope c :: k)) cs) rfl (fun _ => by simp [G, stepG, stepG.exec, Frame.at]) (h b (.inScope c :: k) cs hf fun n' hn e t' w' q => ?_)
  cases e with
  | normal => exact O.step1 (g' := G (b.at ⟨t', []⟩ k) cs) rfl (fun _ => by simp [G, stepG, stepG.exec, Frame.at]) (hk n' hn _ _ _ q)
  | exit id => exact (hk n' hn _ _ _ q).imp fun k' h => ⟨by simpa [exitTo] using h.1, h.2⟩
  | ret => exact fun todo => hk n' hn _ _ _ q todo
  | _ => trivial
theorem cps_label (O : E.Ok) {l : Nat} (h : Q n .normal t w) : cps E (.label l) Q n t w := fun b k cs hf hk => O.step1 rfl (fun _ => stepG_label) (hk n (O.lrefl n) _ _ _ h)

/-- A loop, by an invariant whose measure falls, whatever becomes of the index. -/
theorem cps_loopm (O : E.Ok) {c : Code} (Inv : Nat → E.ι → Array Value → World → Prop)
    (hb : ∀ m n t w, Inv m n t w → cps E c (fun n' e t' w' => match e with
      | .normal => ∃ m', m' < m ∧ Inv m' n' t' w'
      | e => Q n' e t' w') n t w) {m : Nat} (h : Inv m n t w) : cps E (.loop c) Q n t w := by
  have key : ∀ m n t w, Inv m n t w → ∀ (b : Frame) (k : List Item) (cs : List Frame), E.Fr b cs → (∀ n', E.le n' n → ∀ e t' w', Q n' e t' w' → aft E n' b k cs e t' w') → E.Go n (G (b.at ⟨t, []⟩ (.code c :: .inLoop c :: k)) cs) w := by
    intro m
    induction m using Nat.strongRecOn with
    | _ m ihm =>
      intro n t w hI b k cs hf hk
      refine hb m n t w hI b (.inLoop c :: k) cs hf fun n' hn e t' w' q => ?_
      cases e with
      | normal =>
        obtain ⟨m', hm, hI'⟩ := q
        exact O.step1 rfl (fun _ => stepG_inLoop) (ihm m' hm n' t' w' hI' b k cs hf fun n'' hn' => hk n'' (O.ltrans _ _ _ hn' hn))
      | exit id => exact (hk n' hn _ _ _ q).imp fun k' h => ⟨by simpa [exitTo] using h.1, h.2⟩
      | ret => exact fun todo => hk n' hn _ _ _ q todo
      | _ => trivial
  exact fun b k cs hf hk => O.step1 rfl (fun _ => stepG_loop) (key m n t w h b k cs hf hk)

section region
variable {Qr Qr' : E.ι → Array Value → World → Prop} {ops : Array Oper} {l : List Nat}
theorem cpsR.rely (O : E.Ok) (h : cpsR E ops l Qr n t w) (hr : E.R w w₁) : cpsR E ops l Qr n t w₁ := fun b k cs hf hk => GoesI.rely O.rtrans (h b k cs hf hk) hr
theorem cpsR.mono (O : E.Ok) (h : cpsR E ops l Qr n t w) (hq : ∀ n', E.le n' n → ∀ t' w', Qr n' t' w' → Qr' n' t' w') : cpsR E ops l Qr' n t w :=
  fun b k cs hf hk => h b k cs hf fun n' hn t' w' q => hk n' hn t' w' (hq n' hn t' w' q)
theorem cps_region (O : E.Ok) {id : Nat} (h : cpsR E ops (List.range ops.size) (fun n t w => Q n .normal t w) n t w) : cps E (.region id ops false) Q n t w := fun b k cs hf hk =>
  O.step1 rfl (fun _ => stepG_region) (h b k cs hf fun n' hn t' w' q => hk n' hn .normal t' w' q)
theorem cps_region_draw (O : E.Ok) {id : Nat} (h : ∀ m, cpsR E ops (Region.schedule (E.P.follows .mixedOrders) ops m) (fun n t w => Q n .normal t w) n t w) : cps E (.region id ops true) Q n t w := fun b k cs hf hk => by
  refine GoesI.one rfl fun w₁ hw => ?_
  refine ⟨_, _, #[], ?_, O.draw n w₁, GoesI.rely O.rtrans (h (w₁.tape w₁.drawn (.order b.fn id)) b k cs hf fun n' hn t' w' q => hk n' hn .normal t' w' q) (O.rdraw _ _ hw)⟩
  simp [G, stepG, stepG.exec, Frame.at, choose, Sem.run, Question.forced, Question.cut]
theorem cpsR_nil (O : E.Ok) (h : Qr n t w) : cpsR E ops [] Qr n t w := fun b k cs hf hk => O.step1 rfl (fun _ => stepG_region_end) (hk n (O.lrefl n) _ _ h)
theorem cpsR_skip (O : E.Ok) {i : Nat} {o : Oper} (ho : ops[i]? = some o) (hw : Region.wanted o (yielded ops t) = false) (h : cpsR E ops l Qr n ((⟨t, []⟩ : Act).put o.dst undef).tmps w) : cpsR E ops (i :: l) Qr n t w := fun b k cs hf hk => by
  refine O.step1 (g' := G (b.at ⟨((⟨t, []⟩ : Act).put o.dst undef).tmps, []⟩ (.inRegion ops l :: k)) cs) rfl (fun _ => ?_) (h b k cs hf hk)
  cases e : o.dst <;> simp [G, stepG, stepG.exec, Frame.at, ho, hw, Frame.finish, Act.put, e]

theorem put_at (t : Array Value) (d : Option Tmp) (v : Value) : (⟨t, []⟩ : Act).put d v = ⟨((⟨t, []⟩ : Act).put d v).tmps, []⟩ := by cases d <;> rfl
/-- An operation that yields a value, or nothing. -/
theorem cpsR_op (O : E.Ok) {i : Nat} {o : Oper} (ho : ops[i]? = some o) (hw : Region.wanted o (yielded ops t) = true)
    (h : ∀ w₁, E.R w w₁ → ∃ v w' es, ((execOp (⟨t, []⟩ : Act).eval o).runT E.P w₁ #[] = (.ok (.value v) w', es) ∨ (execOp (⟨t, []⟩ : Act).eval o).runT E.P w₁ #[] = (.ok .skip w', es) ∧ v = undef) ∧ E.D n w₁ w' es ∧ cpsR E ops l Qr n ((⟨t, []⟩ : Act).put o.dst v).tmps w') : cpsR E ops (i :: l) Qr n t w := fun b k cs hf hk => by
  refine GoesI.one rfl fun w₁ hr => ?_
  obtain ⟨v, w', es, hrun, hd, hc⟩ := h w₁ hr
  have hke : b.kind ≠ .early := by simpa using hf.kind
  have hev : Go.Conc.listed E.P b.fn ⟨t, []⟩ o w₁ = seen E.P b.fn es := by
    unfold Go.Conc.listed
    rcases hrun with h | ⟨h, _⟩ <;> (show seen E.P b.fn ((execOp (⟨t, []⟩ : Act).eval o).runT E.P w₁ #[]).2 = _; rw [h])
  have hG := hc b k cs hf hk
  rw [← put_at] at hG
  rcases hrun with h | ⟨h, rfl⟩
  · have hr' : (execOp (⟨t, []⟩ : Act).eval o).run E.P w₁ = .ok (.value v) w' := by rw [← Sem.runT_fst E.P _ w₁ #[], h]
    exact ⟨_, _, _, stepG_value ho hw hke hr', O.sub _ _ _ _ _ hd (by rw [hev]; exact seen_sub _ _ _), hG⟩
  · have hr' : (execOp (⟨t, []⟩ : Act).eval o).run E.P w₁ = .ok .skip w' := by rw [← Sem.runT_fst E.P _ w₁ #[], h]
    exact ⟨_, _, _, stepG_none ho hw hke hr', O.sub _ _ _ _ _ hd (by rw [hev]; exact seen_sub _ _ _), hG⟩
/-- .. told as the kit's walk tells it. -/
theorem cpsR_k (O : E.Ok) {i : Nat} {o : Oper} (ho : ops[i]? = some o) (hw : Region.wanted o (yielded ops t) = true)
    (h : ∀ w₁, E.R w w₁ → ∃ es, (execOp (⟨t, []⟩ : Act).eval o).events E.P w₁ #[] = es ∧
      ∀ K' : Act → World → Prop, (∀ a' w', E.D n w₁ w' es ∧ (∃ t', a' = ⟨t', []⟩ ∧ cpsR E ops l Qr n t' w') → K' a' w') → uponK o (⟨t, []⟩ : Act) K' ((execOp (⟨t, []⟩ : Act).eval o).run E.P w₁)) : cpsR E ops (i :: l) Qr n t w := fun b k cs hf hk => by
  refine GoesI.one rfl fun w₁ hr => ?_
  obtain ⟨es, hes, h2⟩ := h w₁ hr
  have hke : b.kind ≠ .early := by simpa using hf.kind
  have hg : (stepG E.P E.main (G (b.at ⟨t, []⟩ (.inRegion ops (i :: l) :: k)) cs) w₁).goes fun g' w' ev => E.D n w₁ w' ev ∧ E.Go n g' w' := by
    refine goes_oper_k ho hw hke fun K' hK => h2 K' fun a' w' hx => hK a' w' ?_
    obtain ⟨hd, t', rfl, hc⟩ := hx
    refine ⟨O.sub _ _ _ _ _ hd fun e he => ?_, hc b k cs hf hk⟩
    unfold Go.Conc.listed at he
    rw [hes] at he
    exact seen_sub _ _ _ e he
  cases hs : stepG E.P E.main (G (b.at ⟨t, []⟩ (.inRegion ops (i :: l) :: k)) cs) w₁ with
  | go g' w' ev => rw [hs] at hg; exact ⟨g', w', ev, rfl, hg.1, hg.2⟩
  | _ => rw [hs] at hg; exact hg.elim
/-- An operation that looks at no memory. -/
theorem cpsR_pure (O : E.Ok) {i : Nat} {o : Oper} (ho : ops[i]? = some o) (hw : Region.wanted o (yielded ops t) = true) (he : ∀ w₁, (execOp (⟨t, []⟩ : Act).eval o).events E.P w₁ #[] = #[])
    (h : ∀ w₁, ∀ K' : Act → Prop, (∀ a', (∃ t', a' = ⟨t', []⟩ ∧ cpsR E ops l Qr n t' w) → K' a') → uponK o (⟨t, []⟩ : Act) (fun a' w' => w' = w₁ ∧ K' a') ((execOp (⟨t, []⟩ : Act).eval o).run E.P w₁)) : cpsR E ops (i :: l) Qr n t w := by
  refine cpsR_k O ho hw fun w₁ hr => ⟨#[], he w₁, fun K' hK => ?_⟩
  have := h w₁ (fun a' => ∃ t', a' = ⟨t', []⟩ ∧ cpsR E ops l Qr n t' w) fun a' x => x
  revert this
  cases (execOp (⟨t, []⟩ : Act).eval o).run E.P w₁ with
  | ok x w' =>
    cases x with
    | value v => rintro ⟨rfl, t', ha, hc⟩; exact hK _ _ ⟨O.still _ _, t', ha, hc.rely O hr⟩
    | skip => rintro ⟨rfl, t', ha, hc⟩; exact hK _ _ ⟨O.still _ _, t', ha, hc.rely O hr⟩
    | _ => exact id
  | halt x w' => exact id
/-- .. that enters a function. -/
theorem cpsR_enter (O : E.Ok) {i : Nat} {o : Oper} {f : FuncId} {args : Array Value} (ho : ops[i]? = some o) (hw : Region.wanted o (yielded ops t) = true)
    (h : ∀ w₁, E.R w w₁ → ∃ es, (execOp (⟨t, []⟩ : Act).eval o).runT E.P w₁ #[] = (.ok (.enter f args) w₁, es) ∧ E.D n w₁ w₁ es)
    (hc : cpsC E f args (fun n' v w' => cpsR E ops l Qr n' ((⟨t, []⟩ : Act).put o.dst v).tmps w') n w) : cpsR E ops (i :: l) Qr n t w := fun b k cs hf hk => by
  refine GoesI.one rfl fun w₁ hr => ?_
  obtain ⟨es, hrun, hd⟩ := h w₁ hr
  have hke : b.kind ≠ .early := by simpa using hf.kind
  have hG := hc (b.at ⟨t, []⟩ (.inRegion ops (i :: l) :: k)) cs (O.push b t _ cs hf.kind hf.fn hf.cs) fun n' hn v w' q => by
    have := q b k cs hf fun n'' hn' => hk n'' (O.ltrans _ _ _ hn' hn)
    rw [← put_at] at this
    rw [Frame.finish_at, ho]
    exact this
  refine ⟨_, _, seen E.P b.fn es, ?_, O.sub _ _ _ _ _ hd (seen_sub _ _ _), GoesI.rely O.rtrans hG hr⟩
  rw [stepG_oper ho hw]
  have hk' : ((b.at ⟨t, []⟩ (.inRegion ops (i :: l) :: k)).kind == CallKind.early) = false := hf.kind
  unfold stepG.apply
  simp only [if_true, hrun, hk', if_false, Bool.false_eq_true, GStep.after, Array.append_empty]
  rfl
end region

/-- A function's text. -/
theorem cpsC_body (O : E.Ok) {f : FuncId} {fn : Func} {c : Code} {args : Array Value} {Qc : E.ι → Value → World → Prop} (hf : E.P.funcs[f]? = some fn) (hb : fn.body = some c)
    (h : cps E c (fun n' e t' w' => (e = .normal ∨ e = .ret) ∧ ∃ v, (∀ w₁, E.R w' w₁ → ∃ es, (results fn t').runT E.P w₁ #[] = (.ok v w₁, es) ∧ E.D n' w₁ w₁ es) ∧ Qc n' v w') n (args ++ Array.replicate (fn.ntmps - args.size) undef) w) : cpsC E f args Qc n w := by
  intro fr cs hcs hk
  have he : Frame.enter E.P f args .normal = (Frame.enter E.P f args .normal).at ⟨args ++ Array.replicate (fn.ntmps - args.size) undef, []⟩ [.code c] := by
    simp [Frame.enter, Frame.at, hf, hb]
  rw [he]
  have hF : E.Fr (Frame.enter E.P f args .normal) (fr :: cs) := ⟨rfl, ⟨fn, hf⟩, hcs⟩
  refine h _ [] (fr :: cs) hF fun n' hn e t' w' q => ?_
  obtain ⟨q1, v, q2, q3⟩ := q
  have ret : ∀ todo, E.Go n' (G { (Frame.enter E.P f args .normal).at ⟨t', []⟩ todo with mode := .returning } (fr :: cs)) w' := by
    intro todo
    refine GoesI.one rfl fun w₁ hw => ?_
    obtain ⟨es, hr, hd⟩ := q2 w₁ hw
    refine ⟨_, _, seen E.P f es, ?_, O.sub _ _ _ _ _ hd (seen_sub _ _ _), GoesI.rely O.rtrans (hk n' hn v w' q3) hw⟩
    have hfn : ((Frame.enter E.P f args .normal).at ⟨t', []⟩ todo).fn = f := rfl
    have hkd : ((Frame.enter E.P f args .normal).at ⟨t', []⟩ todo).kind = .normal := rfl
    simp only [G, stepG, unwind, Frame.at, Frame.enter, hf]
    simp only [hr, GStep.after, doReturn, Array.append_empty]
  rcases q1 with rfl | rfl
  · exact O.step1 rfl (fun _ => stepG_end) (ret [])
  · exact ret

section embed
variable {σ : Poison} {K : World → World → Prop} {ok : Op → Bool} {S : Names}
/-- A piece of text by its walk alone. -/
theorem cps_alone (O : E.Ok) (F : Fit E.P σ ok S) (U : Suits E.P σ E.R (E.D n) K) (real : ∀ b, σ.F b → ∃ c, w.heap[b]? = some (.cells c (σ.ty b) (0, 0))) {c : Code} (hc : okCode ok false c = true)
    (hwp : ∀ u, Ps0 E.P σ w u → c.wp E.P (fun e a' u' => e = .normal ∧ a'.defers = [] ∧ ∀ w', Ps0 E.P σ w' u' → K w w' → Q n .normal a'.tmps w') ⟨t, []⟩ u) : cps E c Q n t w := fun b k cs hf hk =>
  goes_code F U hf.kind real hc fun u hu => wp_mono (hwp u hu) fun e a' u' q => ⟨q.1, q.2.1, fun w' h1 h2 => hk n (O.lrefl n) .normal _ _ (q.2.2 w' h1 h2)⟩
end embed
end
end Go.Proofs.Ytdedmmjmiakidaa
/- Contracts of sync/atomic.Uint64's methods, walked alone. -/
namespace Go.Proofs.Ytdedmmjmiakidaa
open Go.RowKit

theorem aload (a : Addr) (v : Int) (w : World) (h : w.cell? a = some (.int .u64 v)) :
    Calls Try.prog 48 #[.pointer (some a)] w fun e w' => e = .returned (.int .u64 v) ∧ w = w' := by
  have hl := run_call_load (P := Try.prog) Try.func71 (by kernel_rfl) (by kernel_rfl) (by kernel_rfl) .u64 (by kernel_rfl) h
  go_enter Try.func48, Try.ntmps48
  go_wp2
  go_ret
  exact ⟨rfl, rfl⟩

theorem astore (a : Addr) (u : Value) (v : Int) (w : World) (h : w.cell? a = some u) (hz : w.frozen? a = false) :
    Calls Try.prog 83 #[.pointer (some a), .int .u64 v] w fun e w' => e = .returned (.tuple #[]) ∧ w.setCell a (.int .u64 v) = w' := by
  have hl := run_call_store (P := Try.prog) Try.func99 (by kernel_rfl) (by kernel_rfl) (by kernel_rfl) (by kernel_rfl) (k := .u64) (y := v) h hz
  go_enter Try.func83, Try.ntmps83
  go_wp2
  go_end0
  exact ⟨rfl, rfl⟩
theorem acas_hit (a : Addr) (x y : Int) (w : World) (h : w.cell? a = some (.int .u64 x)) (hz : w.frozen? a = false) :
    Calls Try.prog 49 #[.pointer (some a), .int .u64 x, .int .u64 y] w fun e w' => e = .returned (.bool true) ∧ w.setCell a (.int .u64 y) = w' := by
  have hl := run_call_cas_hit (P := Try.prog) Try.func72 (by kernel_rfl) (by kernel_rfl) (by kernel_rfl) .u64 (by kernel_rfl) (y := y) h hz
  go_enter Try.func49, Try.ntmps49
  go_wp2
  go_ret
  exact ⟨rfl, rfl⟩

theorem acas_miss (a : Addr) (x o y : Int) (w : World) (h : w.cell? a = some (.int .u64 x)) (hz : w.frozen? a = false) (hne : ¬ x = o) :
    Calls Try.prog 49 #[.pointer (some a), .int .u64 o, .int .u64 y] w fun e w' => e = .returned (.bool false) ∧ w = w' := by
  have hl := run_call_cas_miss (P := Try.prog) Try.func72 (by kernel_rfl) (by kernel_rfl) (by kernel_rfl) .u64 (by kernel_rfl) (y := y) h hz hne
  go_enter Try.func49, Try.ntmps49
  go_wp2
  go_ret
  exact ⟨rfl, rfl⟩
end Go.Proofs.Ytdedmmjmiakidaa
/- Plain words: which functions of the program may be walked alone. No condition. -/
namespace Go.Proofs.Ytdedmmjmiakidaa
open Go.Conc
section
variable {P : Program} {σ : Poison} {S : Names}
theorem tame_program {f : Program → Sem Next} (h : Tame P σ S (f P)) : Tame P σ S (program >>= f) :=
  ⟨{ halts := fun w x w' hr => h.mild.halts w x w' hr, sim := fun H w u a u' es hp hr hd => by
      obtain ⟨w', es', h1, h2⟩ := h.mild.sim H w u a u' es hp hr hd
      exact ⟨w', es', h1, h2⟩ }, fun w n w' hr => h.next w n w' hr⟩
theorem mayCall_body {f : FuncId} {fn : Func} (hf : P.funcs[f]? = some fn) (hn : (fn.name == "runtime.NumGoroutine") = false) (hb : fn.body.isNone = false) (hS : S f = true) : MayCall P σ S f := fun args ha => by
  unfold callFunc
  refine tame_program ?_
  simp only [hf, hn, hb, Bool.false_eq_true, if_false]
  exact ⟨inferInstance, fun w n w' hr => by
    simp only [Sem.run_pure, Result.ok.injEq] at hr
    rw [← hr.1]; exact ⟨hS, ha⟩⟩
theorem mayCall_extern {f : FuncId} {fn : Func} {e : Array Value → Sem Value} (hf : P.funcs[f]? = some fn) (hn : (fn.name == "runtime.NumGoroutine") = false) (hb : fn.body.isNone = true) (hx : Extern.findNext fn = none) (he : Extern.find fn = some e) (hm : ∀ args, Mild P σ (e args)) : MayCall P σ S f := fun args _ => by
  have := hm args
  unfold callFunc
  refine tame_program ?_
  simp only [hf, hn, hb, Bool.false_eq_true, if_false, if_true, hx, he]
  exact tame_bind fun _ => tame_v (e args)
/-- An operation that enters a function and does nothing else. -/
theorem tame_enter {s : Sem Next} {f : FuncId} {a : Array Value} (h : ∀ w, s.run P w = .ok (.enter f a) w) (he : ∀ w es, s.events P w es = es) (hf : S f = true) (ha : ∀ x ∈ S.quiet f, Quiet S.tn (a.getD x undef)) : Tame P σ S s :=
  ⟨{ halts := fun w x w' hr => (by rw [h] at hr; cases hr), sim := fun H w u n u' es hp hr _ => by
      rw [h] at hr
      simp only [Result.ok.injEq] at hr
      obtain ⟨rfl, rfl⟩ := hr
      exact ⟨w, #[], by rw [Sem.runT_eq, h, he]; simp, hp, Fr.refl _ _, by simp⟩ }, fun w n w' hr => by
    rw [h] at hr
    simp only [Result.ok.injEq] at hr
    rw [← hr.1]
    exact ⟨hf, ha⟩⟩
/-- What is asked of the functions that are called. -/
theorem lawful_of (hnc : S.nc = true → NoC σ) (hS : ∀ f, S f = true → MayCall P σ S f) (hM : ∀ x args, Tame P σ S (callMethod (.iface S.tn x) "Step" args)) (hT : ∀ x w v w', (Instr.makeInterface S.tn x).run P w = .ok v w' → v = .iface S.tn x) (f : FuncId) : Lawful P σ S (okF P S f) (S.quiet f) where
  tame := fun ρ hρ hN o ho => by
    simp only [okF, okOper, Bool.and_eq_true] at ho
    exact tame_opN hnc hS ρ hρ (fun _ => hM) hN o ho.1
  dst := fun ρ hρ hN o ho d hd e w n w' hr => by
    simp only [okF, okOper, Bool.and_eq_true] at ho
    have h2 := ho.2
    rw [e] at h2
    simp only [Bool.or_eq_true, Bool.not_eq_true'] at h2
    rcases h2 with h2 | h2
    · simp at h2; exact absurd hd h2
    · exact quiet_dst hT ρ hρ hN o h2 hr
/-- .. where no gates are. -/
theorem lawful_nil (hnc : S.nc = true → NoC σ) (hS : ∀ f, S f = true → MayCall P σ S f) {f : FuncId} (hq : S.quiet f = []) : Lawful P σ S (okF P S f) (S.quiet f) where
  tame := fun ρ hρ hN o ho => by
    simp only [okF, okOper, Bool.and_eq_true] at ho
    exact tame_opN hnc hS ρ hρ (fun h => absurd hq h) hN o ho.1
  dst := fun ρ hρ hN o ho d hd => by rw [hq] at hd; cases hd
instance mild_aread (t : Extern.Atomic.T) (a : Addr) : Mild P σ (Extern.Atomic.read t a) := by unfold Extern.Atomic.read; (repeat' (first | infer_instance | (refine mild_bind _ _ (hx := ?_) (hf := fun _ => ?_)) | split | (intro _) | (dsimp only)))
theorem mild_one {e : Array Value → Sem Value} {s : String} {g : Value → Sem Value} (he : e = fun | #[x] => g x | _ => stuck s) (hg : ∀ x, Mild P σ (g x)) (a : Array Value) : Mild P σ (e a) := by
  subst he
  rcases a with ⟨_ | ⟨x, _ | ⟨y, l⟩⟩⟩
  · exact mild_stuck (α := Value) s
  · exact hg x
  · exact mild_stuck (α := Value) s
theorem mild_two {e : Array Value → Sem Value} {s : String} {g : Value → Value → Sem Value} (he : e = fun | #[x, y] => g x y | _ => stuck s) (hg : ∀ x y, Mild P σ (g x y)) (a : Array Value) : Mild P σ (e a) := by
  subst he
  rcases a with ⟨_ | ⟨x, _ | ⟨y, _ | ⟨z, l⟩⟩⟩⟩
  · exact mild_stuck (α := Value) s
  · exact mild_stuck (α := Value) s
  · exact hg x y
  · exact mild_stuck (α := Value) s
theorem mild_three {e : Array Value → Sem Value} {s : String} {g : Value → Value → Value → Sem Value} (he : e = fun | #[x, y, z] => g x y z | _ => stuck s) (hg : ∀ x y z, Mild P σ (g x y z)) (a : Array Value) : Mild P σ (e a) := by
  subst he
  rcases a with ⟨_ | ⟨x, _ | ⟨y, _ | ⟨z, _ | ⟨u, l⟩⟩⟩⟩⟩
  · exact mild_stuck (α := Value) s
  · exact mild_stuck (α := Value) s
  · exact mild_stuck (α := Value) s
  · exact hg x y z
  · exact mild_stuck (α := Value) s
instance mild_anyM {α : Type} (f : α → Sem Bool) [hf : ∀ a, Mild P σ (f a)] : ∀ l : List α, Mild P σ (l.anyM f)
  | [] => by simp only [List.anyM]; infer_instance
  | a :: l => by
    have := mild_anyM f l
    simp only [List.anyM]
    (repeat' (first | infer_instance | (refine mild_bind _ _ (hx := ?_) (hf := fun _ => ?_)) | split | (intro _) | (dsimp only)))
theorem mild_loadT (t : Extern.Atomic.T) (a : Array Value) : Mild P σ (Extern.Atomic.loadT t a) := mild_one rfl (fun x => by (repeat' (first | infer_instance | (refine mild_bind _ _ (hx := ?_) (hf := fun _ => ?_)) | split | (intro _) | (dsimp only)))) a
theorem mild_storeT (a : Array Value) : Mild P σ (Extern.Atomic.storeT a) := mild_two rfl (fun x y => by (repeat' (first | infer_instance | (refine mild_bind _ _ (hx := ?_) (hf := fun _ => ?_)) | split | (intro _) | (dsimp only)))) a
theorem mild_casT (k : IntKind) (a : Array Value) : Mild P σ (Extern.Atomic.casT (.int k) a) := mild_three rfl (fun x y z => by (repeat' (first | infer_instance | (refine mild_bind _ _ (hx := ?_) (hf := fun _ => ?_)) | split | (intro _) | (dsimp only)))) a
end
end Go.Proofs.Ytdedmmjmiakidaa
/- Plain words: atomic sums may be walked alone. No condition. -/
namespace Go.Proofs.Ytdedmmjmiakidaa
open Go.Conc
section
variable {P : Program} {σ : Poison}
theorem mild_addT (k : IntKind) (a : Array Value) : Mild P σ (Extern.Atomic.update (Op.intArith .add) k true a) := mild_two rfl (fun x y => by unfold Op.intArith; (repeat' (first | infer_instance | (refine mild_bind _ _ (hx := ?_) (hf := fun _ => ?_)) | split | (intro _) | (dsimp only)))) a
end
end Go.Proofs.Ytdedmmjmiakidaa
/- Plain words: the program's functions that may be walked alone in company. No condition. -/
namespace Go.Proofs.Ytdedmmjmiakidaa
open Go.Conc
theorem no_readies : Try.prog.funcs.all (fun f => (f.body.map readies).all (·.isEmpty)) = true := by kernel_rfl
theorem no_steps (g : Nat) : Try.prog.stepOf g = none := by
  unfold Program.stepOf
  rw [Array.findIdx?_eq_none_iff]
  intro f hf
  have := Array.all_eq_true_iff_forall_mem.1 no_readies f hf
  cases hb : f.body with
  | none => rfl
  | some c =>
    rw [hb] at this
    simp only [Option.map_some, Option.all_some, List.isEmpty_iff] at this
    simp [this]
theorem ahead : Try.prog.follows .staticDataAhead = true := by kernel_rfl
/-- The functions that threads call between two operations. -/
noncomputable def thrS : Names := ⟨fun f => [50, 48, 47, 49, 45, 26, 63, 64, 71, 70, 72].contains f, fun _ => [], 0, false⟩
noncomputable abbrev thrOk : Op → Bool := okOp Try.prog thrS false
theorem thr_calls (σ : Poison) (f : FuncId) (hf : thrS f = true) : MayCall Try.prog σ thrS f := by
  simp only [thrS, List.contains_iff_mem, List.mem_cons, List.not_mem_nil, or_false] at hf
  rcases hf with rfl | rfl | rfl | rfl | rfl | rfl | rfl | rfl | rfl | rfl | rfl
  · exact mayCall_body Try.func50 (by kernel_rfl) (by kernel_rfl) (by kernel_rfl)
  · exact mayCall_body Try.func48 (by kernel_rfl) (by kernel_rfl) (by kernel_rfl)
  · exact mayCall_body Try.func47 (by kernel_rfl) (by kernel_rfl) (by kernel_rfl)
  · exact mayCall_body Try.func49 (by kernel_rfl) (by kernel_rfl) (by kernel_rfl)
  · exact mayCall_body Try.func45 (by kernel_rfl) (by kernel_rfl) (by kernel_rfl)
  · exact mayCall_body Try.func26 (by kernel_rfl) (by kernel_rfl) (by kernel_rfl)
  · exact mayCall_body Try.func63 (by kernel_rfl) (by kernel_rfl) (by kernel_rfl)
  · exact mayCall_body Try.func64 (by kernel_rfl) (by kernel_rfl) (by kernel_rfl)
  · exact mayCall_extern Try.func71 (by kernel_rfl) (by kernel_rfl) (by kernel_rfl) (e := Extern.Atomic.loadT (.int .u64)) (by kernel_rfl) (mild_loadT _)
  · exact mayCall_extern Try.func70 (by kernel_rfl) (by kernel_rfl) (by kernel_rfl) (e := Extern.Atomic.update (Op.intArith .add) .u64 true) (by kernel_rfl) (mild_addT _)
  · exact mayCall_extern Try.func72 (by kernel_rfl) (by kernel_rfl) (by kernel_rfl) (e := Extern.Atomic.casT (.int .u64)) (by kernel_rfl) (mild_casT _)
theorem thr_bodies (f : FuncId) (hf : thrS f = true) : ∀ c, (Try.prog.funcs[f]?).bind (·.body) = some c → okC (okF Try.prog thrS f) true c = true := by
  simp only [thrS, List.contains_iff_mem, List.mem_cons, List.not_mem_nil, or_false] at hf
  have key : ∀ f : Nat, ((Try.prog.funcs[f]?).bind (·.body)).all (okC (okF Try.prog thrS f) true) = true → ∀ c, (Try.prog.funcs[f]?).bind (·.body) = some c → okC (okF Try.prog thrS f) true c = true := fun f h c hc => by
    rw [hc] at h; exact h
  rcases hf with rfl | rfl | rfl | rfl | rfl | rfl | rfl | rfl | rfl | rfl | rfl <;> exact key _ (by kernel_rfl)
theorem thr_fit (σ : Poison) : Fit Try.prog σ thrOk thrS :=
  ⟨no_steps, ahead, fun ρ hρ o ho => tame_op (fun h => by cases h) (thr_calls σ) ρ hρ o ho, fun ρ hρ o ho => tame_op (fun h => by cases h) (thr_calls none0) ρ hρ o ho, fun f _ => lawful_nil (fun h => by cases h) (thr_calls σ) rfl, fun f _ => lawful_nil (fun h => by cases h) (thr_calls none0) rfl, thr_bodies⟩
end Go.Proofs.Ytdedmmjmiakidaa
/- Plain words: what is held of the list of accesses while one goroutine has the turn, others read places that stand, and others again only count a group down, deaf. No program, no condition. -/
namespace Go.Proofs.Ytdedmmjmiakidaa
open Go.Conc

structure PastW (Still Sh Wg : Loc → Prop) (Mem Hear Loose : Nat → Prop) (B h : Nat) (t : Trace) : Prop where
  clean : ∀ said, ¬ Race said t
  known : ∀ i a, touchAt t i = some a → a.loc.isMemory = true → Knows t h i ∨ (a.write = false ∧ Still a.loc ∧ ∃ g, t.g? i = some g ∧ Loose g) ∨ (Sh a.loc ∧ a.kind = .atomic ∧ ¬ t.heard i)
  wrote : ∀ i a, touchAt t i = some a → a.write = true → Still a.loc → ∀ g, Mem g → Knows t g i
  hears : ∀ g, Hear g → Deaf t g = 0
  shut : ∀ i a, touchAt t i = some a → Wg a.loc → a.kind ≠ .plain
  seen : ∀ op ∈ t, op.act.low B

theorem heard_old {t u : Trace} {i : Nat} (hi : i < t.size) : (t ++ u).heard i ↔ t.heard i := by
  unfold Trace.heard
  simp only [Go.Conc.g?_old hi, deaf_old (Nat.le_of_lt hi)]

section
variable {Still Sh Wg : Loc → Prop} {Mem Hear Loose : Nat → Prop} {B h : Nat} {t u : Trace}

/-- What an operation of g's may touch. -/
def MayTouch (Still Sh Wg : Loc → Prop) (Mem Loose : Nat → Prop) (h g : Nat) (t : Trace) (b : Touch) : Prop :=
  (g = h ∧ (Still b.loc → b.write = false) ∧ (Sh b.loc → b.kind ≠ .plain)) ∨ (b.write = false ∧ Still b.loc ∧ Loose g ∧ Mem g) ∨ (Wg b.loc ∧ b.kind = .atomic ∧ 0 < Deaf t g)

theorem PastW.app {Hear' : Nat → Prop} (H : PastW Still Sh Wg Mem Hear Loose B h t) (hW : ∀ l, Wg l → Sh l) (hSW : ∀ l, Still l → ¬ Wg l) {g : Nat} (hu : ∀ op ∈ u, op.g = g)
    (hc : ∀ op ∈ u, ∀ b, op.act.touch? = some b → MayTouch Still Sh Wg Mem Loose h g t b) (hq : g = h ∨ (∀ k, k ≤ u.size → 0 < (t ++ u).deaf g (t.size + k)) ∨ ∀ op ∈ u, op.act.touch? = none ∨ ∃ b, op.act.touch? = some b ∧ Still b.loc ∧ b.write = false ∧ Loose g ∧ Mem g)
    (hd : ∀ g', Hear' g' → Deaf (t ++ u) g' = 0) (hl : ∀ op ∈ u, op.act.low B) : PastW Still Sh Wg Mem Hear' Loose B h (t ++ u) := by
  refine ⟨fun said => noRace_append (H.clean said) hu fun i a ha op hop b hb hcf => ?_, fun i a ha hm => ?_, fun i a ha hw hS g' hg' => ?_, hd, fun i a ha hW' => ?_, seen_app H.seen hl⟩
  · rcases hc op hop b hb with ⟨rfl, h1, h2⟩ | ⟨h1, h2, h3, h4⟩ | ⟨h1, h2, h3⟩
    · rcases H.known i a ha hcf.2.1 with hk | ⟨hw, hS, _⟩ | ⟨hS, hka, _⟩
      · exact hk
      · have hb0 := h1 (hcf.1 ▸ hS)
        rcases hcf.2.2.1 with x | x
        · rw [hw] at x; cases x
        · rw [hb0] at x; cases x
      · have hkb := h2 (hcf.1 ▸ hS)
        rcases hcf.2.2.2 with x | x | ⟨_, x, _⟩
        · rw [hka] at x; cases x
        · exact absurd x hkb
        · rw [hka] at x; cases x
    · rcases hcf.2.2.1 with x | x
      · exact H.wrote i a ha x (hcf.1 ▸ h2) g h4
      · rw [h1] at x; cases x
    · rcases hcf.2.2.2 with x | x | ⟨_, _, x⟩
      · exact absurd x (H.shut i a ha (hcf.1 ▸ h1))
      · rw [h2] at x; cases x
      · rw [h2] at x; cases x
  · obtain ⟨x, hx, hxa⟩ := touch_of ha
    rcases getElem?_append_cases hx with ⟨hi, hx'⟩ | ⟨hi, hxu⟩
    · rcases H.known i a (by rw [touchAt_of hx']; exact hxa) hm with hk | ⟨p, q, g', hg', hl'⟩ | ⟨p, q, r⟩
      · exact .inl (hk.app u)
      · exact .inr (.inl ⟨p, q, g', by rw [Go.Conc.g?_old hi]; exact hg', hl'⟩)
      · exact .inr (.inr ⟨p, q, fun hh => r ((heard_old hi).1 hh)⟩)
    · rcases hc x hxu a hxa with ⟨rfl, h1, h2⟩ | ⟨h1, h2, h3, h4⟩ | ⟨h1, h2, h3⟩
      · have := knows_own hx
        rw [hu x hxu] at this
        exact .inl this
      · exact .inr (.inl ⟨h1, h2, g, by rw [g?_of hx, hu x hxu], h3⟩)
      · rcases hq with rfl | hq | hq
        · have := knows_own hx
          rw [hu x hxu] at this
          exact .inl this
        · refine .inr (.inr ⟨hW _ h1, h2, ?_⟩)
          rintro ⟨g2, hg2, hd2⟩
          rw [g?_of hx, hu x hxu] at hg2
          obtain rfl := Option.some.inj hg2
          have hlt : i - t.size ≤ u.size := by
            have := lt_size_of_getElem? hx
            rw [Array.size_append] at this
            omega
          have := hq (i - t.size) hlt
          rw [show t.size + (i - t.size) = i by omega, hd2] at this
          omega
        · exfalso
          rcases hq x hxu with hn | ⟨b, hb, hS, hw, hLg, _⟩
          · rw [hn] at hxa; cases hxa
          · rw [hxa] at hb
            obtain rfl := Option.some.inj hb
            exact hSW _ hS h1
  · obtain ⟨x, hx, hxa⟩ := touch_of ha
    rcases getElem?_append_cases hx with ⟨_, hx'⟩ | ⟨_, hxu⟩
    · exact (H.wrote i a (by rw [touchAt_of hx']; exact hxa) hw hS g' hg').app u
    · rcases hc x hxu a hxa with ⟨rfl, h1, h2⟩ | ⟨h1, h2, h3, h4⟩ | ⟨h1, h2, h3⟩
      · rw [h1 hS] at hw; cases hw
      · rw [h1] at hw; cases hw
      · exact absurd h1 (hSW _ hS)
  · obtain ⟨x, hx, hxa⟩ := touch_of ha
    rcases getElem?_append_cases hx with ⟨_, hx'⟩ | ⟨_, hxu⟩
    · exact H.shut i a (by rw [touchAt_of hx']; exact hxa) hW'
    · rcases hc x hxu a hxa with ⟨rfl, h1, h2⟩ | ⟨h1, h2, h3, h4⟩ | ⟨h1, h2, h3⟩
      · exact h2 (hW _ hW')
      · exact absurd hW' (hSW _ h2)
      · rw [h2]; simp
theorem PastW.mono {B' : Nat} {Hear' Loose' : Nat → Prop} (H : PastW Still Sh Wg Mem Hear Loose B h t) (hB : B ≤ B') (hH : ∀ g, Hear' g → Hear g) (hL : ∀ g, Loose g → Loose' g) : PastW Still Sh Wg Mem Hear' Loose' B' h t :=
  ⟨H.clean, fun i a ha hm => (H.known i a ha hm).imp id (Or.imp (fun ⟨x, y, g, hg, hl⟩ => ⟨x, y, g, hg, hL g hl⟩) id), H.wrote, fun g hg => H.hears g (hH g hg), H.shut, fun op hop => MemAct.low_mono hB (H.seen op hop)⟩

/-- The token passes over a channel. -/
theorem PastW.give {j : Nat} (H : PastW Still Sh Wg Mem Hear Loose B h t) (hh : Hear h) (hj : Hear j) (fh : FuncId) (ph : String) (fj : FuncId) (pj : String) {c : Nat} (k cap : Nat) (hc : c < B) :
    PastW Still Sh Wg Mem Hear (fun g => Loose g ∧ g ≠ j) B j (t ++ met h j fh ph fj pj c k cap) := by
  have hn := met_mute h j fh ph fj pj c k cap
  have hq : ∀ g, ∀ op ∈ met h j fh ph fj pj c k cap, ∀ d, deafStep g d op = d := fun g => met_quiet h j fh ph fj pj c k cap g
  have e0 : (t ++ met h j fh ph fj pj c k cap)[t.size]? = some { g := h, fn := fh, pos := ph, act := .send c k } := by simp [met]
  have e3 : (t ++ met h j fh ph fj pj c k cap)[t.size + 3]? = some { g := j, fn := fj, pos := pj, act := .recvDone c k } := by simp [met]
  have edge : HappensBefore (t ++ met h j fh ph fj pj c k cap) t.size (t.size + 3) :=
    Relation.TransGen.single (.inr ⟨.handOver (act?_of e0) (act?_of e3), ⟨h, g?_of e0, by rw [deaf_old (Nat.le_refl _)]; exact H.hears h hh⟩, ⟨j, g?_of e3, by rw [deaf_quiet (hq j) 3 (by simp [met])]; exact H.hears j hj⟩⟩)
  refine ⟨fun said => noRace_appendMute (H.clean said) hn, fun i a ha hm => ?_, fun i a ha hw hS g hg => ?_, fun g hg => (Deaf_quiet (hq g)).trans (H.hears g hg), fun i a ha hW => ?_, seen_app H.seen fun op hop => ?_⟩
  · obtain ⟨x, hx, hxa⟩ := touch_of ha
    rcases getElem?_append_cases hx with ⟨hi, hx'⟩ | ⟨_, hxu⟩
    · rcases H.known i a (by rw [touchAt_of hx']; exact hxa) hm with hk | ⟨p, q, g, hg, hl⟩ | ⟨p, q, r⟩
      · exact .inl ⟨t.size + 3, _, e3, rfl, .inr ((hk.hb_new (Nat.le_refl _) e0 rfl).trans edge)⟩
      · by_cases e : g = j
        · subst e
          have := knows_own hx
          rw [show x.g = g from by have := g?_of hx'; rw [hg] at this; exact (Option.some.inj this).symm] at this
          exact .inl this
        · exact .inr (.inl ⟨p, q, g, by rw [Go.Conc.g?_old hi]; exact hg, hl, e⟩)
      · exact .inr (.inr ⟨p, q, fun hh => r ((heard_old hi).1 hh)⟩)
    · rw [hn x hxu] at hxa; cases hxa
  · obtain ⟨x, hx, hxa⟩ := touch_of ha
    rcases getElem?_append_cases hx with ⟨_, hx'⟩ | ⟨_, hxu⟩
    · exact (H.wrote i a (by rw [touchAt_of hx']; exact hxa) hw hS g hg).app _
    · rw [hn x hxu] at hxa; cases hxa
  · obtain ⟨x, hx, hxa⟩ := touch_of ha
    rcases getElem?_append_cases hx with ⟨_, hx'⟩ | ⟨_, hxu⟩
    · exact H.shut i a (by rw [touchAt_of hx']; exact hxa) hW
    · rw [hn x hxu] at hxa; cases hxa
  · simp only [met, List.mem_toArray, List.mem_cons, List.not_mem_nil, or_false] at hop
    rcases hop with rfl | rfl | rfl | rfl <;> exact hc

/-- A child is born with the token. -/
theorem PastW.hire {c : Nat} (H : PastW Still Sh Wg Mem Hear Loose B h t) (hM : Mem h) (hh : Hear h) (hc0 : Deaf t c = 0) (fh : FuncId) (ph : String) (fc : FuncId) :
    PastW Still Sh Wg (fun g => Mem g ∨ g = c) (fun g => Hear g ∨ g = c) Loose B c (t ++ #[{ g := h, fn := fh, pos := ph, act := .go c }, { g := c, fn := fc, pos := ph, act := .start }]) := by
  generalize hu : (#[{ g := h, fn := fh, pos := ph, act := .go c }, { g := c, fn := fc, pos := ph, act := .start }] : Trace) = u
  have hn : ∀ op ∈ u, op.act.touch? = none := by
    intro op hop
    subst hu
    simp only [List.mem_toArray, List.mem_cons, List.not_mem_nil, or_false] at hop
    rcases hop with rfl | rfl <;> rfl
  have hq : ∀ g, ∀ op ∈ u, ∀ d, deafStep g d op = d := by
    intro g op hop d
    subst hu
    simp only [List.mem_toArray, List.mem_cons, List.not_mem_nil, or_false] at hop
    rcases hop with rfl | rfl <;> rfl
  have e0 : (t ++ u)[t.size]? = some { g := h, fn := fh, pos := ph, act := .go c } := by subst hu; simp
  have e1 : (t ++ u)[t.size + 1]? = some { g := c, fn := fc, pos := ph, act := .start } := by subst hu; simp
  have edge : HappensBefore (t ++ u) t.size (t.size + 1) :=
    Relation.TransGen.single (.inr ⟨.spawn (act?_of e0) (act?_of e1) (g?_of e1), ⟨h, g?_of e0, by rw [deaf_old (Nat.le_refl _)]; exact H.hears h hh⟩, ⟨c, g?_of e1, by rw [deaf_quiet (hq c) 1 (by subst hu; simp)]; exact hc0⟩⟩)
  refine ⟨fun said => noRace_appendMute (H.clean said) hn, fun i a ha hm => ?_, fun i a ha hw hS g hg => ?_, fun g hg => (Deaf_quiet (hq g)).trans (hg.elim (H.hears g) fun e => e ▸ hc0), fun i a ha hW => ?_, seen_app H.seen fun op hop => ?_⟩
  · obtain ⟨x, hx, hxa⟩ := touch_of ha
    rcases getElem?_append_cases hx with ⟨hi, hx'⟩ | ⟨_, hxu⟩
    · rcases H.known i a (by rw [touchAt_of hx']; exact hxa) hm with hk | ⟨p, q, g, hg, hl⟩ | ⟨p, q, r⟩
      · exact .inl ⟨t.size + 1, _, e1, rfl, .inr ((hk.hb_new (Nat.le_refl _) e0 rfl).trans edge)⟩
      · exact .inr (.inl ⟨p, q, g, by rw [Go.Conc.g?_old hi]; exact hg, hl⟩)
      · exact .inr (.inr ⟨p, q, fun hh => r ((heard_old hi).1 hh)⟩)
    · rw [hn x hxu] at hxa; cases hxa
  · obtain ⟨x, hx, hxa⟩ := touch_of ha
    rcases getElem?_append_cases hx with ⟨_, hx'⟩ | ⟨_, hxu⟩
    · have hold := H.wrote i a (by rw [touchAt_of hx']; exact hxa) hw hS
      rcases hg with hg | rfl
      · exact (hold g hg).app u
      · exact ⟨t.size + 1, _, e1, rfl, .inr (((hold h hM).hb_new (Nat.le_refl _) e0 rfl).trans edge)⟩
    · rw [hn x hxu] at hxa; cases hxa
  · obtain ⟨x, hx, hxa⟩ := touch_of ha
    rcases getElem?_append_cases hx with ⟨_, hx'⟩ | ⟨_, hxu⟩
    · exact H.shut i a (by rw [touchAt_of hx']; exact hxa) hW
    · rw [hn x hxu] at hxa; cases hxa
  · subst hu
    simp only [List.mem_toArray, List.mem_cons, List.not_mem_nil, or_false] at hop
    rcases hop with rfl | rfl <;> trivial

/-- Into it: goroutine 0 alone beside goroutines that leave. -/
theorem PastW.ofPast {Shun : Loc → Prop} (H : Past Shun B t) (hSh : ∀ l, Shun l → Sh l) (hSt : ∀ i a, touchAt t i = some a → ¬ Still a.loc) (hWg : ∀ i a, touchAt t i = some a → ¬ Wg a.loc) :
    PastW Still Sh Wg (fun g => g = 0) (fun g => g = 0) (fun _ => False) B 0 t := by
  refine ⟨H.clean, fun i a ha hm => ?_, fun i a ha _ hs => absurd hs (hSt i a ha), fun _ hg => hg ▸ H.hears, fun i a ha hw => absurd hw (hWg i a ha), H.seen⟩
  rcases H.known i a ha hm with hk | ⟨hS, hka⟩
  · exact .inl hk
  · by_cases hh : t.heard i
    · obtain ⟨g, hg, hd⟩ := hh
      by_cases hg0 : g = 0
      · obtain ⟨x, hx, hxa⟩ := touch_of ha
        have := knows_own hx
        rw [g?_of hx, hg0] at hg
        rw [Option.some.inj hg] at this
        exact .inl this
      · obtain ⟨j, hj, hb⟩ := H.over i g hg hg0 ⟨a, ha, hm, .inr ⟨g, hg, hd⟩⟩
        unfold Trace.g? at hj
        obtain ⟨z, hz, hz2⟩ := Option.map_eq_some_iff.1 hj
        exact .inl ⟨j, z, hz, hz2, .inr hb⟩
    · exact .inr (.inr ⟨hSh _ hS, hka, hh⟩)
/-- Out of it. -/
theorem PastW.toPast (H : PastW Still Sh Wg Mem Hear Loose B 0 t) (h0 : Hear 0) (hL : ∀ g, ¬ Loose g) : Past Sh B t := by
  refine ⟨H.clean, fun i a ha hm => ?_, fun i g hg hne ⟨x, hx, hm, hc⟩ => ?_, H.hears 0 h0, H.seen⟩
  · rcases H.known i a ha hm with hk | ⟨_, _, g, _, hl⟩ | ⟨p, q, _⟩
    · exact .inl hk
    · exact absurd hl (hL g)
    · exact .inr ⟨p, q⟩
  · rcases H.known i x hx hm with ⟨q, z, hq, hz, hb⟩ | ⟨_, _, g, _, hl⟩ | ⟨p, q, r⟩
    · rcases hb with rfl | hb
      · rw [g?_of hq, hz] at hg
        exact absurd (Option.some.inj hg).symm hne
      · exact ⟨q, by rw [g?_of hq, hz], hb⟩
    · exact absurd hl (hL g)
    · rcases hc with hc | hc
      · exact absurd q hc
      · exact absurd hc r
end
end Go.Proofs.Ytdedmmjmiakidaa
