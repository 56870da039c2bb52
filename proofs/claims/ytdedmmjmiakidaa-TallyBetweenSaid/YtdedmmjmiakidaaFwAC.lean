/- Plain words: a machine of many goroutines of which one has the turn; the others sit at channels of their own, or are on their way there, or only count a group down and leave: what holds of it, and a bystander's step. No condition. -/
import Derived.Test.YtdedmmjmiakidaaFwAB
import Derived.Conc.CrowdSpec
import Derived.Conc.TokenWalk
set_option linter.unusedVariables false
set_option linter.unusedSimpArgs false
/- Plain words: a machine of many goroutines of which one has the turn; the others sit at channels of their own, or are on their way there, or only count a group down and leave: what holds of it, and a bystander's step. No condition. -/
namespace Go.Proofs.Ytdedmmjmiakidaa
open Go.Conc
open Go.ConcN (sumTo upd sumTo_upd upd_ne upd_same)
open Go.ConcR (KK wgBlock WgAt stA smA rd wr mk)

/-! ### communications of which one case has one way -/
section
variable {P : Program} {gs : Array Goroutine} {w w₁ : World} {sl : Option (Nat × Nat)} {i j kg kr : Nat} {g g₂ gj : Goroutine} {es : Array Event} {gc rc : Array CommCase} {shg shr : CommShape}
  {c cap s r : Nat} {tm : Bool} {v z z' : Value}
/-- A giver comes: the taker is parked. -/
theorem comm_give (hi : gs[i]? = some g) (h : stepG P (i == 0) g w = .comm g₂ gc true shg w₁ es) (hk : gc[kg]? = some (scase c v z))
    (ho : ∀ (m : Nat) (c' : CommCase), m ≠ kg → gc[m]? = some c' → NoWays w₁ (gs.setIfInBounds i ph) c')
    (hc : w₁.heap[c]? = some (.chan cap #[] false s r tm)) (hij : j ≠ i) (hj : gs[j]? = some (parked gj rc shr)) (hkr : rc[kr]? = some (rcase c z')) (hp : partners (gs.setIfInBounds i ph) c false = [(j, kr)]) :
    runT P (crowd gs w sl) i = (.next (crowd ((gs.setIfInBounds j (gj.finishComm P rc shr kr v true)).setIfInBounds i (g₂.finishComm P gc shg kg undef false)) (w₁.setChan c cap #[] false (s + 1) (r + 1) tm) sl),
      MemOp.ofEvents i g.frame.fn g.frame.place es ++ #[{ g := i, fn := g₂.frame.fn, pos := g₂.frame.place, act := .send c s }, { g := j, fn := gj.frame.fn, pos := gj.frame.place, act := .recv c r cap },
        { g := i, fn := g₂.frame.fn, pos := g₂.frame.place, act := .sendDone c s }, { g := j, fn := gj.frame.fn, pos := gj.frame.place, act := .recvDone c r }]) := by
  have hw : ways w₁ (gs.setIfInBounds i ph) (scase c v z) = [.partner j kr] := by simp [ways, scase, hc, hp]
  have hj' := stand_get (i := i) hij hj
  have hfp := finishPartner_at P (gs.setIfInBounds i ph) hj' (cs := rc) (sh := shr) rfl kr v
  have hgd : (gs.setIfInBounds i ph).getD j default = parked gj rc shr := by rw [Array.getD_eq_getD_getElem?, hj']; rfl
  rw [runT_crowd_comm hi h]
  unfold communicate
  simp only [ready_one hk (by rw [hw]; simp) ho, hw]
  rw [if_neg]
  · simp [choose, Sem.run, Question.forced, bind, Sem.bind, pure, rcase, crowd, hc, hfp, hgd, hkr, set_stand2, finishComm_parked, scase, parked, World.setChan]
    rfl
  · rw [Bool.not_eq_true]; exact any_ill (made_of_one hk (made_send v z hc) ho)
/-- A taker comes: the giver is parked. -/
theorem comm_take (hi : gs[i]? = some g) (h : stepG P (i == 0) g w = .comm g₂ rc true shr w₁ es) (hk : rc[kr]? = some (rcase c z'))
    (ho : ∀ (m : Nat) (c' : CommCase), m ≠ kr → rc[m]? = some c' → NoWays w₁ (gs.setIfInBounds i ph) c')
    (hc : w₁.heap[c]? = some (.chan cap #[] false s r tm)) (hij : j ≠ i) (hj : gs[j]? = some (parked gj gc shg)) (hkg : gc[kg]? = some (scase c v z)) (hp : partners (gs.setIfInBounds i ph) c true = [(j, kg)]) :
    runT P (crowd gs w sl) i = (.next (crowd ((gs.setIfInBounds j (gj.finishComm P gc shg kg undef false)).setIfInBounds i (g₂.finishComm P rc shr kr v true)) (w₁.setChan c cap #[] false (s + 1) (r + 1) tm) sl),
      MemOp.ofEvents i g.frame.fn g.frame.place es ++ #[{ g := j, fn := gj.frame.fn, pos := gj.frame.place, act := .send c s }, { g := i, fn := g₂.frame.fn, pos := g₂.frame.place, act := .recv c r cap },
        { g := j, fn := gj.frame.fn, pos := gj.frame.place, act := .sendDone c s }, { g := i, fn := g₂.frame.fn, pos := g₂.frame.place, act := .recvDone c r }]) := by
  have hw : ways w₁ (gs.setIfInBounds i ph) (rcase c z') = [.partner j kg] := by simp [ways, rcase, hc, hp]
  have hj' := stand_get (i := i) hij hj
  have hfp := finishPartner_at P (gs.setIfInBounds i ph) hj' (cs := gc) (sh := shg) rfl kg undef
  have hgd : (gs.setIfInBounds i ph).getD j default = parked gj gc shg := by rw [Array.getD_eq_getD_getElem?, hj']; rfl
  have hov : offeredValue (gs.setIfInBounds i ph) j kg = v := by simp [offeredValue, hj', parked, scase, hkg]
  rw [runT_crowd_comm hi h]
  unfold communicate
  simp only [ready_one hk (by rw [hw]; simp) ho, hw]
  rw [if_neg]
  · simp [choose, Sem.run, Question.forced, bind, Sem.bind, pure, rcase, crowd, hc, hfp, hgd, hov, hkg, set_stand2, finishComm_parked, scase, parked, World.setChan]
    rfl
  · rw [Bool.not_eq_true]; exact any_ill (made_of_one hk (made_recv z' hc) ho)
end

/-! ### who sits, who leaves -/
/-- What a step on the way to the seat may list. -/
def EvS (Still : Loc → Prop) (e : Event) : Prop := ∃ a, e = ⟨.cell a, false, false⟩ ∧ Still (.cell a)
/-- It stands at its seat's communication; g₂: the record that is handed on. -/
def AtS (P : Program) (main : Bool) (K : World → Prop) (s : Seat) (g g₂ : Goroutine) : Prop :=
  g.status = .running ∧ g.frame = g₂.frame ∧ g.callers = g₂.callers ∧ g.dying = g₂.dying ∧ s.home g₂ ∧ ∀ w, K w → stepG P main g w = .comm g₂ s.cases true s.shape w #[]
def Lag (P : Program) (main : Bool) (K : World → Prop) (Still : Loc → Prop) (s : Seat) : Nat → Goroutine → Prop
  | 0, g => ∃ g₂, AtS P main K s g g₂
  | n + 1, g => (∃ g₂, AtS P main K s g g₂) ∨ (g.status = .running ∧ ∀ w, K w → ∃ g' es d, stepG P main g w = .go g' (w.at d) es ∧ (∀ e ∈ es, EvS Still e) ∧ Lag P main K Still s n g')
def SitN (P : Program) (main : Bool) (K : World → Prop) (Still : Loc → Prop) (s : Seat) (n : Nat) (g : Goroutine) : Prop :=
  (∃ k, n = k + 1 ∧ Lag P main K Still s k g) ∨ (n = 0 ∧ ∃ g₀ g₂, g = parked g₂ s.cases s.shape ∧ AtS P main K s g₀ g₂)
theorem Lag.status {P : Program} {main : Bool} {K : World → Prop} {Still : Loc → Prop} {s : Seat} {n : Nat} {g : Goroutine} (h : Lag P main K Still s n g) : g.status = .running := by
  cases n with
  | zero => obtain ⟨g₂, h⟩ := h; exact h.1
  | succ n => rcases h with ⟨g₂, h⟩ | ⟨h, _⟩ <;> first | exact h.1 | exact h
theorem SitN.status {P : Program} {main : Bool} {K : World → Prop} {Still : Loc → Prop} {s : Seat} {n : Nat} {g : Goroutine} (h : SitN P main K Still s n g) : (g.status = .running ∧ 0 < n) ∨ (g.status = .blocked ∧ n = 0) := by
  rcases h with ⟨k, rfl, h⟩ | ⟨rfl, _, g₂, rfl, _⟩
  · exact .inl ⟨h.status, by omega⟩
  · exact .inr ⟨rfl, rfl⟩
theorem Lag.mono {P : Program} {main : Bool} {K K' : World → Prop} {Still Still' : Loc → Prop} {s : Seat} (hK : ∀ w, K' w → K w) (hS : ∀ l, Still l → Still' l) : ∀ {n : Nat} {g : Goroutine}, Lag P main K Still s n g → Lag P main K' Still' s n g
  | 0, g, ⟨g₂, h⟩ => ⟨g₂, h.1, h.2.1, h.2.2.1, h.2.2.2.1, h.2.2.2.2.1, fun w hw => h.2.2.2.2.2 w (hK w hw)⟩
  | n + 1, g, .inl ⟨g₂, h⟩ => .inl ⟨g₂, h.1, h.2.1, h.2.2.1, h.2.2.2.1, h.2.2.2.2.1, fun w hw => h.2.2.2.2.2 w (hK w hw)⟩
  | n + 1, g, .inr ⟨hr, h⟩ => .inr ⟨hr, fun w hw => by
    obtain ⟨g', es, d, h1, h2, h3⟩ := h w (hK w hw)
    exact ⟨g', es, d, h1, fun e he => (h2 e he).imp fun a ha => ⟨ha.1, hS _ ha.2⟩, Lag.mono hK hS h3⟩⟩
theorem SitN.mono {P : Program} {main : Bool} {K K' : World → Prop} {Still Still' : Loc → Prop} {s : Seat} (hK : ∀ w, K' w → K w) (hS : ∀ l, Still l → Still' l) {n : Nat} {g : Goroutine} (h : SitN P main K Still s n g) : SitN P main K' Still' s n g := by
  rcases h with ⟨k, e, h⟩ | ⟨e, g₀, g₂, e2, h⟩
  · exact .inl ⟨k, e, h.mono hK hS⟩
  · exact .inr ⟨e, g₀, g₂, e2, h.1, h.2.1, h.2.2.1, h.2.2.2.1, h.2.2.2.2.1, fun w hw => h.2.2.2.2.2 w (hK w hw)⟩

/-- What one that leaves may list, its own accesses to the group apart. -/
def EvM (Wg : Nat) (e : Event) : Prop := e.mute = true ∨ ∃ a : Addr, a.block = Wg ∧ e = mk (.releaseMerge a)
/-- It only leaves: within n steps; deaf so often; in this phase: 4 it is counted · 3 the last one, somebody waits: it looks · 2 it clears the state · 1 it wakes who waits · 0 nothing more. -/
def Lv (P : Program) (ty : TypeId) (Wg : Nat) : Nat → Nat → Nat → Goroutine → Prop
  | n, d, 0, g => QuitsD P n d g
  | 0, _, _ + 1, _ => False
  | n + 1, d, p + 1, g => g.status = .running ∧
      ((∀ w st sm, WgAt ty Wg w st sm → ∃ g' es, stepG P false g w = .go g' w es ∧ (∀ e ∈ es, EvM Wg e) ∧ Lv P ty Wg n (deafBehind d es) (p + 1) g') ∨
       (0 < d ∧
        ((p = 3 ∧ ∀ (w : World) (v wt : Nat), wt ≤ 1 → v < 2147483647 → WgAt ty Wg w (((v + 1 : Nat) : Int) * KK + wt) 0 → ∃ g', stepG P false g w = .go g' (w.setCell (stA Wg) (.int .u64 (v * KK + wt))) #[rd (stA Wg), wr (stA Wg)] ∧ Lv P ty Wg n d (if v = 0 ∧ wt = 1 then 3 else 0) g') ∨
         (p = 2 ∧ ∀ w, WgAt ty Wg w 1 0 → ∃ g', stepG P false g w = .go g' w #[rd (stA Wg)] ∧ Lv P ty Wg n d 2 g') ∨
         (p = 1 ∧ ∀ w, WgAt ty Wg w 1 0 → ∃ g', stepG P false g w = .go g' (w.setCell (stA Wg) (.int .u64 0)) #[wr (stA Wg)] ∧ Lv P ty Wg n d 1 g') ∨
         (p = 0 ∧ mayWake P g = true ∧ ∀ w, WgAt ty Wg w 0 0 → ∃ g', stepG P false g w = .go g' (w.setCell (smA Wg) (.int .u32 1)) (semEvents (smA Wg)) ∧ Lv P ty Wg n d 0 g'))))
theorem Lv.status {P : Program} {ty : TypeId} {Wg n d p : Nat} {g : Goroutine} (h : Lv P ty Wg n d p g) : g.status = .running ∨ g.status = .finished := by
  cases p with
  | zero => cases n <;> exact QuitsD.status h
  | succ p =>
    cases n with
    | zero => exact h.elim
    | succ n => exact .inl h.1

/-- The places of the group. -/
def WgL (Wg : Nat) (l : Loc) : Prop := ∃ a : Addr, l = .cell a ∧ a.block = Wg
/-- What the others may do to the world while one has the turn: the group's block changes, and draws are made. -/
structure RWg (ty : TypeId) (Wg : Nat) (w w₁ : World) : Prop where
  block : ∀ b, b ≠ Wg → w₁.heap[b]? = w.heap[b]?
  wg : (∃ st sm, WgAt ty Wg w st sm) → ∃ st sm, WgAt ty Wg w₁ st sm
  shape : ∀ c, w.heap[Wg]? = some (.cells c ty (0, 0)) → ∃ c', w₁.heap[Wg]? = some (.cells c' ty (0, 0))
  size : w₁.heap.size = w.heap.size
  tape : w₁.tape = w.tape
  os : w₁.os = w.os
  output : w₁.output = w.output
theorem RWg.refl {ty : TypeId} {Wg : Nat} (w : World) : RWg ty Wg w w := ⟨fun _ _ => rfl, id, fun c h => ⟨c, h⟩, rfl, rfl, rfl, rfl⟩
theorem RWg.trans {ty : TypeId} {Wg : Nat} (a b c : World) (h : RWg ty Wg a b) (k : RWg ty Wg b c) : RWg ty Wg a c :=
  ⟨fun x hx => (k.block x hx).trans (h.block x hx), k.wg ∘ h.wg, fun x hx => (h.shape x hx).elim fun y hy => k.shape y hy, k.size.trans h.size, k.tape.trans h.tape, k.os.trans h.os, k.output.trans h.output⟩
theorem RWg.at {ty : TypeId} {Wg : Nat} (w : World) (d : Nat) : RWg ty Wg w (w.at d) := ⟨fun _ _ => rfl, id, fun c h => ⟨c, h⟩, rfl, rfl, rfl, rfl⟩

/-- The machine's frame; h: whose knowledge counts; Sp: of whom it does not speak. -/
structure Base (P : Program) (ty : TypeId) (Wg : Nat) (Sh : Loc → Prop) (K : World → Prop) (Still : Loc → Prop) (Ch : Nat → Prop) (role : Nat → Option Seat) (h : Nat) (Sp : Nat → Prop) (cr d : Nat) (ct : Nat → Nat)
    (gs : Array Goroutine) (T : Trace) (w : World) (q : Nat → Nat) : Prop where
  idle : ∀ i g, ¬ Sp i → gs[i]? = some g → match role i with
    | some s => SitN P (i == 0) K Still s (q i) g
    | none => 0 < i ∧ Lv P ty Wg (q i) (Deaf T i) (if ct i = 1 then 4 else 0) g
  ch : ∀ c, Ch c → ∃ k, w.heap[c]? = some (.chan 0 #[] false k k false)
  wf : ∀ i s, role i = some s → s.Wf ∧ ∀ c, s.has c → Ch c
  inj : ∀ i i' s s' c, role i = some s → role i' = some s' → s.has c → s'.has c → i = i'
  above : ∀ j, gs.size ≤ j → Deaf T j = 0 ∧ ct j = 0 ∧ role j = none
  past : PastW Still Sh (WgL Wg) (fun g => g = h ∨ role g ≠ none) (fun g => (g = h ∧ d = 0) ∨ (g ≠ h ∧ role g ≠ none)) (fun g => g ≠ h ∧ role g ≠ none) w.heap.size h T
  deaf : Deaf T h = d
  keep : K w
  still : ∀ l, Still l → l.low w.heap.size ∧ ¬ WgL Wg l
  wg : WgAt ty Wg w (((cr + sumTo gs.size ct : Nat) : Int) * KK) 0
  few : cr + sumTo gs.size ct < 2147483647
  ones : ∀ i, ct i ≤ 1 ∧ (i = 0 → ct i = 0)
  busy : ∀ i, 0 < i → i = h ∨ role i ≠ none → ct i = 1
end Go.Proofs.Ytdedmmjmiakidaa
/- Plain words: a bystander's step keeps the frame. No condition. -/
namespace Go.Proofs.Ytdedmmjmiakidaa
open Go.Conc
open Go.ConcN (sumTo upd sumTo_upd upd_ne upd_same)
open Go.ConcR (KK wgBlock WgAt stA smA rd wr mk)
section
variable {P : Program} {ty : TypeId} {Wg : Nat} {Sh : Loc → Prop} {K : World → Prop} {Still : Loc → Prop} {Ch : Nat → Prop} {role : Nat → Option Seat} {h : Nat} {Sp : Nat → Prop} {cr d : Nat} {ct : Nat → Nat}
  {gs : Array Goroutine} {T : Trace} {w : World} {q : Nat → Nat}

theorem SitN.again {main : Bool} {s : Seat} {n : Nat} {g : Goroutine} (hs : SitN P main K Still s n g) (hwf : s.Wf) (hc : ∀ c, s.has c → ∃ k, w.heap[c]? = some (.chan 0 #[] false k k false)) : g.again w = g := by
  rcases hs with ⟨k, rfl, hg⟩ | ⟨rfl, _, g₂, rfl, _⟩
  · exact again_of_running (.inl hg.status) w
  · refine again_all_open fun cc hcc => ?_
    obtain ⟨c, z, rfl⟩ := hwf.recvs cc hcc
    obtain ⟨k, hk⟩ := hc c (Seat.has_of_mem hcc)
    exact ⟨c, z, 0, #[], k, k, false, rfl, hk⟩

theorem Base.fixed (B : Base P ty Wg Sh K Still Ch role h Sp cr d ct gs T w q) {w' : World} (hw : ∀ c, Ch c → ∃ k, w'.heap[c]? = some (.chan 0 #[] false k k false)) {x : Nat} {y : Goroutine} (hx : ¬ Sp x) (hy : gs[x]? = some y) : y.again w' = y := by
  have hi := B.idle x y hx hy
  cases e : role x with
  | none => rw [e] at hi; exact again_of_running hi.2.status w'
  | some s => rw [e] at hi; exact SitN.again hi (B.wf x s e).1 fun c hc => hw c ((B.wf x s e).2 c hc)
theorem Base.noSend (B : Base P ty Wg Sh K Still Ch role h Sp cr d ct gs T w q) {x : Nat} {y : Goroutine} (hx : ¬ Sp x) (hy : gs[x]? = some y) (c : Nat) : offersAt y c true = [] := by
  have hi := B.idle x y hx hy
  cases e : role x with
  | none =>
    rw [e] at hi
    exact offersAt_of_not_blocked (fun hb => by rcases hi.2.status with z | z <;> rw [z] at hb <;> cases hb) c true
  | some s =>
    rw [e] at hi
    rcases hi with ⟨k, hq, hg⟩ | ⟨_, _, g₂, rfl, _⟩
    · exact offersAt_of_not_blocked (fun hb => by rw [hg.status] at hb; cases hb) c true
    · exact offersAt_parked_sends (fun cc hcc => by obtain ⟨c', z', rfl⟩ := (B.wf x s e).1.recvs cc hcc; rfl) _
theorem Base.awake (B : Base P ty Wg Sh K Still Ch role h Sp cr d ct gs T w q) {x : Nat} {y : Goroutine} (hx : ¬ Sp x) (hy : gs[x]? = some y) : awake y := by
  have hi := B.idle x y hx hy
  cases e : role x with
  | none => rw [e] at hi; exact awake_of (hi.2.status.elim .inl fun z => .inr (.inr z))
  | some s => rw [e] at hi; exact awake_of (hi.status.elim (fun z => .inl z.1) fun z => .inr (.inl z.1))

theorem evS_ops {i : Nat} {fn : FuncId} {pos : String} {es : Array Event} (hS : ∀ l, Still l → l.low w.heap.size) (hh : ∀ e ∈ es, EvS Still e) :
    (∀ op ∈ MemOp.ofEvents i fn pos es, op.g = i) ∧ (∀ op ∈ MemOp.ofEvents i fn pos es, ∀ b, op.act.touch? = some b → b.write = false ∧ Still b.loc) ∧ (∀ op ∈ MemOp.ofEvents i fn pos es, op.act.low w.heap.size) ∧ ∀ t : Trace, Deaf (t ++ MemOp.ofEvents i fn pos es) i = Deaf t i := by
  refine ⟨fun op hop => by obtain ⟨e, _, rfl⟩ := Go.Conc.mem_ofEvents hop; rfl, fun op hop b hb => ?_, fun op hop => ?_, fun t => ?_⟩
  · obtain ⟨e, he, rfl⟩ := Go.Conc.mem_ofEvents hop
    obtain ⟨a, rfl, hs⟩ := hh e he
    simp [MemAct.ofEvent, MemAct.touch?] at hb
    subst hb
    exact ⟨rfl, hs⟩
  · obtain ⟨e, he, rfl⟩ := Go.Conc.mem_ofEvents hop
    obtain ⟨a, rfl, hs⟩ := hh e he
    exact hS _ hs
  · rw [Deaf_own]
    exact deafBehind_still (fun e he => by obtain ⟨a, rfl, _⟩ := hh e he; exact ⟨by simp, by simp⟩) _
theorem evM_ops {i : Nat} {fn : FuncId} {pos : String} {es : Array Event} {n : Nat} (hn : Wg < n) (hh : ∀ e ∈ es, EvM Wg e) :
    (∀ op ∈ MemOp.ofEvents i fn pos es, op.g = i) ∧ (∀ op ∈ MemOp.ofEvents i fn pos es, op.act.touch? = none) ∧ (∀ op ∈ MemOp.ofEvents i fn pos es, op.act.low n) := by
  refine ⟨fun op hop => by obtain ⟨e, _, rfl⟩ := Go.Conc.mem_ofEvents hop; rfl, fun op hop => ?_, fun op hop => ?_⟩
  · obtain ⟨e, he, rfl⟩ := Go.Conc.mem_ofEvents hop
    rcases hh e he with hm | ⟨a, ha, rfl⟩
    · exact touch_mute hm
    · rfl
  · obtain ⟨e, he, rfl⟩ := Go.Conc.mem_ofEvents hop
    rcases hh e he with hm | ⟨a, ha, rfl⟩
    · exact low_mute hm _
    · show a.block < n
      omega

/-- One bystander's record is laid anew; its role stands. -/
theorem Base.put (B : Base P ty Wg Sh K Still Ch role h Sp cr d ct gs T w q) {i n' : Nat} {g' : Goroutine} {ops : Array MemOp} {gs' : Array Goroutine} {w' : World} {ct' : Nat → Nat} (hlt : i < gs.size) (hsp : ¬ Sp i) (hsz : gs'.size = gs.size) (hother : ∀ x, x ≠ i → gs'[x]? = gs[x]?) (hself : gs'[i]? = some g')
    (hops : ∀ op ∈ ops, op.g = i) (hih : i ≠ h) (hct : ∀ x, x ≠ i → ct' x = ct x)
    (hidle : match role i with
      | some s => SitN P (i == 0) K Still s n' g'
      | none => 0 < i ∧ Lv P ty Wg n' (Deaf (T ++ ops) i) (if ct' i = 1 then 4 else 0) g')
    (hpast : PastW Still Sh (WgL Wg) (fun g => g = h ∨ role g ≠ none) (fun g => (g = h ∧ d = 0) ∨ (g ≠ h ∧ role g ≠ none)) (fun g => g ≠ h ∧ role g ≠ none) w'.heap.size h (T ++ ops))
    (hch : ∀ c, Ch c → w'.heap[c]? = w.heap[c]?) (hK : K w') (hsize : w'.heap.size = w.heap.size) (hwg : WgAt ty Wg w' (((cr + sumTo gs.size ct' : Nat) : Int) * KK) 0) (hfew : cr + sumTo gs.size ct' < 2147483647) (hle : ct' i ≤ ct i) (hkp : role i ≠ none → ct' i = ct i) :
    Base P ty Wg Sh K Still Ch role h Sp cr d ct' gs' (T ++ ops) w' (upd q i n') := by
  refine ⟨fun x y hx hy => ?_, fun c hc => by rw [hch c hc]; exact B.ch c hc, B.wf, B.inj, fun j hj => ?_, hpast, ?_, hK, fun l hl => by rw [hsize]; exact B.still l hl, by rw [hsz]; exact hwg, by rw [hsz]; exact hfew, fun x => ?_, fun x hx0 hx => ?_⟩
  rotate_right 1
  · by_cases e : x = i
    · subst e
      rw [hkp (hx.resolve_left hih)]
      exact B.busy x hx0 hx
    · rw [hct x e]
      exact B.busy x hx0 hx
  rotate_right 1
  · by_cases e : x = i
    · subst e
      exact ⟨Nat.le_trans hle (B.ones x).1, fun z => Nat.le_zero.1 ((B.ones x).2 z ▸ hle)⟩
    · rw [hct x e]
      exact B.ones x
  · by_cases e : x = i
    · subst e
      rw [hself] at hy
      obtain rfl := Option.some.inj hy
      rw [upd_same]; exact hidle
    · rw [hother x e] at hy
      rw [upd_ne q n' e, hct x e, Deaf_other T (fun z => e z.symm) ops hops]
      exact B.idle x y hx hy
  · rw [hsz] at hj
    rw [Deaf_other T (g' := i) (by omega) ops hops, hct j (by omega)]
    exact B.above j hj
  · rw [Deaf_other T hih ops hops]; exact B.deaf

/-- ████ A BYSTANDER's STEP. ████ -/
theorem Base.by_step (hSh : ∀ l, WgL Wg l → Sh l) (hK : ∀ w w', K w → (∀ b, b ≠ Wg → ¬ Ch b → w'.heap[b]? = w.heap[b]?) → K w')
    (B : Base P ty Wg Sh K Still Ch role h Sp cr d ct gs T w q) {i : Nat} {g : Goroutine} {sl : Option (Nat × Nat)} (hi : gs[i]? = some g) (hsp : ¬ Sp i) (hrun : g.status = .running) (hih : i ≠ h)
    (hsA : ∀ x gx w', Sp x → gs[x]? = some gx → (∀ c, Ch c → ∃ k, w'.heap[c]? = some (.chan 0 #[] false k k false)) → gx.again w' = gx)
    (hsO : ∀ s c x gx, role i = some s → s.has c → Sp x → gs[x]? = some gx → offersAt gx c true = []) :
    ∃ (gs' : Array Goroutine) (w' : World) (ops : Array MemOp) (ct' q' : Nat → Nat), runT P (crowd gs w sl) i = (.next (crowd gs' w' sl), ops) ∧ gs'.size = gs.size ∧ (∀ x, x ≠ i → gs'[x]? = gs[x]?) ∧ RWg ty Wg w w' ∧
      Base P ty Wg Sh K Still Ch role h Sp cr d ct' gs' (T ++ ops) w' q' ∧ sumTo gs.size q' < sumTo gs.size q ∧ (∀ x, x ≠ i → q' x = q x ∧ ct' x = ct x) := by
  have hlt : i < gs.size := (Array.getElem?_eq_some_iff.1 hi).1
  have hWg : Wg < w.heap.size := (Array.getElem?_eq_some_iff.1 B.wg).1
  have hfix : ∀ (a a' : Goroutine) (w' : World), (∀ c, Ch c → w'.heap[c]? = w.heap[c]?) → ∀ (x : Nat) (y : Goroutine), gs[x]? = some y → woken P a a' w' y = y := fun a a' w' hw x y hy => woken_of_again (by
    have hw2 : ∀ c, Ch c → ∃ k, w'.heap[c]? = some (.chan 0 #[] false k k false) := fun c hc => by rw [hw c hc]; exact B.ch c hc
    by_cases hx : Sp x
    · exact hsA x y w' hx hy hw2
    · exact B.fixed hw2 hx hy)
  have harr : ∀ (a' g' : Goroutine) (w' : World), (∀ c, Ch c → w'.heap[c]? = w.heap[c]?) → ∀ (x : Nat), x ≠ i → ((gs.map (woken P g a' w')).setIfInBounds i g')[x]? = gs[x]? := by
    intro a' g' w' hw x hx
    rw [Array.getElem?_setIfInBounds_ne (fun z => hx z.symm), Array.getElem?_map]
    cases e : gs[x]? with
    | none => rfl
    | some y => simp [hfix g a' w' hw x y e]
  have hself : ∀ (a' g' : Goroutine) (w' : World), ((gs.map (woken P g a' w')).setIfInBounds i g')[i]? = some g' := by
    intro a' g' w'
    rw [Array.getElem?_setIfInBounds_self_of_lt (by simpa using hlt)]
  have hSW : ∀ l, Still l → ¬ WgL Wg l := fun l hl => (B.still l hl).2
  have hSl : ∀ l, Still l → l.low w.heap.size := fun l hl => (B.still l hl).1
  have hidle := B.idle i g hsp hi
  have hless : ∀ n', n' < q i → sumTo gs.size (upd q i n') < sumTo gs.size q := by
    intro n' hn
    have h3 : sumTo gs.size (fun a => upd q i n' a) + q i = sumTo gs.size (fun a => q a) + n' := sumTo_upd q n' (fun x : Nat => x) hlt
    have h4 : sumTo gs.size (fun a => upd q i n' a) = sumTo gs.size (upd q i n') := rfl
    have h5 : sumTo gs.size (fun a => q a) = sumTo gs.size q := rfl
    omega
  cases er : role i with
  | some s =>
    rw [er] at hidle
    have hL : (i ≠ h ∧ role i ≠ none) := ⟨hih, by rw [er]; simp⟩
    rcases hidle with ⟨k, hq, hg⟩ | ⟨_, g₀, g₂, rfl, _⟩
    · have hat : ∀ g₂, AtS P (i == 0) K s g g₂ → ∃ (gs' : Array Goroutine) (w' : World) (ops : Array MemOp) (ct' q' : Nat → Nat), runT P (crowd gs w sl) i = (.next (crowd gs' w' sl), ops) ∧ gs'.size = gs.size ∧ (∀ x, x ≠ i → gs'[x]? = gs[x]?) ∧ RWg ty Wg w w' ∧
          Base P ty Wg Sh K Still Ch role h Sp cr d ct' gs' (T ++ ops) w' q' ∧ sumTo gs.size q' < sumTo gs.size q ∧ (∀ x, x ≠ i → q' x = q x ∧ ct' x = ct x) := by
        intro g₂ hA
        have hst := hA.2.2.2.2.2 w B.keep
        have hnw : ∀ cc ∈ s.cases, NoWays w (gs.setIfInBounds i ph) cc := by
          intro cc hcc
          obtain ⟨c, z, rfl⟩ := (B.wf i s er).1.recvs cc hcc
          have hsc : s.has c := Seat.has_of_mem hcc
          obtain ⟨k, hk⟩ := B.ch c ((B.wf i s er).2 c hsc)
          refine ways_recv_none hk (partners_nil fun x y hy => ?_)
          rcases getElem?_stand gs i x y hy with ⟨_, rfl⟩ | ⟨_, hy'⟩
          · exact offersAt_ph _ _
          · by_cases hx : Sp x
            · exact hsO s c x y er hsc hx hy'
            · exact B.noSend hx hy' c
        have hrt := crowd_waits (sl := sl) hi hst hnw
        refine ⟨_, w, _, ct, upd q i 0, hrt, by simp, fun x hx => by rw [Array.getElem?_setIfInBounds_ne (fun z => hx z.symm)], RWg.refl w, ?_, hless 0 (by omega), fun x hx => ⟨upd_ne q 0 hx, rfl⟩⟩
        have hemp : MemOp.ofEvents i g.frame.fn g.frame.place #[] = #[] := by simp [MemOp.ofEvents]
        rw [hemp]
        refine B.put hlt hsp (by simp) (fun x hx => by rw [Array.getElem?_setIfInBounds_ne (fun z => hx z.symm)]) (by rw [Array.getElem?_setIfInBounds_self_of_lt hlt]) (by simp) hih (fun _ _ => rfl) ?_ (by simpa using B.past) (fun _ _ => rfl) B.keep rfl B.wg B.few (Nat.le_refl _) (fun _ => rfl)
        rw [er]
        exact .inr ⟨rfl, g, g₂, rfl, hA⟩
      cases k with
      | zero =>
        obtain ⟨g₂, hA⟩ := hg
        exact hat g₂ hA
      | succ k =>
        rcases hg with ⟨g₂, hA⟩ | ⟨_, hstep⟩
        · exact hat g₂ hA
        · obtain ⟨g', es, dd, hst, hes, hlag⟩ := hstep w B.keep
          have hrt := runT_crowd_go (P := P) (sl := sl) hi hst
          obtain ⟨o1, o2, o3, o4⟩ := evS_ops (w := w) (i := i) (fn := g.frame.fn) (pos := g.frame.place) hSl hes
          refine ⟨_, w.at dd, _, ct, upd q i (k + 1), hrt, by simp, harr g' g' (w.at dd) (fun _ _ => rfl), RWg.at w dd, ?_, hless (k + 1) (by omega), fun x hx => ⟨upd_ne q _ hx, rfl⟩⟩
          refine B.put hlt hsp (by simp) (harr g' g' (w.at dd) (fun _ _ => rfl)) (hself g' g' (w.at dd)) o1 hih (fun _ _ => rfl) ?_ ?_ (fun _ _ => rfl) (hK _ _ B.keep fun _ _ _ => rfl) rfl B.wg B.few (Nat.le_refl _) (fun _ => rfl)
          · rw [er]
            exact .inl ⟨k, rfl, hlag⟩
          · refine B.past.app hSh hSW o1 (fun op hop b hb => .inr (.inl ⟨(o2 op hop b hb).1, (o2 op hop b hb).2, hL, .inr hL.2⟩)) (.inr (.inr fun op hop => ?_)) (fun g'' hg'' => ?_) o3
            · cases e : op.act.touch? with
              | none => exact .inl rfl
              | some b => exact .inr ⟨b, rfl, (o2 op hop b e).2, (o2 op hop b e).1, hL, .inr hL.2⟩
            · by_cases e : g'' = i
              · subst e; rw [o4]; exact B.past.hears _ hg''
              · rw [Deaf_other T (fun z => e z.symm) _ o1]; exact B.past.hears _ hg''
    · simp [parked] at hrun
  | none =>
    rw [er] at hidle
    obtain ⟨hpos, hlv⟩ := hidle
    have hi0 : (i == 0) = false := by simp; omega
    have hhear : ∀ (u : Array MemOp), (∀ op ∈ u, op.g = i) → ∀ g'', ((g'' = h ∧ d = 0) ∨ (g'' ≠ h ∧ role g'' ≠ none)) → Deaf (T ++ u) g'' = 0 := by
      intro u hu g'' hg''
      have e : g'' ≠ i := by
        rintro rfl
        rcases hg'' with ⟨x, _⟩ | ⟨_, x⟩
        · exact hih x
        · exact x er
      rw [Deaf_other T (fun z => e z.symm) _ hu]; exact B.past.hears _ hg''
    -- a quiet step
    have quiet : ∀ (g' : Goroutine) (es : Array Event) (n' : Nat), n' < q i → stepG P false g w = .go g' w es → (∀ e ∈ es, EvM Wg e) → Lv P ty Wg n' (deafBehind (Deaf T i) es) (if ct i = 1 then 4 else 0) g' →
        ∃ (gs' : Array Goroutine) (w' : World) (ops : Array MemOp) (ct' q' : Nat → Nat), runT P (crowd gs w sl) i = (.next (crowd gs' w' sl), ops) ∧ gs'.size = gs.size ∧ (∀ x, x ≠ i → gs'[x]? = gs[x]?) ∧ RWg ty Wg w w' ∧
          Base P ty Wg Sh K Still Ch role h Sp cr d ct' gs' (T ++ ops) w' q' ∧ sumTo gs.size q' < sumTo gs.size q ∧ (∀ x, x ≠ i → q' x = q x ∧ ct' x = ct x) := by
      intro g' es n' hn' hst hes hl
      have hrt := runT_crowd_go (P := P) (sl := sl) (i := i) hi (by rw [hi0]; exact hst)
      obtain ⟨o1, o2, o3⟩ := evM_ops (i := i) (fn := g.frame.fn) (pos := g.frame.place) hWg hes
      refine ⟨_, w, _, ct, upd q i n', hrt, by simp, harr g' g' w (fun _ _ => rfl), RWg.refl w, ?_, hless n' hn', fun x hx => ⟨upd_ne q _ hx, rfl⟩⟩
      refine B.put hlt hsp (by simp) (harr g' g' w (fun _ _ => rfl)) (hself g' g' w) o1 hih (fun _ _ => rfl) ?_ ?_ (fun _ _ => rfl) B.keep rfl B.wg B.few (Nat.le_refl _) (fun _ => rfl)
      · rw [er, Deaf_own]
        exact ⟨hpos, hl⟩
      · exact B.past.app hSh hSW o1 (fun op hop b hb => by rw [o2 op hop] at hb; cases hb) (.inr (.inr fun op hop => .inl (o2 op hop))) (hhear _ o1) o3
    by_cases hc : ct i = 1
    · rw [if_pos hc] at hlv
      cases hqi : q i with
      | zero => rw [hqi] at hlv; exact hlv.elim
      | succ n =>
        rw [hqi] at hlv
        obtain ⟨_, hquiet | ⟨hd, hsp4⟩⟩ := hlv
        · obtain ⟨g', es, hst, hes, hl⟩ := hquiet w _ _ B.wg
          exact quiet g' es n (by omega) hst hes (by rw [if_pos hc]; exact hl)
        · rcases hsp4 with ⟨_, hdec⟩ | ⟨x, _⟩ | ⟨x, _⟩ | ⟨x, _⟩
          · -- it counts the group down
            have h1 : sumTo gs.size (upd ct i 0) + 1 = sumTo gs.size ct := by
              have h3 : sumTo gs.size (fun a => upd ct i 0 a) + ct i = sumTo gs.size (fun a => ct a) + 0 := sumTo_upd ct 0 (fun x : Nat => x) hlt
              have h4 : sumTo gs.size (fun a => upd ct i 0 a) = sumTo gs.size (upd ct i 0) := rfl
              have h5 : sumTo gs.size (fun a => ct a) = sumTo gs.size ct := rfl
              omega
            obtain ⟨V, hV⟩ : ∃ V, V = cr + sumTo gs.size (upd ct i 0) := ⟨_, rfl⟩
            have hV1 : cr + sumTo gs.size ct = V + 1 := by omega
            have hfew := B.few
            have hwg : WgAt ty Wg w (((V + 1 : Nat) : Int) * KK + (0 : Nat)) 0 := by
              have := B.wg
              rw [hV1] at this
              simpa using this
            obtain ⟨g', hst, hl⟩ := hdec w V 0 (by omega) (by omega) hwg
            rw [if_neg (by simp)] at hl
            have hwg' : WgAt ty Wg (w.setCell (stA Wg) (.int .u64 ((V : Int) * KK + (0 : Nat)))) ((V : Int) * KK) 0 := by
              have := hwg.setSt ((V : Int) * KK + (0 : Nat))
              simpa using this
            have hblk : ∀ b, b ≠ Wg → (w.setCell (stA Wg) (.int .u64 ((V : Int) * KK + (0 : Nat)))).heap[b]? = w.heap[b]? := by
              intro b hb
              have := (aside_setCell w (stA Wg) (.int .u64 ((V : Int) * KK + (0 : Nat)))).block b hb
              exact this
            have hszw : (w.setCell (stA Wg) (.int .u64 ((V : Int) * KK + (0 : Nat)))).heap.size = w.heap.size := (aside_setCell w (stA Wg) _).size
            have hchw : ∀ c, Ch c → (w.setCell (stA Wg) (.int .u64 ((V : Int) * KK + (0 : Nat)))).heap[c]? = w.heap[c]? := fun c hc => hblk c fun e => by
              obtain ⟨k, hk⟩ := B.ch c hc
              rw [e, B.wg] at hk
              cases hk
            have hrt := runT_crowd_go (P := P) (sl := sl) (i := i) hi (by rw [hi0]; exact hst)
            have o1 : ∀ op ∈ MemOp.ofEvents i g.frame.fn g.frame.place #[rd (stA Wg), wr (stA Wg)], op.g = i := fun op hop => by obtain ⟨e, _, rfl⟩ := Go.Conc.mem_ofEvents hop; rfl
            have o2 : ∀ op ∈ MemOp.ofEvents i g.frame.fn g.frame.place #[rd (stA Wg), wr (stA Wg)], ∃ wr, op.act.touch? = some ⟨.cell (stA Wg), wr, .atomic⟩ := fun op hop => by
              obtain ⟨e, he, rfl⟩ := Go.Conc.mem_ofEvents hop
              simp only [List.mem_toArray, List.mem_cons, List.not_mem_nil, or_false] at he
              rcases he with rfl | rfl
              · exact ⟨false, rfl⟩
              · exact ⟨true, rfl⟩
            have o3 : ∀ op ∈ MemOp.ofEvents i g.frame.fn g.frame.place #[rd (stA Wg), wr (stA Wg)], op.act.low w.heap.size := fun op hop => by
              obtain ⟨e, he, rfl⟩ := Go.Conc.mem_ofEvents hop
              simp only [List.mem_toArray, List.mem_cons, List.not_mem_nil, or_false] at he
              rcases he with rfl | rfl <;> exact hWg
            have o4 : ∀ op ∈ MemOp.ofEvents i g.frame.fn g.frame.place #[rd (stA Wg), wr (stA Wg)], ∀ d, deafStep i d op = d := fun op hop d => by
              obtain ⟨e, he, rfl⟩ := Go.Conc.mem_ofEvents hop
              simp only [List.mem_toArray, List.mem_cons, List.not_mem_nil, or_false] at he
              rcases he with rfl | rfl <;> rfl
            refine ⟨_, _, _, upd ct i 0, upd q i n, hrt, by simp, harr g' g' _ hchw, ⟨hblk, fun _ => ⟨_, _, hwg'⟩, fun _ _ => ⟨_, hwg'⟩, hszw, rfl, rfl, rfl⟩, ?_, hless n (by omega), fun x hx => ⟨upd_ne q _ hx, upd_ne ct 0 hx⟩⟩
            refine B.put hlt hsp (by simp) (harr g' g' _ hchw) (hself g' g' _) o1 hih (fun x hx => upd_ne ct 0 hx) ?_ ?_ hchw (hK _ _ B.keep fun b hb _ => hblk b hb) hszw (by rw [← hV]; exact hwg') (by omega) (by rw [upd_same]; exact Nat.zero_le _) (fun hr => absurd er hr)
            · rw [er, Deaf_quiet o4, upd_same]
              exact ⟨hpos, hl⟩
            · rw [hszw]
              refine B.past.app hSh hSW o1 (fun op hop b hb => ?_) (.inr (.inl fun k hk => by rw [deaf_quiet o4 k hk]; exact hd)) (hhear _ o1) o3
              obtain ⟨x, hx⟩ := o2 op hop
              rw [hx] at hb
              obtain rfl := Option.some.inj hb
              exact .inr (.inr ⟨⟨stA Wg, rfl, rfl⟩, rfl, hd⟩)
          · exact absurd x (by decide)
          · exact absurd x (by decide)
          · exact absurd x (by decide)
    · rw [if_neg hc] at hlv
      have hlv' : QuitsD P (q i) (Deaf T i) g := by
        cases hqi : q i <;> (rw [hqi] at hlv; exact hlv)
      cases hqi : q i with
      | zero => rw [hqi] at hlv'; rw [hlv'.1] at hrun; cases hrun
      | succ n =>
        rw [hqi] at hlv'
        rcases hlv' with ⟨hf, _⟩ | ⟨_, g', es, hm, hst, hl⟩
        · rw [hf] at hrun; cases hrun
        · refine quiet g' es n (by omega) (hst w) (fun e he => .inl (hm e he)) ?_
          rw [if_neg hc]
          cases n <;> exact hl
end
end Go.Proofs.Ytdedmmjmiakidaa
/- Plain words: whoever has the turn goes its way, whatever the others do meanwhile; and it gives the turn away. No condition. -/
namespace Go.Proofs.Ytdedmmjmiakidaa
open Go.Conc
open Go.ConcN (sumTo upd sumTo_upd upd_ne upd_same)
open Go.ConcR (KK wgBlock WgAt stA smA rd wr mk)

/-- Held of a machine if it is held of the next one. -/
def Back (P : Program) (W : Machine → Trace → Prop) : Prop := ∀ m t m' ops, stepT P m = (.next m', ops) → W m' (t ++ ops) → W m t
/-- .. whatever the slice. -/
def Win (W : Machine → Trace → Prop) (gs : Array Goroutine) (w : World) (T : Trace) : Prop := ∀ sl, W (crowd gs w sl) T

/-- What the holder may list. -/
def EvH (Still Sh : Loc → Prop) (B : Nat) (e : Event) : Prop :=
  (∀ x, (MemAct.ofEvent e).touch? = some x → (Still x.loc → x.write = false) ∧ (Sh x.loc → x.kind ≠ .plain)) ∧ e.loc ≠ .mark .disable ∧ e.loc ≠ .mark .enable ∧ (MemAct.ofEvent e).low B
/-- What the holder may do. -/
structure DH (Wg : Nat) (Sh : Loc → Prop) (K : World → Prop) (Still : Loc → Prop) (Ch : Nat → Prop) (w w' : World) (es : Array Event) : Prop where
  ch : ∀ c k, Ch c → w.heap[c]? = some (.chan 0 #[] false k k false) → w'.heap[c]? = some (.chan 0 #[] false k k false)
  wg : w'.heap[Wg]? = w.heap[Wg]?
  keep : K w → K w'
  size : w.heap.size ≤ w'.heap.size
  ev : ∀ e ∈ es, EvH Still Sh w'.heap.size e

section
variable {P : Program} {W : Machine → Trace → Prop} {ty : TypeId} {Wg : Nat} {Sh : Loc → Prop} {K : World → Prop} {Still : Loc → Prop} {Ch : Nat → Prop} {role : Nat → Option Seat} {h : Nat} {Sp : Nat → Prop} {cr d : Nat} {ct : Nat → Nat}
  {gs : Array Goroutine} {T : Trace} {w : World} {q : Nat → Nat}

theorem Base.at (hK : ∀ w w', K w → (∀ b, b ≠ Wg → ¬ Ch b → w'.heap[b]? = w.heap[b]?) → K w') (B : Base P ty Wg Sh K Still Ch role h Sp cr d ct gs T w q) (n : Nat) : Base P ty Wg Sh K Still Ch role h Sp cr d ct gs T (w.at n) q :=
  ⟨B.idle, B.ch, B.wf, B.inj, B.above, B.past, B.deaf, hK _ _ B.keep (fun _ _ _ => rfl), B.still, B.wg, B.few, B.ones, B.busy⟩

theorem evH_ops {i : Nat} {fn : FuncId} {pos : String} {es : Array Event} {B : Nat} (hh : ∀ e ∈ es, EvH Still Sh B e) :
    (∀ op ∈ MemOp.ofEvents i fn pos es, op.g = i) ∧ (∀ op ∈ MemOp.ofEvents i fn pos es, ∀ b, op.act.touch? = some b → (Still b.loc → b.write = false) ∧ (Sh b.loc → b.kind ≠ .plain)) ∧ (∀ op ∈ MemOp.ofEvents i fn pos es, op.act.low B) ∧ ∀ t : Trace, Deaf (t ++ MemOp.ofEvents i fn pos es) i = Deaf t i := by
  refine ⟨fun op hop => by obtain ⟨e, _, rfl⟩ := Go.Conc.mem_ofEvents hop; rfl, fun op hop b hb => ?_, fun op hop => ?_, fun t => ?_⟩
  · obtain ⟨e, he, rfl⟩ := Go.Conc.mem_ofEvents hop
    exact (hh e he).1 b hb
  · obtain ⟨e, he, rfl⟩ := Go.Conc.mem_ofEvents hop
    exact (hh e he).2.2.2
  · rw [Deaf_own]
    exact deafBehind_still (fun e he => ⟨(hh e he).2.1, (hh e he).2.2.1⟩) _

/-- The holder's own step: its record is laid anew. -/
theorem Base.own (hSh : ∀ l, WgL Wg l → Sh l) (B : Base P ty Wg Sh K Still Ch role h (fun x => x = h) cr d ct gs T w q) {gs' : Array Goroutine} {w' : World} {ops : Array MemOp} (hsz : gs'.size = gs.size) (hother : ∀ x, x ≠ h → gs'[x]? = gs[x]?) {d' cr' : Nat}
    (o1 : ∀ op ∈ ops, op.g = h) (o2 : ∀ op ∈ ops, ∀ b, op.act.touch? = some b → (Still b.loc → b.write = false) ∧ (Sh b.loc → b.kind ≠ .plain)) (o3 : ∀ op ∈ ops, op.act.low w'.heap.size) (o4 : Deaf (T ++ ops) h = d')
    (hch : ∀ c, Ch c → w'.heap[c]? = w.heap[c]?) (hkeep : K w') (hsize : w.heap.size ≤ w'.heap.size) (hwg : WgAt ty Wg w' (((cr' + sumTo gs.size ct : Nat) : Int) * KK) 0) (hfew : cr' + sumTo gs.size ct < 2147483647) (hlt : h < gs.size) :
    Base P ty Wg Sh K Still Ch role h (fun x => x = h) cr' d' ct gs' (T ++ ops) w' q := by
  refine ⟨fun x y hx hy => ?_, fun c hc => by rw [hch c hc]; exact B.ch c hc, B.wf, B.inj, fun j hj => ?_, ?_, o4, hkeep, fun l hl => ⟨Loc.low_mono hsize (B.still l hl).1, (B.still l hl).2⟩, by rw [hsz]; exact hwg, by rw [hsz]; exact hfew, B.ones, B.busy⟩
  · rw [hother x hx] at hy
    rw [Deaf_other T (fun z => hx z.symm) ops o1]
    exact B.idle x y hx hy
  · rw [hsz] at hj
    rw [Deaf_other T (g' := h) (by omega) ops o1]
    exact B.above j hj
  · refine (B.past.mono hsize (fun _ => id) (fun _ => id)).app hSh (fun l hl => (B.still l hl).2) o1 (fun op hop b hb => .inl ⟨rfl, o2 op hop b hb⟩) (.inl rfl) (fun g hg => ?_) o3
    rcases hg with ⟨rfl, hd⟩ | hg
    · rw [o4]; exact hd
    · rw [Deaf_other T (fun z => hg.1 z.symm) ops o1]
      exact B.past.hears g (.inr hg)

/-- ████ THE HOLDER's WALK. ████ -/
theorem hold_walk (hW : Back P W) (hSh : ∀ l, WgL Wg l → Sh l) (hK : ∀ w w', K w → (∀ b, b ≠ Wg → ¬ Ch b → w'.heap[b]? = w.heap[b]?) → K w')
    {Stop : Goroutine → World → Prop} {a : Goroutine} (hG : GoesI P (h == 0) (RWg ty Wg) (DH Wg Sh K Still Ch) Stop a w) :
    ∀ (M : Nat) (ct : Nat → Nat) (gs : Array Goroutine) (T : Trace) (w₁ : World) (q : Nat → Nat), RWg ty Wg w w₁ → sumTo gs.size q ≤ M → Base P ty Wg Sh K Still Ch role h (fun x => x = h) cr d ct gs T w₁ q → gs[h]? = some a →
      (∀ ct gs' a' w' T' q', Stop a' w' → Base P ty Wg Sh K Still Ch role h (fun x => x = h) cr d ct gs' T' w' q' → gs'.size = gs.size → gs'[h]? = some a' → Win W gs' w' T') → Win W gs w₁ T := by
  induction hG with
  | @stop g w hs =>
    intro M ct gs T w₁ q hR hM B ha k
    exact k ct gs g w₁ T q (hs w₁ hR) B rfl ha
  | @step g w ng nw ne hr hs hd hii ih =>
    intro M
    induction M using Nat.strongRecOn with
    | _ M ihM =>
      intro ct gs T w₁ q hR hM B ha k sl
      have hlt : h < gs.size := (Array.getElem?_eq_some_iff.1 ha).1
      have haw : ∀ g ∈ gs, awake g := by
        intro y hy
        obtain ⟨i, hi, rfl⟩ := Array.mem_iff_getElem.1 hy
        by_cases e : i = h
        · subst e
          rw [Array.getElem?_eq_getElem hi] at ha
          rw [Option.some.inj ha]
          exact awake_of (.inl hr)
        · exact B.awake e (Array.getElem?_eq_getElem hi)
      obtain ⟨i, x, n, sl', hix, hrun, hst⟩ := crowd_pick (P := P) (w := w₁) (sl := sl) haw ⟨h, g, ha, hr⟩
      have B' := B.at hK n
      have hR' : RWg ty Wg w (w₁.at n) := RWg.trans _ _ _ hR (RWg.at w₁ n)
      by_cases e : i = h
      · subst e
        obtain rfl : g = x := by rw [ha] at hix; exact Option.some.inj hix
        have hgo := hs (w₁.at n) hR'
        have hD := hd (w₁.at n) hR'
        have hrt := runT_crowd_go (P := P) (sl := sl') hix hgo
        refine hW _ _ _ _ (hst.trans hrt) ?_
        have hch : ∀ c, Ch c → ∃ k, (nw (w₁.at n)).heap[c]? = some (.chan 0 #[] false k k false) := fun c hc => by obtain ⟨k, hk⟩ := B.ch c hc; exact ⟨k, hD.ch c k hc hk⟩
        have harr : ∀ x, x ≠ i → ((gs.map (woken P g (ng (w₁.at n)) (nw (w₁.at n)))).setIfInBounds i (ng (w₁.at n)))[x]? = gs[x]? := by
          intro x hx
          rw [Array.getElem?_setIfInBounds_ne (fun z => hx z.symm), Array.getElem?_map]
          cases e : gs[x]? with
          | none => rfl
          | some y => simp [woken_of_again (P := P) (x := g) (x' := ng (w₁.at n)) (B.fixed hch hx e)]
        obtain ⟨o1, o2, o3, o4⟩ := evH_ops (i := i) (fn := g.frame.fn) (pos := g.frame.place) hD.ev
        refine ih (w₁.at n) hR' _ ct _ _ _ q (RWg.refl _) (Nat.le_refl _) (B'.own hSh (by simp) harr o1 o2 o3 ((o4 _).trans B.deaf) (fun c hc => by obtain ⟨k, hk⟩ := B'.ch c hc; rw [hD.ch c k hc hk, hk]) (hD.keep B'.keep) hD.size (by rw [WgAt, hD.wg]; exact B'.wg) B.few hlt) (by simp [hlt]) ?_ sl'
        intro ct' gs' a' w' T' q' h1 h2 h3 h4
        exact k ct' gs' a' w' T' q' h1 h2 (by simpa using h3) h4
      · obtain ⟨gs', w', ops, ct', q', hrt, hsz, hoth, hR2, B2, hsum, _⟩ := B'.by_step (sl := sl') hSh hK hix e hrun e (fun x gx w' hx hgx _ => by subst hx; rw [ha] at hgx; rw [← Option.some.inj hgx]; exact again_of_running (.inl hr) w')
          (fun s c x gx _ _ hx hgx => by subst hx; rw [ha] at hgx; rw [← Option.some.inj hgx]; exact offersAt_of_not_blocked (fun hb => by rw [hr] at hb; cases hb) c true)
        refine hW _ _ _ _ (hst.trans hrt) ?_
        refine ihM (sumTo gs'.size q') (by rw [hsz]; omega) ct' gs' _ w' q' (RWg.trans _ _ _ hR' hR2) (Nat.le_refl _) B2 (by rw [hoth h (fun z => e z.symm)]; exact ha) ?_ sl'
        intro ct'' gs'' a' w'' T' q'' h1 h2 h3 h4
        exact k ct'' gs'' a' w'' T' q'' h1 h2 (by rw [h3, hsz]) h4
end
end Go.Proofs.Ytdedmmjmiakidaa
/- Plain words: the turn is given away over a channel. No condition. -/
namespace Go.Proofs.Ytdedmmjmiakidaa
open Go.Conc
open Go.ConcN (sumTo upd sumTo_upd upd_ne upd_same)
open Go.ConcR (KK wgBlock WgAt stA smA rd wr mk)

section
variable {gs : Array Goroutine} {w : World} {g : Goroutine} {cs : Array CommCase} {sh : CommShape} {c k : Nat} {v z : Value}
/-- Every case's channel is open: it stays parked. -/
theorem again_open (h : ∀ cc ∈ cs, ∃ c cap buf s r tm, cc.chan = .chan (some c) ∧ w.heap[c]? = some (.chan cap buf false s r tm)) : (parked g cs sh).again w = parked g cs sh := by
  simp [Goroutine.again, parked]
  intro x hx
  obtain ⟨c, cap, buf, s, r, tm, e, hc⟩ := h cs[x] (Array.getElem_mem hx)
  rw [e]
  simp [hc]
theorem filter_zip_one {p : CommCase → Bool} (hk : ∃ cc, cs[k]? = some cc ∧ p cc = true) (hu : ∀ (m : Nat) (cc : CommCase), m ≠ k → cs[m]? = some cc → p cc = false) :
    ((cs.zipIdx.toList.filter fun (c, _) => p c).map fun (_, k) => k) = [k] := by
  obtain ⟨cc, hc, hp⟩ := hk
  have h1 := filter_map_one (fun (x : CommCase × Nat) => x) (fun x => p x.1) cs.zipIdx.toList k (cc, k) (by simp [hc]) hp (fun m x hm hx => by
    have hz : cs.zipIdx.toList[m]? = (cs[m]?).map fun x => (x, m) := by simp
    rw [hz] at hx
    cases e : cs[m]? with
    | none => rw [e] at hx; cases hx
    | some y =>
      rw [e] at hx
      simp only [Option.map_some, Option.some.injEq] at hx
      subst hx
      exact hu m y hm e)
  rw [List.map_id'] at h1
  have h2 : (cs.zipIdx.toList.filter fun x => p x.1) = [(cc, k)] := h1
  rw [show (fun (x : CommCase × Nat) => match x with | (c, _) => p c) = fun x => p x.1 from rfl, h2]
  rfl
theorem offersAt_gives (hk : cs[k]? = some (scase c v z)) (hu : ∀ (m : Nat) (cc : CommCase), m ≠ k → cs[m]? = some cc → ∃ e z, cc = rcase e z) (c' : Nat) : offersAt (parked g cs sh) c' true = if c' = c then [k] else [] := by
  have hz : ∀ cc ∈ cs, cc = scase c v z ∨ ∃ e z, cc = rcase e z := by
    intro cc hcc
    obtain ⟨m, hm⟩ := Array.mem_iff_getElem?.1 hcc
    by_cases e : m = k
    · subst e; rw [hk] at hm; exact .inl (Option.some.inj hm).symm
    · exact .inr (hu m cc e hm)
  by_cases e : c' = c
  · subst e
    rw [if_pos rfl]
    have := filter_zip_one (cs := cs) (k := k) (p := fun cc => cc.send.isSome == true && (match cc.chan with | .chan (some r') => r' == c' | _ => false)) ⟨_, hk, by simp [scase]⟩ (fun m cc hm hcc => by
      obtain ⟨e, z, rfl⟩ := hu m cc hm hcc
      simp [rcase])
    exact this
  · rw [if_neg e]
    simp only [offersAt, parked]
    rw [List.map_eq_nil_iff, List.filter_eq_nil_iff]
    rintro ⟨cc, m⟩ hm
    rcases hz cc (Array.mem_of_getElem? (mem_of_zipIdx hm)) with rfl | ⟨e2, z2, rfl⟩
    · simp [scase]; exact fun h => e h.symm
    · simp [rcase]
end

section
variable {P : Program} {W : Machine → Trace → Prop} {ty : TypeId} {Wg : Nat} {Sh : Loc → Prop} {K : World → Prop} {Still : Loc → Prop} {Ch : Nat → Prop} {role role' : Nat → Option Seat} {h j : Nat} {cr : Nat} {ct : Nat → Nat}
  {gs : Array Goroutine} {T : Trace} {w : World} {q : Nat → Nat}

theorem PastW.fewer {Still Sh Wg : Loc → Prop} {Mem Mem' Hear Loose : Nat → Prop} {B h : Nat} {t : Trace} (H : PastW Still Sh Wg Mem Hear Loose B h t) (hM : ∀ g, Mem' g → Mem g) : PastW Still Sh Wg Mem' Hear Loose B h t :=
  ⟨H.clean, H.known, fun i a ha hw hS g hg => H.wrote i a ha hw hS g (hM g hg), H.hears, H.shut, H.seen⟩

/-- What becomes of the giver. -/
def After (P : Program) (ty : TypeId) (Wg : Nat) (K : World → Prop) (Still : Loc → Prop) (Ch : Nat → Prop) (role : Nat → Option Seat) (h : Nat) (cth nh : Nat) (g' : Goroutine) : Option Seat → Prop
  | some s => s.Wf ∧ (∀ c, s.has c → Ch c) ∧ (∀ x s' c, x ≠ h → role x = some s' → s.has c → ¬ s'.has c) ∧ SitN P (h == 0) K Still s nh g'
  | none => 0 < h ∧ Lv P ty Wg nh 0 (if cth = 1 then 4 else 0) g'

/-- Both have met: the frame behind it. -/
theorem Base.pass (hK : ∀ w w', K w → (∀ b, b ≠ Wg → ¬ Ch b → w'.heap[b]? = w.heap[b]?) → K w') (B : Base P ty Wg Sh K Still Ch role h (fun x => x = h ∨ x = j) cr 0 ct gs T w q) (hjh : j ≠ h) {s : Seat} (hj : role j = some s) {c : Nat} (hsc : s.has c)
    {kk : Nat} (hc : w.heap[c]? = some (.chan 0 #[] false kk kk false)) {gs' : Array Goroutine} (hsz : gs'.size = gs.size) (hother : ∀ x, x ≠ h → x ≠ j → gs'[x]? = gs[x]?) {g' : Goroutine} (hh : gs'[h]? = some g') (hhl : h < gs.size) (fh fj : FuncId) (ph pj : String)
    (hI : ∀ x, x ≠ h → role' x = role x) {nh : Nat} (ha : After P ty Wg K Still Ch role h (ct h) nh g' (role' h)) :
    Base P ty Wg Sh K Still Ch role' j (fun x => x = j) cr 0 ct gs' (T ++ met h j fh ph fj pj c kk 0) (w.setChan c 0 #[] false (kk + 1) (kk + 1) false) (upd q h nh) := by
  have hCc : Ch c := (B.wf j s hj).2 c hsc
  have hcl : c < w.heap.size := (Array.getElem?_eq_some_iff.1 hc).1
  have hcw : c ≠ Wg := fun e => by rw [e, B.wg] at hc; cases hc
  have hsame : ∀ b, b ≠ c → (w.setChan c 0 #[] false (kk + 1) (kk + 1) false).heap[b]? = w.heap[b]? := fun b hb => by
    simp only [World.setChan]
    rw [Array.getElem?_setIfInBounds_ne (fun e => hb e.symm)]
  have hself : (w.setChan c 0 #[] false (kk + 1) (kk + 1) false).heap[c]? = some (.chan 0 #[] false (kk + 1) (kk + 1) false) := by
    simp only [World.setChan]
    rw [Array.getElem?_setIfInBounds_self_of_lt hcl]
  have hsize : (w.setChan c 0 #[] false (kk + 1) (kk + 1) false).heap.size = w.heap.size := by simp [World.setChan]
  have hD : ∀ x, Deaf (T ++ met h j fh ph fj pj c kk 0) x = Deaf T x := fun x => Deaf_quiet (met_quiet h j fh ph fj pj c kk 0 x)
  have hsub : ∀ x s', role' x = some s' → x ≠ h → role x = some s' := fun x s' e hx => by rw [← hI x hx]; exact e
  have hdh : Deaf T h = 0 := B.deaf
  refine ⟨fun x y hx hy => ?_, fun c' hc' => ?_, fun i s' e => ?_, fun i i' s1 s2 c' e1 e2 h1 h2 => ?_, fun x hx => ?_, ?_, ?_, hK _ _ B.keep (fun b _ hb => hsame b fun e => hb (e ▸ hCc)), fun l hl => ?_, ?_, ?_, ?_, fun x hx0 hx => ?_⟩
  · by_cases ex : x = h
    · subst ex
      rw [hh] at hy
      obtain rfl := Option.some.inj hy
      rw [upd_same, hD, hdh]
      cases e : role' x with
      | some s' => rw [e] at ha; exact ha.2.2.2
      | none => rw [e] at ha; exact ha
    · rw [hother x ex hx] at hy
      rw [upd_ne q nh ex, hD, hI x ex]
      exact B.idle x y (fun z => z.elim ex hx) hy
  · by_cases e : c' = c
    · subst e; exact ⟨kk + 1, hself⟩
    · rw [hsame c' e]; exact B.ch c' hc'
  · by_cases ex : i = h
    · subst ex; rw [e] at ha; exact ⟨ha.1, ha.2.1⟩
    · exact B.wf i s' (hsub i s' e ex)
  · by_cases ex1 : i = h <;> by_cases ex2 : i' = h
    · rw [ex1, ex2]
    · subst ex1; rw [e1] at ha; exact absurd h2 (ha.2.2.1 i' s2 c' ex2 (hsub _ _ e2 ex2) h1)
    · subst ex2; rw [e2] at ha; exact absurd h1 (ha.2.2.1 i s1 c' ex1 (hsub _ _ e1 ex1) h2)
    · exact B.inj i i' s1 s2 c' (hsub _ _ e1 ex1) (hsub _ _ e2 ex2) h1 h2
  · rw [hsz] at hx
    rw [hD, hI x (by omega)]
    exact B.above x hx
  · rw [hsize]
    have hp := B.past.give (.inl ⟨rfl, rfl⟩) (.inr ⟨hjh, by rw [hj]; simp⟩) fh ph fj pj (c := c) kk 0 hcl
    refine (hp.fewer fun g hg => ?_).mono (Nat.le_refl _) (fun g hg => ?_) fun g hg => ?_
    · by_cases e : g = h
      · exact .inl e
      · rcases hg with rfl | hg
        · exact .inr (by rw [hj]; simp)
        · exact .inr (by rw [← hI g e]; exact hg)
    · by_cases e : g = h
      · exact .inl ⟨e, rfl⟩
      · rcases hg with ⟨rfl, _⟩ | ⟨_, hg⟩
        · exact .inr ⟨e, by rw [hj]; simp⟩
        · exact .inr ⟨e, by rw [← hI g e]; exact hg⟩
    · exact ⟨hg.2, by rw [hI g hg.1.1]; exact hg.1.2⟩
  · rw [hD]; exact B.past.hears j (.inr ⟨hjh, by rw [hj]; simp⟩)
  · rw [hsize]; exact B.still l hl
  · rw [hsz]
    unfold WgAt
    rw [hsame Wg (fun e => hcw e.symm)]
    exact B.wg
  · rw [hsz]; exact B.few
  · exact B.ones
  · by_cases e : x = h
    · exact B.busy x hx0 (.inl e)
    · rcases hx with rfl | hx
      · exact B.busy x hx0 (.inr (by rw [hj]; simp))
      · exact B.busy x hx0 (.inr (by rw [← hI x e]; exact hx))

/-- Records of whom it does not speak may be laid anew. -/
theorem Base.spec {Sp : Nat → Prop} {d : Nat} (B : Base P ty Wg Sh K Still Ch role h Sp cr d ct gs T w q) {gs' : Array Goroutine} {q' : Nat → Nat} (hsz : gs'.size = gs.size) (hoth : ∀ x, ¬ Sp x → gs'[x]? = gs[x]?) (hq : ∀ x, ¬ Sp x → q' x = q x) : Base P ty Wg Sh K Still Ch role h Sp cr d ct gs' T w q' :=
  ⟨fun x y hx hy => by rw [hoth x hx] at hy; rw [hq x hx]; exact B.idle x y hx hy, B.ch, B.wf, B.inj, fun j hj => B.above j (by omega), B.past, B.deaf, B.keep, B.still, by rw [hsz]; exact B.wg, by rw [hsz]; exact B.few, B.ones, B.busy⟩
/-- .. and one of them may read what stands. -/
theorem Base.reads {Sp : Nat → Prop} {d : Nat} (hSh : ∀ l, WgL Wg l → Sh l) (B : Base P ty Wg Sh K Still Ch role h Sp cr d ct gs T w q) {i : Nat} (hi : Sp i) (hih : i ≠ h) (hlt : i < gs.size) (hr : role i ≠ none) {fn : FuncId} {pos : String} {es : Array Event} (hes : ∀ e ∈ es, EvS Still e) :
    Base P ty Wg Sh K Still Ch role h Sp cr d ct gs (T ++ MemOp.ofEvents i fn pos es) w q := by
  have hL : (i ≠ h ∧ role i ≠ none) := ⟨hih, hr⟩
  obtain ⟨o1, o2, o3, o4⟩ := evS_ops (w := w) (i := i) (fn := fn) (pos := pos) (fun l hl => (B.still l hl).1) hes
  have hD : ∀ x, Deaf (T ++ MemOp.ofEvents i fn pos es) x = Deaf T x := fun x => by
    by_cases e : x = i
    · subst e; exact o4 T
    · exact Deaf_other T (fun z => e z.symm) _ o1
  refine ⟨fun x y hx hy => by rw [hD]; exact B.idle x y hx hy, B.ch, B.wf, B.inj, fun j hj => by rw [hD]; exact B.above j hj, ?_, by rw [hD]; exact B.deaf, B.keep, B.still, B.wg, B.few, B.ones, B.busy⟩
  refine B.past.app hSh (fun l hl => (B.still l hl).2) o1 (fun op hop b hb => .inr (.inl ⟨(o2 op hop b hb).1, (o2 op hop b hb).2, hL, .inr hL.2⟩)) (.inr (.inr fun op hop => ?_)) (fun g'' hg'' => by rw [hD]; exact B.past.hears _ hg'') o3
  cases e : op.act.touch? with
  | none => exact .inl rfl
  | some b => exact .inr ⟨b, rfl, (o2 op hop b e).2, (o2 op hop b e).1, hL, .inr hL.2⟩

/-- ████ THE TURN IS GIVEN AWAY, whoever comes first. ████ -/
theorem give_walk (hW : Back P W) (hSh : ∀ l, WgL Wg l → Sh l) (hK : ∀ w w', K w → (∀ b, b ≠ Wg → ¬ Ch b → w'.heap[b]? = w.heap[b]?) → K w')
    (hjh : j ≠ h) {s : Seat} (hj : role j = some s) {c kr kg : Nat} {z z' v : Value} (hkr : s.cases[kr]? = some (rcase c z')) {gc : Array CommCase} {shg : CommShape} (hkg : gc[kg]? = some (scase c v z))
    (hgo : ∀ (m : Nat) (cc : CommCase), m ≠ kg → gc[m]? = some cc → ∃ e z, cc = rcase e z ∧ Ch e) {a a₂ : Goroutine} (harun : a.status = .running)
    (hat : ∀ w₁, RWg ty Wg w w₁ → stepG P (h == 0) a w₁ = .comm a₂ gc true shg w₁ #[]) (hI : ∀ x, x ≠ h → role' x = role x) {nh cth : Nat} (hafter : After P ty Wg K Still Ch role h cth nh (a₂.finishComm P gc shg kg undef false) (role' h))
    (k : ∀ ct gs' g₂ w₂ kk T' q', gs'.size = gs.size → s.home g₂ → RWg ty Wg w w₂ → w₂.heap[c]? = some (.chan 0 #[] false kk kk false) → gs'[j]? = some (g₂.finishComm P s.cases s.shape kr v true) →
      Base P ty Wg Sh K Still Ch role' j (fun x => x = j) cr 0 ct gs' T' (w₂.setChan c 0 #[] false (kk + 1) (kk + 1) false) q' → ct h = cth → Win W gs' (w₂.setChan c 0 #[] false (kk + 1) (kk + 1) false) T') :
    ∀ (M : Nat) (b : Bool) (ct : Nat → Nat) (gs₁ : Array Goroutine) (T : Trace) (w₁ : World) (q : Nat → Nat) (gj : Goroutine), RWg ty Wg w w₁ → sumTo gs₁.size q + (if b then 1 else 0) ≤ M → gs₁.size = gs.size →
      Base P ty Wg Sh K Still Ch role h (fun x => x = h ∨ x = j) cr 0 ct gs₁ T w₁ q → gs₁[h]? = some (if b then a else parked a₂ gc shg) → gs₁[j]? = some gj → SitN P (j == 0) K Still s (q j) gj → ct h = cth → (b = false → 0 < q j) → Win W gs₁ w₁ T := by
  intro M
  induction M using Nat.strongRecOn with
  | _ M ih =>
    intro b ct gs₁ T w₁ q gj hR hM hsz₁ B ha hgj hsit hcth hb sl
    have hlth : h < gs₁.size := (Array.getElem?_eq_some_iff.1 ha).1
    have hltj : j < gs₁.size := (Array.getElem?_eq_some_iff.1 hgj).1
    have hsc : s.has c := ⟨kr, z', hkr⟩
    have hCc : Ch c := (B.wf j s hj).2 c hsc
    have hwf := (B.wf j s hj).1
    -- who the giver's record is
    obtain ⟨ga, hga⟩ : ∃ ga, ga = if b then a else parked a₂ gc shg := ⟨_, rfl⟩
    rw [← hga] at ha
    have gaw : awake ga := by
      rw [hga]
      cases b with
      | true => exact awake_of (.inl harun)
      | false => exact awake_of (.inr (.inl rfl))
    have gaO : ∀ c', c' ≠ c → offersAt ga c' true = [] := by
      intro c' hne
      rw [hga]
      cases b with
      | true => exact offersAt_of_not_blocked (fun hb => by simp [harun] at hb) c' true
      | false =>
        have := offersAt_gives (g := a₂) (sh := shg) hkg (fun m cc hm hcc => by obtain ⟨e, z, h1, _⟩ := hgo m cc hm hcc; exact ⟨e, z, h1⟩) c'
        simpa [hne] using this
    have gaA : ∀ w', (∀ c, Ch c → ∃ k, w'.heap[c]? = some (.chan 0 #[] false k k false)) → ga.again w' = ga := by
      intro w' hw'
      rw [hga]
      cases b with
      | true => exact again_of_running (.inl harun) w'
      | false =>
        refine again_open fun cc hcc => ?_
        obtain ⟨m, hm⟩ := Array.mem_iff_getElem?.1 hcc
        by_cases e : m = kg
        · subst e
          rw [hkg] at hm
          obtain rfl := Option.some.inj hm
          obtain ⟨k, hk⟩ := hw' c hCc
          exact ⟨c, _, _, _, _, _, rfl, hk⟩
        · obtain ⟨e', z', rfl, hE⟩ := hgo m cc e hm
          obtain ⟨k, hk⟩ := hw' e' hE
          exact ⟨e', _, _, _, _, _, rfl, hk⟩
    have gjA : ∀ w', (∀ c, Ch c → ∃ k, w'.heap[c]? = some (.chan 0 #[] false k k false)) → gj.again w' = gj := fun w' hw' => SitN.again hsit hwf fun c hc => hw' c ((B.wf j s hj).2 c hc)
    have gjO : ∀ c', offersAt gj c' true = [] := by
      intro c'
      rcases hsit with ⟨k, hq, hg⟩ | ⟨_, _, g₂, rfl, _⟩
      · exact offersAt_of_not_blocked (fun hb => by rw [hg.status] at hb; cases hb) c' true
      · exact offersAt_parked_sends (fun cc hcc => by obtain ⟨c', z', rfl⟩ := hwf.recvs cc hcc; rfl) _
    have haw : ∀ g ∈ gs₁, awake g := by
      intro y hy
      obtain ⟨i, hi, rfl⟩ := Array.mem_iff_getElem.1 hy
      have hi' := Array.getElem?_eq_getElem hi
      by_cases e : i = h
      · subst e
        rw [hi'] at ha
        rw [Option.some.inj ha]; exact gaw
      · by_cases e2 : i = j
        · subst e2
          rw [hi'] at hgj
          rw [Option.some.inj hgj]
          exact awake_of (hsit.status.elim (fun z => .inl z.1) fun z => .inr (.inl z.1))
        · exact B.awake (fun z => z.elim e e2) hi'
    have hch : ∀ c, Ch c → ∃ k, w₁.heap[c]? = some (.chan 0 #[] false k k false) := B.ch
    -- somebody runs
    have some1 : ∃ (i : Nat) (g : Goroutine), gs₁[i]? = some g ∧ g.status = .running := by
      cases b with
      | true => exact ⟨h, ga, ha, by rw [hga]; exact harun⟩
      | false => exact ⟨j, gj, hgj, (hsit.status.resolve_right fun z => by have := hb rfl; omega).1⟩
    obtain ⟨i, x, n, sl', hix, hrun, hst⟩ := crowd_pick (P := P) (w := w₁) (sl := sl) haw some1
    have B' := B.at hK n
    have hR' : RWg ty Wg w (w₁.at n) := RWg.trans _ _ _ hR (RWg.at w₁ n)
    have hch' : ∀ c, Ch c → ∃ k, (w₁.at n).heap[c]? = some (.chan 0 #[] false k k false) := B.ch
    have hmet : ∀ (fn : FuncId) (pos : String) (i : Nat), MemOp.ofEvents i fn pos #[] = #[] := by intro fn pos i; simp [MemOp.ofEvents]
    obtain ⟨kk, hkk⟩ := hch' c hCc
    have hless : ∀ n', n' < q j → sumTo gs₁.size (upd q j n') < sumTo gs₁.size q := by
      intro n' hn
      have h3 : sumTo gs₁.size (fun a => upd q j n' a) + q j = sumTo gs₁.size (fun a => q a) + n' := sumTo_upd q n' (fun x : Nat => x) hltj
      have h4 : sumTo gs₁.size (fun a => upd q j n' a) = sumTo gs₁.size (upd q j n') := rfl
      have h5 : sumTo gs₁.size (fun a => q a) = sumTo gs₁.size q := rfl
      omega
    by_cases eh : i = h
    · subst eh
      obtain rfl : ga = x := by rw [ha] at hix; exact Option.some.inj hix
      cases b with
      | false => rw [hga] at hrun; simp [parked] at hrun
      | true =>
        simp only [if_true] at hga
        subst hga
        have hcm := hat (w₁.at n) hR'
        have hno : ∀ (m : Nat) (c' : CommCase), m ≠ kg → gc[m]? = some c' → NoWays (w₁.at n) (gs₁.setIfInBounds i ph) c' := by
          intro m cc hm hcc
          obtain ⟨e, z, rfl, hE⟩ := hgo m cc hm hcc
          obtain ⟨k, hk⟩ := hch' e hE
          refine ways_recv_none hk (partners_nil fun x y hy => ?_)
          rcases getElem?_stand gs₁ i x y hy with ⟨_, rfl⟩ | ⟨hxi, hy'⟩
          · exact offersAt_ph _ _
          · by_cases hx : x = j
            · subst hx; rw [hgj] at hy'; rw [← Option.some.inj hy']; exact gjO e
            · exact B.noSend (fun z => z.elim hxi hx) hy' e
        have hoff : ∀ x y, x ≠ j → (gs₁.setIfInBounds i ph)[x]? = some y → offersAt y c false = [] := by
          intro x y hxj hy
          rcases getElem?_stand gs₁ i x y hy with ⟨_, rfl⟩ | ⟨hxi, hy'⟩
          · exact offersAt_ph _ _
          · have hid := B.idle x y (fun z => z.elim hxi hxj) hy'
            cases er : role x with
            | none =>
              rw [er] at hid
              exact offersAt_of_not_blocked (fun hb => by rcases hid.2.status with z | z <;> rw [z] at hb <;> cases hb) c false
            | some s' =>
              rw [er] at hid
              rcases hid with ⟨k, hq, hg⟩ | ⟨_, _, g₂, rfl, _⟩
              · exact offersAt_of_not_blocked (fun hb => by rw [hg.status] at hb; cases hb) c false
              · refine offersAt_parked_off (fun cc hcc => ?_) false
                obtain ⟨c', z', rfl⟩ := (B.wf x s' er).1.recvs cc hcc
                intro e
                have e2 : c' = c := by simpa [rcase] using e
                subst e2
                exact hxj (B.inj x j s' s c' er hj (Seat.has_of_mem hcc) hsc)
        rcases hsit with ⟨k', hq, hlag⟩ | ⟨hq0, g₀, g₂, rfl, hAS⟩
        · -- the taker is not there yet: the giver is parked
          have hall : ∀ cc ∈ gc, NoWays (w₁.at n) (gs₁.setIfInBounds i ph) cc := by
            intro cc hcc
            obtain ⟨m, hm⟩ := Array.mem_iff_getElem?.1 hcc
            by_cases e : m = kg
            · subst e
              rw [hkg] at hm
              obtain rfl := Option.some.inj hm
              refine ways_send_none hkk (by simp) (partners_nil fun x y hy => ?_)
              by_cases hx : x = j
              · subst hx
                rw [stand_get hjh hgj] at hy
                rw [← Option.some.inj hy]
                exact offersAt_of_not_blocked (fun hb => by rw [hlag.status] at hb; cases hb) c false
              · exact hoff x y hx hy
            · exact hno m cc e hm
          have hrt := crowd_waits (sl := sl') hix hcm hall
          refine hW _ _ _ _ (hst.trans hrt) ?_
          rw [hmet, Array.append_empty]
          refine ih (sumTo gs₁.size q) (by simp at hM; omega) false ct _ T (w₁.at n) q gj hR' (by simp) (by simpa using hsz₁) ?_ (by simp [hlth]) (by rw [Array.getElem?_setIfInBounds_ne (fun z => hjh z.symm)]; exact hgj) (.inl ⟨k', hq, hlag⟩) hcth (fun _ => by omega) sl'
          exact B'.spec (by simp) (fun x hx => by rw [Array.getElem?_setIfInBounds_ne (fun z => hx (.inl z.symm))]) (fun _ _ => rfl)
        · -- the taker is parked: they meet
          have hu : ∀ (m : Nat) (cc : CommCase), m ≠ kr → s.cases[m]? = some cc → cc.chan ≠ .chan (some c) := by
            intro m cc hm hcc e
            obtain ⟨c', z2, rfl⟩ := hwf.recvs cc (Array.mem_of_getElem? hcc)
            have e2 : c' = c := by simpa [rcase] using e
            subst e2
            exact hm (hwf.apart m kr c' z2 z' hcc hkr)
          have hp : partners (gs₁.setIfInBounds i ph) c false = [(j, kr)] := by
            rw [partners_one (stand_get hjh hgj) fun x y hxj hy => hoff x y hxj hy, offersAt_parked_at hkr hu]
            rfl
          have hrt := comm_give (sl := sl') hix hcm hkg hno hkk hjh hgj hkr hp
          refine hW _ _ _ _ (hst.trans hrt) ?_
          rw [hmet, Array.empty_append]
          refine k ct _ g₂ (w₁.at n) kk _ (upd q i nh) (by simpa using hsz₁) hAS.2.2.2.2.1 hR' hkk ?_ (B'.pass hK hjh hj hsc hkk (gs' := (gs₁.setIfInBounds j (g₂.finishComm P s.cases s.shape kr v true)).setIfInBounds i (a₂.finishComm P gc shg kg undef false)) (by simp) (fun x h1 h2 => ?_) (g' := a₂.finishComm P gc shg kg undef false) ?_ hlth _ _ _ _ hI (by rw [hcth]; exact hafter)) hcth sl'
          · rw [Array.getElem?_setIfInBounds_ne (fun z => hjh z.symm), Array.getElem?_setIfInBounds_self_of_lt hltj]
          · rw [Array.getElem?_setIfInBounds_ne (fun z => h1 z.symm), Array.getElem?_setIfInBounds_ne (fun z => h2 z.symm)]
          · rw [Array.getElem?_setIfInBounds_self_of_lt (by simpa using hlth)]
    · by_cases ej : i = j
      · subst ej
        obtain rfl : gj = x := by rw [hgj] at hix; exact Option.some.inj hix
        rcases hsit with ⟨k', hq, hlag⟩ | ⟨hq0, g₀, g₂, rfl, hAS⟩
        · have hat2 : ∀ g₂, AtS P (i == 0) K s gj g₂ → W (crowd gs₁ w₁ sl) T := by
            intro g₂ hAS
            have hcm := hAS.2.2.2.2.2 (w₁.at n) B'.keep
            have hno : ∀ (m : Nat) (c' : CommCase), (b = true ∨ m ≠ kr) → s.cases[m]? = some c' → NoWays (w₁.at n) (gs₁.setIfInBounds i ph) c' := by
              intro m cc hm hcc
              obtain ⟨e, z2, rfl⟩ := hwf.recvs cc (Array.mem_of_getElem? hcc)
              obtain ⟨k, hk⟩ := hch' e ((B.wf i s hj).2 e ⟨m, z2, hcc⟩)
              refine ways_recv_none hk (partners_nil fun x y hy => ?_)
              rcases getElem?_stand gs₁ i x y hy with ⟨_, rfl⟩ | ⟨hxi, hy'⟩
              · exact offersAt_ph _ _
              · by_cases hx : x = h
                · subst hx
                  rw [ha] at hy'
                  rw [← Option.some.inj hy']
                  rcases hm with rfl | hm
                  · rw [hga]; exact offersAt_of_not_blocked (fun hb => by simp [harun] at hb) e true
                  · exact gaO e fun ee => hm (hwf.apart m kr e z2 z' hcc (by rw [ee]; exact hkr))
                · exact B.noSend (fun z => z.elim hx hxi) hy' e
            cases b with
            | true =>
              have hrt := crowd_waits (sl := sl') hix hcm fun cc hcc => by
                obtain ⟨m, hm⟩ := Array.mem_iff_getElem?.1 hcc
                exact hno m cc (.inl rfl) hm
              refine hW _ _ _ _ (hst.trans hrt) ?_
              rw [hmet, Array.append_empty]
              refine ih (sumTo gs₁.size (upd q i 0) + 1) (by have := hless 0 (by omega); simp at hM; omega) true ct _ T (w₁.at n) (upd q i 0) (parked g₂ s.cases s.shape) hR' (by simp) (by simpa using hsz₁) ?_ ?_ (by simp [hltj]) (by rw [upd_same]; exact .inr ⟨rfl, gj, g₂, rfl, hAS⟩) hcth (by simp) sl'
              · exact B'.spec (by simp) (fun x hx => by rw [Array.getElem?_setIfInBounds_ne (fun z => hx (.inr z.symm))]) (fun x hx => upd_ne q 0 fun z => hx (.inr z))
              · rw [Array.getElem?_setIfInBounds_ne eh, ha, hga]
            | false =>
              simp only [Bool.false_eq_true, if_false] at hga
              rw [hga] at ha
              have hp : partners (gs₁.setIfInBounds i ph) c true = [(h, kg)] := by
                rw [partners_one (stand_get (fun z => hjh z.symm) ha) fun x y hxh hy => ?_, offersAt_gives hkg (fun m cc hm hcc => by obtain ⟨e, z, h1, _⟩ := hgo m cc hm hcc; exact ⟨e, z, h1⟩) c, if_pos rfl]
                · rfl
                · rcases getElem?_stand gs₁ i x y hy with ⟨_, rfl⟩ | ⟨hxi, hy'⟩
                  · exact offersAt_ph _ _
                  · exact B.noSend (fun z => z.elim hxh hxi) hy' c
              have hrt := comm_take (sl := sl') hix hcm hkr (fun m cc hm hcc => hno m cc (.inr hm) hcc) hkk (fun z => hjh z.symm) ha hkg hp
              refine hW _ _ _ _ (hst.trans hrt) ?_
              rw [hmet, Array.empty_append]
              refine k ct _ g₂ (w₁.at n) kk _ (upd q h nh) (by simpa using hsz₁) hAS.2.2.2.2.1 hR' hkk ?_ (B'.pass hK hjh hj hsc hkk (gs' := (gs₁.setIfInBounds h (a₂.finishComm P gc shg kg undef false)).setIfInBounds i (g₂.finishComm P s.cases s.shape kr v true)) (by simp) (fun x h1 h2 => ?_) (g' := a₂.finishComm P gc shg kg undef false) ?_ hlth _ _ _ _ hI (by rw [hcth]; exact hafter)) hcth sl'
              · rw [Array.getElem?_setIfInBounds_self_of_lt (by simpa using hltj)]
              · rw [Array.getElem?_setIfInBounds_ne (fun z => h2 z.symm), Array.getElem?_setIfInBounds_ne (fun z => h1 z.symm)]
              · rw [Array.getElem?_setIfInBounds_ne hjh, Array.getElem?_setIfInBounds_self_of_lt hlth]
          cases k' with
          | zero => obtain ⟨g₂, hA⟩ := hlag; exact hat2 g₂ hA
          | succ k' =>
            rcases hlag with ⟨g₂, hA⟩ | ⟨_, hstep⟩
            · exact hat2 g₂ hA
            · obtain ⟨g', es, dd, hstp, hes, hlag'⟩ := hstep (w₁.at n) B'.keep
              have hrt := runT_crowd_go (P := P) (sl := sl') hix hstp
              refine hW _ _ _ _ (hst.trans hrt) ?_
              have harr : ∀ x, x ≠ i → ((gs₁.map (woken P gj g' ((w₁.at n).at dd))).setIfInBounds i g')[x]? = gs₁[x]? := by
                intro x hx
                rw [Array.getElem?_setIfInBounds_ne (fun z => hx z.symm), Array.getElem?_map]
                cases e : gs₁[x]? with
                | none => rfl
                | some y =>
                  have : y.again ((w₁.at n).at dd) = y := by
                    by_cases hxh : x = h
                    · subst hxh; rw [ha] at e; rw [← Option.some.inj e]; exact gaA ((w₁.at n).at dd) (fun c hc => hch' c hc)
                    · exact B.fixed (w' := (w₁.at n).at dd) (fun c hc => hch' c hc) (fun z => z.elim hxh hx) e
                  simp [woken_of_again (P := P) (x := gj) (x' := g') this]
              have hB2 := ((B'.reads hSh (.inr rfl) hjh hltj (by rw [hj]; simp) (fn := gj.frame.fn) (pos := gj.frame.place) hes).spec (gs' := (gs₁.map (woken P gj g' ((w₁.at n).at dd))).setIfInBounds i g') (q' := upd q i (k' + 1)) (by simp) (fun x hx => harr x fun z => hx (.inr z)) (fun x hx => upd_ne q _ fun z => hx (.inr z))).at hK dd
              refine ih (sumTo gs₁.size (upd q i (k' + 1)) + (if b then 1 else 0)) (by have := hless (k' + 1) (by omega); omega) b ct _ _ ((w₁.at n).at dd) (upd q i (k' + 1)) g' (RWg.trans _ _ _ hR' (RWg.at _ dd)) (by simp) (by simpa using hsz₁) hB2 (by rw [harr h fun z => hjh z.symm, ha, hga]) (by simp [hltj]) (by rw [upd_same]; exact .inl ⟨k', rfl, hlag'⟩) hcth (fun _ => by rw [upd_same]; omega) sl'
        · simp [parked] at hrun
      · obtain ⟨gs', w', ops, ct', q', hrt, hsz, hoth, hR2, B2, hsum, hqo⟩ := B'.by_step (sl := sl') hSh hK hix (fun z => z.elim eh ej) hrun eh (fun x gx w' hx hgx hw' => by
            rcases hx with rfl | rfl
            · rw [ha] at hgx; rw [← Option.some.inj hgx]; exact gaA w' hw'
            · rw [hgj] at hgx; rw [← Option.some.inj hgx]; exact gjA w' hw')
          (fun s' c' x gx hs' hc' hx hgx => by
            rcases hx with rfl | rfl
            · rw [ha] at hgx; rw [← Option.some.inj hgx]
              exact gaO c' fun e => ej (B.inj i j s' s c' hs' hj hc' (e ▸ hsc))
            · rw [hgj] at hgx; rw [← Option.some.inj hgx]; exact gjO c')
        refine hW _ _ _ _ (hst.trans hrt) ?_
        refine ih (sumTo gs'.size q' + (if b then 1 else 0)) (by rw [hsz]; omega) b ct' gs' _ w' q' gj (RWg.trans _ _ _ hR' hR2) (Nat.le_refl _) (by rw [hsz, hsz₁]) B2 (by rw [hoth h fun z => eh z.symm, ha, hga]) (by rw [hoth j fun z => ej z.symm]; exact hgj) (by rw [(hqo j fun z => ej z.symm).1]; exact hsit) (by rw [(hqo h fun z => eh z.symm).2]; exact hcth) (fun z => by rw [(hqo j fun z => ej z.symm).1]; exact hb z) sl'
end
end Go.Proofs.Ytdedmmjmiakidaa
/- Plain words: the steps of whoever has the turn that are not its own affair alone: those that touch the group, make new seats, start a goroutine. No condition. -/
namespace Go.Proofs.Ytdedmmjmiakidaa
open Go.Conc
open Go.ConcN (sumTo upd sumTo_upd upd_ne upd_same)
open Go.ConcR (KK wgBlock WgAt stA smA rd wr mk)
section
variable {P : Program} {W : Machine → Trace → Prop} {ty : TypeId} {Wg : Nat} {Sh : Loc → Prop} {K : World → Prop} {Still : Loc → Prop} {Ch : Nat → Prop} {role role' : Nat → Option Seat} {h j : Nat} {cr d : Nat} {ct : Nat → Nat}
  {gs : Array Goroutine} {T : Trace} {w : World} {q : Nat → Nat}

/-- The others go their ways till the holder is picked. -/
theorem picked (hW : Back P W) (hSh : ∀ l, WgL Wg l → Sh l) (hK : ∀ w w', K w → (∀ b, b ≠ Wg → ¬ Ch b → w'.heap[b]? = w.heap[b]?) → K w') {a : Goroutine} (hr : a.status = .running) {N cth : Nat}
    (k : ∀ ct gs T w₁ q sl, RWg ty Wg w w₁ → gs.size = N → ct h = cth → Base P ty Wg Sh K Still Ch role h (fun x => x = h) cr d ct gs T w₁ q → gs[h]? = some a → ∃ m' ops, runT P (crowd gs w₁ sl) h = (.next m', ops) ∧ W m' (T ++ ops)) :
    ∀ (M : Nat) (ct : Nat → Nat) (gs : Array Goroutine) (T : Trace) (w₁ : World) (q : Nat → Nat), RWg ty Wg w w₁ → sumTo gs.size q ≤ M → gs.size = N → ct h = cth → Base P ty Wg Sh K Still Ch role h (fun x => x = h) cr d ct gs T w₁ q → gs[h]? = some a → Win W gs w₁ T := by
  intro M
  induction M using Nat.strongRecOn with
  | _ M ihM =>
    intro ct gs T w₁ q hR hM hN hct B ha sl
    have hlt : h < gs.size := (Array.getElem?_eq_some_iff.1 ha).1
    have haw : ∀ g ∈ gs, awake g := by
      intro y hy
      obtain ⟨i, hi, rfl⟩ := Array.mem_iff_getElem.1 hy
      by_cases e : i = h
      · subst e
        rw [Array.getElem?_eq_getElem hi] at ha
        rw [Option.some.inj ha]
        exact awake_of (.inl hr)
      · exact B.awake e (Array.getElem?_eq_getElem hi)
    obtain ⟨i, x, n, sl', hix, hrun, hst⟩ := crowd_pick (P := P) (w := w₁) (sl := sl) haw ⟨h, a, ha, hr⟩
    have B' := B.at hK n
    have hR' : RWg ty Wg w (w₁.at n) := RWg.trans _ _ _ hR (RWg.at w₁ n)
    by_cases e : i = h
    · subst e
      obtain ⟨m', ops, h1, h2⟩ := k ct gs T (w₁.at n) q sl' hR' hN hct B' ha
      exact hW _ _ _ _ (hst.trans h1) h2
    · obtain ⟨gs', w', ops, ct', q', hrt, hsz, hoth, hR2, B2, hsum, hqo⟩ := B'.by_step (sl := sl') hSh hK hix e hrun e (fun x gx w' hx hgx _ => by subst hx; rw [ha] at hgx; rw [← Option.some.inj hgx]; exact again_of_running (.inl hr) w')
        (fun s c x gx _ _ hx hgx => by subst hx; rw [ha] at hgx; rw [← Option.some.inj hgx]; exact offersAt_of_not_blocked (fun hb => by rw [hr] at hb; cases hb) c true)
      refine hW _ _ _ _ (hst.trans hrt) ?_
      exact ihM (sumTo gs'.size q') (by rw [hsz]; omega) ct' gs' _ w' q' (RWg.trans _ _ _ hR' hR2) (Nat.le_refl _) (by rw [hsz, hN]) (by rw [(hqo h fun z => e z.symm).2]; exact hct) B2 (by rw [hoth h (fun z => e z.symm)]; exact ha) sl'

theorem sumTo_ones {f : Nat → Nat} (h : ∀ i, f i ≤ 1) : ∀ n, sumTo n f ≤ n
  | 0 => Nat.le_refl _
  | n + 1 => Nat.add_le_add (sumTo_ones h n) (h n)
/-- A step of the holder's that touches the group, or that makes it deaf or hearing. -/
theorem hold_op (hW : Back P W) (hSh : ∀ l, WgL Wg l → Sh l) (hK : ∀ w w', K w → (∀ b, b ≠ Wg → ¬ Ch b → w'.heap[b]? = w.heap[b]?) → K w') {a : Goroutine} (hr : a.status = .running) {d' cr' : Nat} (ha : gs[h]? = some a)
    (B : Base P ty Wg Sh K Still Ch role h (fun x => x = h) cr d ct gs T w q)
    (k : ∀ w₁ (V : Nat), RWg ty Wg w w₁ → V ≤ gs.size → cr + V < 2147483647 → WgAt ty Wg w₁ (((cr + V : Nat) : Int) * KK) 0 → K w₁ → (∀ c, Ch c → ∃ k, w₁.heap[c]? = some (.chan 0 #[] false k k false)) → ∃ a' w' es, stepG P (h == 0) a w₁ = .go a' w' es ∧ (∀ c, Ch c → w'.heap[c]? = w₁.heap[c]?) ∧ K w' ∧ w₁.heap.size ≤ w'.heap.size ∧
      WgAt ty Wg w' (((cr' + V : Nat) : Int) * KK) 0 ∧ cr' + V < 2147483647 ∧ deafBehind d es = d' ∧
      (∀ e ∈ es, (∀ x, (MemAct.ofEvent e).touch? = some x → (Still x.loc → x.write = false) ∧ (Sh x.loc → x.kind ≠ .plain)) ∧ (MemAct.ofEvent e).low w'.heap.size) ∧
      ∀ ct gs' T₀ q' fn pos, Base P ty Wg Sh K Still Ch role h (fun x => x = h) cr' d' ct gs' (T₀ ++ MemOp.ofEvents h fn pos es) w' q' → gs'[h]? = some a' → gs'.size = gs.size → (∀ op ∈ T₀, op.act.low w₁.heap.size) → Win W gs' w' (T₀ ++ MemOp.ofEvents h fn pos es)) : Win W gs w T := by
  refine picked hW hSh hK hr (N := gs.size) (cth := ct h) (fun ct gs₁ T w₁ q sl hR hN _ B ha => ?_) _ ct gs T w q (RWg.refl w) (Nat.le_refl _) rfl rfl B ha
  have hlt : h < gs₁.size := (Array.getElem?_eq_some_iff.1 ha).1
  obtain ⟨a', w', es, hst, hch, hkp, hsz, hwg, hfew, hdf, hev, hk⟩ := k w₁ (sumTo gs₁.size ct) hR (by rw [← hN]; exact sumTo_ones (fun i => (B.ones i).1) _) B.few B.wg B.keep B.ch
  have hrt := runT_crowd_go (P := P) (sl := sl) ha hst
  refine ⟨_, _, hrt, ?_⟩
  have hch2 : ∀ c, Ch c → ∃ k, w'.heap[c]? = some (.chan 0 #[] false k k false) := fun c hc => by rw [hch c hc]; exact B.ch c hc
  have harr : ∀ x, x ≠ h → ((gs₁.map (woken P a a' w')).setIfInBounds h a')[x]? = gs₁[x]? := by
    intro x hx
    rw [Array.getElem?_setIfInBounds_ne (fun z => hx z.symm), Array.getElem?_map]
    cases e : gs₁[x]? with
    | none => rfl
    | some y => simp [woken_of_again (P := P) (x := a) (x' := a') (B.fixed hch2 hx e)]
  have o1 : ∀ op ∈ MemOp.ofEvents h a.frame.fn a.frame.place es, op.g = h := fun op hop => by obtain ⟨e, _, rfl⟩ := Go.Conc.mem_ofEvents hop; rfl
  refine hk ct _ T q _ _ (B.own hSh (by simp) harr o1 (fun op hop b hb => ?_) (fun op hop => ?_) ?_ hch hkp hsz hwg hfew hlt) (by simp [hlt]) (by simpa using hN) B.past.seen sl
  · obtain ⟨e, he, rfl⟩ := Go.Conc.mem_ofEvents hop
    exact (hev e he).1 b hb
  · obtain ⟨e, he, rfl⟩ := Go.Conc.mem_ofEvents hop
    exact (hev e he).2
  · rw [Deaf_own, B.deaf]; exact hdf

/-- More seats, more that stands, more channels. -/
theorem Base.grow {Sp : Nat → Prop} (B : Base P ty Wg Sh K Still Ch role h Sp cr d ct gs T w q) {K' : World → Prop} {Still' : Loc → Prop} {Ch' : Nat → Prop} (hK : ∀ w, K' w → K w) (hS : ∀ l, Still l → Still' l) (hC : ∀ c, Ch c → Ch' c) (hKw : K' w)
    (hnew : ∀ i a, touchAt T i = some a → Still' a.loc → Still a.loc) (hch : ∀ c, Ch' c → ∃ k, w.heap[c]? = some (.chan 0 #[] false k k false)) (hst : ∀ l, Still' l → l.low w.heap.size ∧ ¬ WgL Wg l) :
    Base P ty Wg Sh K' Still' Ch' role h Sp cr d ct gs T w q := by
  refine ⟨fun x y hx hy => ?_, hch, fun i s e => ⟨(B.wf i s e).1, fun c hc => hC c ((B.wf i s e).2 c hc)⟩, B.inj, B.above, ?_, B.deaf, hKw, hst, B.wg, B.few, B.ones, B.busy⟩
  · have := B.idle x y hx hy
    cases e : role x with
    | none => rw [e] at this; exact this
    | some s => rw [e] at this; exact this.mono hK hS
  · exact ⟨B.past.clean, fun i a ha hm => (B.past.known i a ha hm).imp id (Or.imp (fun z => ⟨z.1, hS _ z.2.1, z.2.2⟩) id), fun i a ha hw hS' g hg => B.past.wrote i a ha hw (hnew i a ha hS') g hg, B.past.hears, B.past.shut, B.past.seen⟩
/-- Fewer channels, where nobody sits at what is left out. -/
theorem Base.shrink {Sp : Nat → Prop} (B : Base P ty Wg Sh K Still Ch role h Sp cr d ct gs T w q) {Ch' : Nat → Prop} (hC : ∀ c, Ch' c → Ch c) (hr : ∀ i s c, role i = some s → s.has c → Ch' c) : Base P ty Wg Sh K Still Ch' role h Sp cr d ct gs T w q :=
  ⟨B.idle, fun c hc => B.ch c (hC c hc), fun i s e => ⟨(B.wf i s e).1, fun c hc => hr i s c e hc⟩, B.inj, B.above, B.past, B.deaf, B.keep, B.still, B.wg, B.few, B.ones, B.busy⟩
/-- The holder has no seat. -/
theorem Base.rerole (B : Base P ty Wg Sh K Still Ch role h (fun x => x = h) cr d ct gs T w q) (hI : ∀ x, x ≠ h → role' x = role x) (hh : role' h = none) : Base P ty Wg Sh K Still Ch role' h (fun x => x = h) cr d ct gs T w q := by
  have hsub : ∀ x s, role' x = some s → role x = some s := fun x s e => by
    by_cases ex : x = h
    · subst ex; rw [hh] at e; cases e
    · rw [← hI x ex]; exact e
  refine ⟨fun x y hx hy => by rw [hI x hx]; exact B.idle x y hx hy, B.ch, fun i s e => B.wf i s (hsub i s e), fun i i' s s' c e1 e2 => B.inj i i' s s' c (hsub _ _ e1) (hsub _ _ e2), fun j hj => ?_, ?_, B.deaf, B.keep, B.still, B.wg, B.few, B.ones, fun x hx0 hx => B.busy x hx0 (hx.imp id fun z => by cases e : role' x with | none => exact absurd e z | some s => rw [hsub x s e]; simp)⟩
  · obtain ⟨h1, h2, h3⟩ := B.above j hj
    refine ⟨h1, h2, ?_⟩
    cases e : role' j with
    | none => rfl
    | some s => rw [hsub j s e] at h3; cases h3
  · refine (B.past.fewer fun g hg => ?_).mono (Nat.le_refl _) (fun g hg => ?_) fun g hg => ?_
    · by_cases e : g = h
      · exact .inl e
      · exact .inr (by rw [← hI g e]; exact hg.resolve_left e)
    · by_cases e : g = h
      · subst e; exact .inl ⟨rfl, (hg.resolve_right fun z => z.1 rfl).2⟩
      · exact .inr ⟨e, by rw [← hI g e]; exact (hg.resolve_left fun z => e z.1).2⟩
    · exact ⟨hg.1, by rw [hI g hg.1]; exact hg.2⟩

/-- ████ A GOROUTINE IS STARTED, and has the turn. ████ -/
theorem hire_walk (hW : Back P W) (hSh : ∀ l, WgL Wg l → Sh l) (hK : ∀ w w', K w → (∀ b, b ≠ Wg → ¬ Ch b → w'.heap[b]? = w.heap[b]?) → K w') {a a' child : Goroutine} (hr : a.status = .running) (ha : gs[h]? = some a)
    (hgo : ∀ w₁, RWg ty Wg w w₁ → stepG P (h == 0) a w₁ = .spawn a' child w₁ #[]) (hI : ∀ x, x ≠ h → role' x = role x) {nh : Nat} (hafter : After P ty Wg K Still Ch role h (ct h) nh a' (role' h))
    (B : Base P ty Wg Sh K Still Ch role h (fun x => x = h) (cr + 1) 0 ct gs T w q)
    (k : ∀ ct' gs' w₁ T' q', RWg ty Wg w w₁ → gs'.size = gs.size + 1 → ct' h = ct h → ct' gs.size = 1 → gs'[gs.size]? = some child → Base P ty Wg Sh K Still Ch role' gs.size (fun x => x = gs.size) cr 0 ct' gs' T' w₁ q' → Win W gs' w₁ T') : Win W gs w T := by
  refine picked hW hSh hK hr (N := gs.size) (cth := ct h) (fun ct₁ gs₁ T w₁ q sl hR hN hct B ha => ?_) _ ct gs T w q (RWg.refl w) (Nat.le_refl _) rfl rfl B ha
  have hlt : h < gs₁.size := (Array.getElem?_eq_some_iff.1 ha).1
  have hrt := runT_crowd_spawn (P := P) (sl := sl) ha (hgo w₁ hR)
  refine ⟨_, _, hrt, ?_⟩
  have hops : ((MemOp.ofEvents h a.frame.fn a.frame.place #[]).push { g := h, fn := a.frame.fn, pos := a.frame.place, act := .go gs₁.size } |>.push { g := gs₁.size, fn := child.frame.fn, pos := a.frame.place, act := .start }) =
      #[{ g := h, fn := a.frame.fn, pos := a.frame.place, act := .go gs₁.size }, { g := gs₁.size, fn := child.frame.fn, pos := a.frame.place, act := .start }] := by
    simp [MemOp.ofEvents]
  rw [hops]
  obtain ⟨c0, hc0⟩ : ∃ c0, c0 = gs₁.size := ⟨_, rfl⟩
  rw [← hN, ← hc0] at k
  rw [← hc0]
  have hab := B.above c0 (by omega)
  have hD : ∀ x, Deaf (T ++ #[{ g := h, fn := a.frame.fn, pos := a.frame.place, act := .go c0 }, { g := c0, fn := child.frame.fn, pos := a.frame.place, act := .start }]) x = Deaf T x := fun x => Deaf_quiet fun op hop d => by
    simp only [List.mem_toArray, List.mem_cons, List.not_mem_nil, or_false] at hop
    rcases hop with rfl | rfl <;> rfl
  have hne : c0 ≠ h := by omega
  have hsum : sumTo (c0 + 1) (upd ct₁ c0 1) = sumTo c0 ct₁ + 1 := by
    show sumTo c0 (upd ct₁ c0 1) + upd ct₁ c0 1 c0 = _
    rw [upd_same, Go.ConcN.sumTo_congr (f := upd ct₁ c0 1) (g := ct₁) fun i hi => upd_ne ct₁ 1 (by omega)]
  have hself : ((gs₁.setIfInBounds h a').push child)[c0]? = some child := by
    rw [hc0]
    rw [Array.getElem?_push, if_pos (by simp)]
  refine k (upd ct₁ c0 1) _ w₁ _ (upd q h nh) hR (by simp; omega) (by rw [upd_ne ct₁ 1 (fun e => hne e.symm)]; exact hct) (upd_same ct₁ c0 1) hself ?_ sl
  have hsub : ∀ x s', role' x = some s' → x ≠ h → role x = some s' := fun x s' e hx => by rw [← hI x hx]; exact e
  refine ⟨fun x y hx hy => ?_, B.ch, fun i s' e => ?_, fun i i' s1 s2 c' e1 e2 h1 h2 => ?_, fun x hx => ?_, ?_, by rw [hD]; exact hab.1, B.keep, B.still, ?_, ?_, ?_, ?_⟩
  · have hxl : x < c0 := by
      have := (Array.getElem?_eq_some_iff.1 hy).1
      simp at this; omega
    rw [Array.getElem?_push, if_neg (by simp; omega)] at hy
    by_cases ex : x = h
    · subst ex
      rw [Array.getElem?_setIfInBounds_self_of_lt hlt] at hy
      obtain rfl := Option.some.inj hy
      rw [upd_same, hD, upd_ne ct₁ 1 (by omega), B.deaf, hct]
      cases e : role' x with
      | some s' => rw [e] at hafter; exact hafter.2.2.2
      | none => rw [e] at hafter; exact hafter
    · rw [Array.getElem?_setIfInBounds_ne (fun z => ex z.symm)] at hy
      rw [upd_ne q nh ex, hD, hI x ex, upd_ne ct₁ 1 (by omega)]
      exact B.idle x y ex hy
  · by_cases ex : i = h
    · subst ex; rw [e] at hafter; exact ⟨hafter.1, hafter.2.1⟩
    · exact B.wf i s' (hsub i s' e ex)
  · by_cases ex1 : i = h <;> by_cases ex2 : i' = h
    · rw [ex1, ex2]
    · subst ex1; rw [e1] at hafter; exact absurd h2 (hafter.2.2.1 i' s2 c' ex2 (hsub _ _ e2 ex2) h1)
    · subst ex2; rw [e2] at hafter; exact absurd h1 (hafter.2.2.1 i s1 c' ex1 (hsub _ _ e1 ex1) h2)
    · exact B.inj i i' s1 s2 c' (hsub _ _ e1 ex1) (hsub _ _ e2 ex2) h1 h2
  · simp at hx
    rw [hD, hI x (by omega), upd_ne ct₁ 1 (by omega)]
    exact B.above x (by omega)
  · have hM : (fun g => g = h ∨ role g ≠ none) h := .inl rfl
    have hp := B.past.hire hM (.inl ⟨rfl, rfl⟩) hab.1 a.frame.fn a.frame.place child.frame.fn
    refine (hp.fewer fun g hg => ?_).mono (Nat.le_refl _) (fun g hg => ?_) fun g hg => ?_
    · by_cases e : g = c0
      · exact .inr e
      · by_cases e2 : g = h
        · exact .inl (.inl e2)
        · exact .inl (.inr (by rw [← hI g e2]; exact hg.resolve_left e))
    · by_cases e : g = c0
      · exact .inr e
      · refine .inl ?_
        by_cases e2 : g = h
        · exact .inl ⟨e2, rfl⟩
        · exact .inr ⟨e2, by rw [← hI g e2]; exact (hg.resolve_left fun z => e z.1).2⟩
    · refine ⟨fun e => ?_, by rw [hI g hg.1]; exact hg.2⟩
      subst e
      exact hg.2 hab.2.2
  · have hwg := B.wg
    have : cr + 1 + sumTo gs₁.size ct₁ = cr + sumTo (c0 + 1) (upd ct₁ c0 1) := by rw [hsum, hc0]; omega
    rw [this] at hwg
    have hs2 : ((gs₁.setIfInBounds h a').push child).size = c0 + 1 := by simp [hc0]
    rw [hs2]
    exact hwg
  · have hs2 : ((gs₁.setIfInBounds h a').push child).size = c0 + 1 := by simp [hc0]
    rw [hs2, hsum]
    have := B.few
    rw [← hc0] at this
    omega
  · intro x
    by_cases e : x = c0
    · subst e
      rw [upd_same]
      exact ⟨Nat.le_refl _, fun z => by omega⟩
    · rw [upd_ne ct₁ 1 e]
      exact B.ones x
  · intro x hx0 hx
    by_cases e : x = c0
    · subst e
      rw [upd_same]
    · rw [upd_ne ct₁ 1 e]
      by_cases e2 : x = h
      · exact B.busy x hx0 (.inl e2)
      · exact B.busy x hx0 (.inr (by rw [← hI x e2]; exact hx.resolve_left e))
end
end Go.Proofs.Ytdedmmjmiakidaa
/- Plain words: the seats of threads that take turns, in memory; what is spoilt, what stands. No condition. -/
namespace Go.Proofs.Ytdedmmjmiakidaa
open Go.Conc
open Go.ConcN (sumTo upd sumTo_upd upd_ne upd_same)
open Go.ConcR (KK wgBlock WgAt stA smA rd wr mk)

/-- A seat: its block, the block that holds its address, its channels. -/
structure SV where
  blk : Nat
  box : Nat
  turn : Nat
  stop : Nat
  says : Nat
/-- The seats there are, and what each has said last. -/
def Tab : Type := List (SV × Value × Value × Value)
instance : Membership SV Tab := ⟨fun θ s => ∃ v, List.Mem (s, v) θ⟩
abbrev tWg : TypeId := 134
abbrev tSeat : TypeId := 163
abbrev tSeatP : TypeId := 157

def seatCells (s : SV) (x y z : Value) : Array Value := #[.chan (some s.turn), .chan (some s.stop), .chan (some s.says), x, y, z]
def inF (Wg : Nat) (θ : Tab) (b : Nat) : Prop := b = Wg ∨ ∃ s ∈ θ, b = s.blk ∨ b = s.box
def isCh (θ : Tab) (c : Nat) : Prop := ∃ s ∈ θ, c = s.turn ∨ c = s.stop ∨ c = s.says
open Classical in
noncomputable def tyF (Wg : Nat) (θ : Tab) (b : Nat) : TypeId := if b = Wg then tWg else if ∃ s ∈ θ, b = s.box then tSeatP else tSeat
noncomputable def sig (Wg : Nat) (θ : Tab) : Poison := ⟨inF Wg θ, tyF Wg θ, isCh θ⟩
/-- What stands. -/
def KT (θ : Tab) (w : World) : Prop := ∀ s ∈ θ, (∃ x y z, w.heap[s.blk]? = some (.cells (seatCells s x y z) tSeat (0, 0))) ∧ w.heap[s.box]? = some (.cells #[.pointer (some ⟨s.blk, 0, none⟩)] tSeatP (0, 0))
/-- What main remembers in the seats. -/
def LT (θ : Tab) (w : World) : Prop := ∀ s x y z, List.Mem (s, x, y, z) θ → w.heap[s.blk]? = some (.cells (seatCells s x y z) tSeat (0, 0))
def StT (θ : Tab) (l : Loc) : Prop := ∃ s ∈ θ, l = .cell ⟨s.blk, 0, none⟩ ∨ l = .cell ⟨s.blk, 1, none⟩ ∨ l = .cell ⟨s.blk, 2, none⟩ ∨ l = .cell ⟨s.box, 0, none⟩
/-- The group's block is none of theirs. -/
def Off (Wg : Nat) (θ : Tab) : Prop := ∀ s ∈ θ, s.blk ≠ Wg ∧ s.box ≠ Wg ∧ Wg < s.turn ∧ Wg < s.stop ∧ Wg < s.says
/-- What every step keeps. -/
structure KR (Wg : Nat) (θ : Tab) (w w' : World) : Prop where
  kt : KT θ w → KT θ w'
  ch : ∀ c k, isCh θ c → w.heap[c]? = some (.chan 0 #[] false k k false) → w'.heap[c]? = some (.chan 0 #[] false k k false)
  wg : (∃ st sm, WgAt tWg Wg w st sm) → ∃ st sm, WgAt tWg Wg w' st sm
  size : w.heap.size ≤ w'.heap.size
  lt : LT θ w → LT θ w'

section
variable {Wg : Nat} {θ : Tab} {Sh : Loc → Prop}
theorem KR.refl (w : World) : KR Wg θ w w := ⟨id, fun _ _ _ h => h, id, Nat.le_refl _, id⟩
theorem KR.trans (a b c : World) (h : KR Wg θ a b) (k : KR Wg θ b c) : KR Wg θ a c := ⟨k.kt ∘ h.kt, fun x n hx hn => k.ch x n hx (h.ch x n hx hn), k.wg ∘ h.wg, Nat.le_trans h.size k.size, k.lt ∘ h.lt⟩

theorem KT.of_keep {w w' : World} (h : KT θ w) (hk : ∀ b, (∃ s ∈ θ, b = s.blk ∨ b = s.box) → w'.heap[b]? = w.heap[b]?) : KT θ w' := fun s hs => by
  obtain ⟨⟨x, y, z, h1⟩, h2⟩ := h s hs
  exact ⟨⟨x, y, z, by rw [hk _ ⟨s, hs, .inl rfl⟩]; exact h1⟩, by rw [hk _ ⟨s, hs, .inr rfl⟩]; exact h2⟩
theorem LT.of_keep {w w' : World} (h : LT θ w) (hk : ∀ b, (∃ s ∈ θ, b = s.blk ∨ b = s.box) → w'.heap[b]? = w.heap[b]?) : LT θ w' := fun s x y z hs => by
  rw [hk _ ⟨s, ⟨_, hs⟩, .inl rfl⟩]
  exact h s x y z hs
/-- The others' doing. -/
theorem rwg_kr (ho : Off Wg θ) {w w₁ : World} (h : RWg tWg Wg w w₁) : KR Wg θ w w₁ := by
  have hb' : ∀ b, (∃ s ∈ θ, b = s.blk ∨ b = s.box) → w₁.heap[b]? = w.heap[b]? := fun b hb => h.block b <| by
    obtain ⟨s, hs, rfl | rfl⟩ := hb
    · exact (ho s hs).1
    · exact (ho s hs).2.1
  refine ⟨fun hk => hk.of_keep hb', fun c k hc hh => ?_, h.wg, Nat.le_of_eq h.size.symm, fun hl => hl.of_keep hb'⟩
  · rw [h.block c ?_]; exact hh
    obtain ⟨s, hs, rfl | rfl | rfl⟩ := hc
    · exact Nat.ne_of_gt (ho s hs).2.2.1
    · exact Nat.ne_of_gt (ho s hs).2.2.2.1
    · exact Nat.ne_of_gt (ho s hs).2.2.2.2
theorem ty_wg : tyF Wg θ Wg = tWg := by unfold tyF; rw [if_pos rfl]
theorem kt_types {w : World} (ho : Off Wg θ) (hk : KT θ w) {b : Nat} (hb : ∃ s ∈ θ, b = s.blk ∨ b = s.box) : ∃ c, w.heap[b]? = some (.cells c (tyF Wg θ b) (0, 0)) := by
  obtain ⟨s, hs, rfl | rfl⟩ := hb
  · obtain ⟨⟨x, y, z, h1⟩, _⟩ := hk s hs
    refine ⟨seatCells s x y z, h1.trans ?_⟩
    unfold tyF
    rw [if_neg (ho s hs).1, if_neg]
    rintro ⟨s', hs', e⟩
    have := (hk s' hs').2
    rw [← e, h1] at this
    simp [seatCells] at this
  · obtain ⟨_, h2⟩ := hk s hs
    refine ⟨#[.pointer (some ⟨s.blk, 0, none⟩)], h2.trans ?_⟩
    unfold tyF
    rw [if_neg (ho s hs).2.1, if_pos ⟨s, hs, rfl⟩]
theorem real_of {w : World} (ho : Off Wg θ) (hk : KT θ w) (hw : ∃ st sm, WgAt tWg Wg w st sm) : ∀ b, (sig Wg θ).F b → ∃ c, w.heap[b]? = some (.cells c ((sig Wg θ).ty b) (0, 0)) := by
  rintro b (rfl | hb)
  · obtain ⟨st, sm, h⟩ := hw
    exact ⟨_, by rw [h]; show _ = some (Obj.cells _ (tyF b θ b) _); rw [ty_wg]; rfl⟩
  · exact kt_types ho hk hb
theorem rwg_others (ho : Off Wg θ) {w w₁ : World} (h : RWg tWg Wg w w₁) : Others Try.prog (sig Wg θ) w w₁ := by
  refine ⟨fun b hb => h.block b fun e => hb (.inl e), fun b hb hr => ?_, h.size, h.tape, h.os, h.output⟩
  by_cases e : b = Wg
  · subst e
    obtain ⟨c, hc⟩ := hr
    have e2 : (sig b θ).ty b = tWg := ty_wg
    rw [e2] at hc ⊢
    exact h.shape c hc
  · obtain ⟨c, hc⟩ := hr
    exact ⟨c, by rw [h.block b e]; exact hc⟩
theorem suits (ho : Off Wg θ) (hSh : ∀ l, Sh l → ∃ a : Addr, l = .cell a ∧ inF Wg θ a.block) : Suits Try.prog (sig Wg θ) (RWg tWg Wg) (DH Wg Sh (KT θ) (StT θ) (isCh θ)) (KR Wg θ) := by
  have hkeep : ∀ {w w' u u' : World}, Fr (sig Wg θ) w w' u u' → (KT θ w → KT θ w') ∧ (∀ c k, isCh θ c → w.heap[c]? = some (.chan 0 #[] false k k false) → w'.heap[c]? = some (.chan 0 #[] false k k false)) := fun h =>
    ⟨fun hk => hk.of_keep fun b hb => h.keep b (.inr hb), fun c k hc hh => h.chan c _ _ _ _ _ _ hc hh⟩
  refine ⟨fun w w₁ h => rwg_others ho h, fun w w₁ h => rwg_kr ho h, fun w w' u u' h => ⟨(hkeep h).1, (hkeep h).2, fun ⟨st, sm, hw⟩ => ⟨st, sm, by rw [WgAt, h.keep Wg (.inl rfl)]; exact hw⟩, h.size, fun hl => hl.of_keep fun b hb => h.keep b (.inr hb)⟩, KR.refl, KR.trans, fun w w' u u' es h hev => ⟨(hkeep h).2, h.keep Wg (.inl rfl), (hkeep h).1, h.size, fun e he => ?_⟩⟩
  have hE := hev e he
  obtain ⟨loc, wr, sy⟩ := e
  cases loc with
  | cell a =>
    obtain ⟨h1, h2⟩ : a.block < w'.heap.size ∧ ¬ inF Wg θ a.block := hE
    refine ⟨fun x hx => ?_, by simp, by simp, h1⟩
    have e1 : MemAct.ofEvent ⟨.cell a, wr, sy⟩ = .access ⟨.cell a, wr, sy⟩ := rfl
    rw [e1] at hx
    simp only [MemAct.touch?, Option.some.injEq] at hx
    subst hx
    refine ⟨fun hs => ?_, fun hs => ?_⟩
    · exfalso
      obtain ⟨s, hs, h | h | h | h⟩ := hs <;> (have h := Loc.cell.inj h; subst h; first | exact h2 (.inr ⟨s, hs, .inl rfl⟩) | exact h2 (.inr ⟨s, hs, .inr rfl⟩))
    · obtain ⟨a', h, hF⟩ := hSh _ hs
      have h := Loc.cell.inj h
      subst h
      exact absurd hF h2
  | obj r =>
    obtain ⟨h1, h2⟩ : r < w'.heap.size ∧ ¬ inF Wg θ r := hE
    have e1 : MemAct.ofEvent ⟨.obj r, wr, sy⟩ = .close r ∨ MemAct.ofEvent ⟨.obj r, wr, sy⟩ = .access ⟨.obj r, wr, sy⟩ := by
      cases wr <;> cases sy <;> first | exact .inl rfl | exact .inr rfl
    refine ⟨fun x hx => ?_, by simp, by simp, ?_⟩
    · rcases e1 with e1 | e1
      · rw [e1] at hx; cases hx
      · rw [e1] at hx
        simp only [MemAct.touch?, Option.some.injEq] at hx
        subst hx
        refine ⟨fun hs => ?_, fun hs => ?_⟩
        · obtain ⟨s, hs, h | h | h | h⟩ := hs <;> cases h
        · obtain ⟨a', h, hF⟩ := hSh _ hs
          cases h
    · rcases e1 with e1 | e1 <;> (rw [e1]; exact h1)
  | mark m =>
    have hm : m = .noRoom ∨ ∃ f, m = .extern f := hE
    rcases hm with rfl | ⟨f, rfl⟩ <;> exact ⟨fun x hx => by simp [MemAct.ofEvent, MemAct.touch?] at hx, by simp, by simp, trivial⟩
  | _ => exact hE.elim
end
end Go.Proofs.Ytdedmmjmiakidaa
