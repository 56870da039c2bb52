/- Plain words: a thread that takes turns, as a machine of its own; its gate. No condition. -/
import Derived.Test.YtdedmmjmiakidaaFwAC
import Derived.Conc.WalkWords
import Derived.Test.YtdedmmjmiakidaaFwAB
import Derived.Conc.WgLib
import Derived.Conc.WgGenN2
set_option linter.unusedVariables false
set_option linter.unusedSimpArgs false
/- Plain words: a thread that takes turns, as a machine of its own; its gate. No condition. -/
namespace Go.Proofs.Ytdedmmjmiakidaa
open Go.Conc Go.RowKit
open Go.ConcN (sumTo upd sumTo_upd upd_ne upd_same)
open Go.ConcR (KK wgBlock WgAt stA smA rd wr mk)

/-- A thread's doing, told apart from memory: where it stands (Pc), what it is about to do (the mark), what comes of it. -/
structure Spec where
  St : Type
  Pc : Type
  mark : Pc → Int × Int
  next : Pc → St → St × Option Pc → Prop
  ok : Pc → St → Prop
  Rep : St → World → Prop
  base : Nat
  grows : ∀ s u u', (∀ b, b < u.heap.size → (b < base ∨ ∀ cap buf cl a r t, u.heap[b]? ≠ some (.chan cap buf cl a r t)) → u'.heap[b]? = u.heap[b]?) → u.heap.size ≤ u'.heap.size → u'.os = u.os ∧ u'.output = u.output → Rep s u → Rep s u'

/-- What a turn may lead to. -/
abbrev Spec.Due (X : Spec) := X.St × Option X.Pc → Prop
def markV (m : Int × Int) : Value := .agg #[.int .u8 m.1, .int .i64 m.2]
def saidV (m : Int × Int) : Value := .agg #[.int .u8 m.1, .int .i64 m.2, .bool false]
def overV : Value := .agg #[.int .u8 0, .int .i64 0, .bool true]
def unitV : Value := .agg #[]
def saidZ : Value := .agg #[.int .u8 0, .int .i64 0, .bool false]
def giveCases (s : SV) (v : Value) : Array CommCase := #[scase s.says v saidZ, rcase s.stop unitV]
def seatCases (s : SV) : Array CommCase := #[rcase s.turn unitV, rcase s.stop unitV]
def thrSeat (s : SV) (home : Goroutine → Prop) : Seat := ⟨seatCases s, .select, home⟩

/-- Told of the true world by way of the spoilt one. -/
def RepT (X : Spec) (Wg : Nat) (θ : Tab) (σ : X.St) (w : World) : Prop := ∀ u, Ps0 Try.prog (sig Wg θ) w u → X.Rep σ u
/-- The world is as the play wants it. -/
structure Wd (Wg : Nat) (θ : Tab) (w : World) : Prop where
  kt : KT θ w
  wg : ∃ st sm, WgAt tWg Wg w st sm
  ch : ∀ c, isCh θ c → ∃ k, w.heap[c]? = some (.chan 0 #[] false k k false)
  lt : LT θ w
theorem Wd.kr {Wg : Nat} {θ : Tab} {w w' : World} (h : Wd Wg θ w) (k : KR Wg θ w w') : Wd Wg θ w' := ⟨k.kt h.kt, k.wg h.wg, fun c hc => by obtain ⟨n, hn⟩ := h.ch c hc; exact ⟨n, k.ch c n hc hn⟩, k.lt h.lt⟩

/-- It stands where it gives the turn away, saying v. -/
def GiveAt (Wg : Nat) (s : SV) (v : Value) (a a₂ : Goroutine) (w : World) : Prop :=
  a.status = .running ∧ ∀ w₁, RWg tWg Wg w w₁ → stepG Try.prog false a w₁ = .comm a₂ (giveCases s v) true .select w₁ #[]
/-- Where its walk of one turn ends. -/
def StopO (X : Spec) (Wg : Nat) (s : SV) (θ : Tab) (At : X.Pc → Goroutine → Prop) (E : X.St × Option X.Pc) (a : Goroutine) (w : World) : Prop :=
  RepT X Wg θ E.1 w ∧ Wd Wg θ w ∧ match E.2 with
    | some pc => ∃ a₂ nh, GiveAt Wg s (saidV (X.mark pc)) a a₂ w ∧ SitN Try.prog false (KT θ) (StT θ) (thrSeat s (At pc)) nh (a₂.finishComm Try.prog (giveCases s (saidV (X.mark pc))) .select 0 undef false)
    | none => ∃ a₂ nh, GiveAt Wg s overV a a₂ w ∧ Lv Try.prog tWg Wg nh 0 4 (a₂.finishComm Try.prog (giveCases s overV) .select 0 undef false)
/-- .. with one of these. -/
def StopT (X : Spec) (Wg : Nat) (s : SV) (θ : Tab) (At : X.Pc → Goroutine → Prop) (E : X.Due) (a : Goroutine) (w : World) : Prop := ∃ o, E o ∧ StopO X Wg s θ At o a w
/-- What is asked of all groups' places. -/
def ShOk (Sh : Loc → Prop) (Wg : Nat) (θ : Tab) : Prop := ∀ l, Sh l → ∃ a : Addr, l = .cell a ∧ inF Wg θ a.block ∧ ∀ s ∈ θ, a.block ≠ s.blk ∧ a.block ≠ s.box
/-- A thread that has been let sit: what it does once the turn comes, n times at most. -/
def AtPc (X : Spec) (Wg : Nat) (Sh : Loc → Prop) (s : SV) : Nat → X.Pc → Goroutine → Prop
  | 0, _, _ => True
  | n + 1, pc, g => ∀ (θ : Tab) (w : World) (σ : X.St), s ∈ θ → Off Wg θ → ShOk Sh Wg θ → Wd Wg θ w → RepT X Wg θ σ w → X.ok pc σ →
      GoesI Try.prog false (RWg tWg Wg) (DH Wg Sh (KT θ) (StT θ) (isCh θ)) (StopT X Wg s θ (AtPc X Wg Sh s n) (X.next pc σ)) (g.finishComm Try.prog (seatCases s) .select 0 unitV true) w

/-- The thread's company: the turns left, what this turn is to lead to, the seats there are. -/
noncomputable def envT (X : Spec) (Wg : Nat) (Sh : Loc → Prop) (s : SV) : Env where
  P := Try.prog
  main := false
  R := RWg tWg Wg
  ι := Nat × X.Due × Tab
  D := fun n => DH Wg Sh (KT n.2.2) (StT n.2.2) (isCh n.2.2)
  le := fun n' n => n' = n ∨ n'.1 < n.1
  St := fun n => StopT X Wg s n.2.2 (AtPc X Wg Sh s n.1) n.2.1
  cs := fun _ => True
theorem envT_ok (X : Spec) (Wg : Nat) (Sh : Loc → Prop) (s : SV) : (envT X Wg Sh s).Ok where
  rrefl := RWg.refl
  rtrans := RWg.trans
  lrefl := fun _ => .inl rfl
  ltrans := fun a b c h k => by
    rcases h with rfl | h
    · exact k
    · rcases k with rfl | k
      · exact .inr h
      · exact .inr (Nat.lt_trans h k)
  still := fun n w => ⟨fun _ _ _ h => h, rfl, id, Nat.le_refl _, by simp⟩
  draw := fun n w => ⟨fun _ _ _ h => h, rfl, fun hk => hk.of_keep fun _ _ => rfl, Nat.le_refl _, by simp⟩
  rdraw := fun w w₁ h => RWg.trans _ _ _ h (RWg.at w₁ _)
  sub := fun n w w' es es' h hs => ⟨h.ch, h.wg, h.keep, h.size, fun e he => h.ev e (hs e he)⟩
  push := fun _ _ _ _ _ _ _ => trivial

theorem heap_of_ps {Wg : Nat} {θ : Tab} {w u u' : World} (h : Ps0 Try.prog (sig Wg θ) w u) (h' : Ps0 Try.prog (sig Wg θ) w u') (b : Nat) : u'.heap[b]? = u.heap[b]? := by
  by_cases hb : (sig Wg θ).F b
  · rw [h.bad b hb, h'.bad b hb]
  · rw [h.heap b hb, h'.heap b hb]
theorem RepT.intro {X : Spec} {Wg : Nat} {θ : Tab} {σ : X.St} {w u : World} (h : Ps0 Try.prog (sig Wg θ) w u) (hr : X.Rep σ u) : RepT X Wg θ σ w := fun u' h' =>
  X.grows σ u u' (fun b _ _ => heap_of_ps h h' b) (by rw [h.size, h'.size]; exact Nat.le_refl _) ⟨h'.os.trans h.os.symm, h'.output.trans h.output.symm⟩ hr
theorem RepT.next {X : Spec} {Wg : Nat} {θ : Tab} {σ : X.St} {w w' u u' : World} (hr : RepT X Wg θ σ w) (h : Ps0 Try.prog (sig Wg θ) w u) (h' : Ps0 Try.prog (sig Wg θ) w' u') (hg : ∀ b, b < u.heap.size → u'.heap[b]? = u.heap[b]?) (hs : u.heap.size ≤ u'.heap.size) (ho : u'.os = u.os ∧ u'.output = u.output) : RepT X Wg θ σ w' :=
  RepT.intro h' (X.grows σ u u' (fun b hb _ => hg b hb) hs ho (hr u h))
theorem alloc_old (u : World) (o : Obj) : (∀ b, b < u.heap.size → (u.alloc o).heap[b]? = u.heap[b]?) ∧ u.heap.size ≤ (u.alloc o).heap.size ∧ (u.alloc o).heap[u.heap.size]? = some o := by
  unfold World.alloc
  refine ⟨fun b hb => ?_, by simp, by simp⟩
  show (u.heap.push o)[b]? = _
  rw [Array.getElem?_push, if_neg (by omega)]
section gate
variable {X : Spec} {Wg : Nat} {Sh : Loc → Prop} {s : SV} {θ : Tab}
theorem seat_cell {w w₁ : World} (hs : s ∈ θ) (ho : Off Wg θ) (hk : KT θ w) (hr : RWg tWg Wg w w₁) :
    w₁.cell? ⟨s.blk, 0, none⟩ = some (.chan (some s.turn)) ∧ w₁.cell? ⟨s.blk, 1, none⟩ = some (.chan (some s.stop)) ∧ w₁.cell? ⟨s.blk, 2, none⟩ = some (.chan (some s.says)) := by
  obtain ⟨⟨x, y, z, h⟩, _⟩ := (rwg_kr ho hr).kt hk s hs
  simp [World.cell?, h, seatCells]
theorem KT.cell {w : World} (hs : s ∈ θ) (hk : KT θ w) :
    w.cell? ⟨s.blk, 0, none⟩ = some (.chan (some s.turn)) ∧ w.cell? ⟨s.blk, 1, none⟩ = some (.chan (some s.stop)) ∧ w.cell? ⟨s.blk, 2, none⟩ = some (.chan (some s.says)) := by
  obtain ⟨⟨x, y, z, h⟩, _⟩ := hk s hs
  simp [World.cell?, h, seatCells]

/-- A piece of a thread's text by its walk alone. -/
theorem aloneT (ho : Off Wg θ) (hSh : ShOk Sh Wg θ) {n : Nat} {E : X.Due} {w : World} (hw : Wd Wg θ w) {c : Code} (hc : okCode thrOk false c = true) {t : Array Value} {Q : Nat × X.Due × Tab → Exit → Array Value → World → Prop}
    (hwp : ∀ u, Ps0 Try.prog (sig Wg θ) w u → c.wp Try.prog (fun e a' u' => e = .normal ∧ a'.defers = [] ∧ ∀ w', Ps0 Try.prog (sig Wg θ) w' u' → Wd Wg θ w' → KR Wg θ w w' → Q (n, E, θ) .normal a'.tmps w') ⟨t, []⟩ u) : cps (envT X Wg Sh s) c Q (n, E, θ) t w :=
  cps_alone (E := envT X Wg Sh s) (n := (n, E, θ)) (K := KR Wg θ) (envT_ok X Wg Sh s) (thr_fit (sig Wg θ)) (show Suits Try.prog (sig Wg θ) (RWg tWg Wg) (DH Wg Sh (KT θ) (StT θ) (isCh θ)) (KR Wg θ) from suits ho fun l hl => (hSh l hl).imp fun a h => ⟨h.1, h.2.1⟩) (real_of ho hw.kt hw.wg) hc
    fun u hu => wp_mono (hwp u hu) fun e a' u' q => ⟨q.1, q.2.1, fun w' h1 h2 => q.2.2 w' h1 (hw.kr h2) h2⟩

/-- An operation that looks at no memory. -/
theorem pureT {ops : Array Oper} {i : Nat} {o : Oper} {l : List Nat} {t : Array Value} {n : Nat} {E : X.Due} {w : World} {Qr : Nat × X.Due × Tab → Array Value → World → Prop} (ho : ops[i]? = some o) (hw : Region.wanted o (yielded ops t) = true) (he : ∀ w₁, (execOp (⟨t, []⟩ : Act).eval o).events Try.prog w₁ #[] = #[])
    (h : ∀ w₁, ∀ K' : Act → Prop, (∀ a', (∃ t', a' = ⟨t', []⟩ ∧ cpsR (envT X Wg Sh s) ops l Qr (n, E, θ) t' w) → K' a') → uponK o (⟨t, []⟩ : Act) (fun a' w' => w' = w₁ ∧ K' a') ((execOp (⟨t, []⟩ : Act).eval o).run Try.prog w₁)) : cpsR (envT X Wg Sh s) ops (i :: l) Qr (n, E, θ) t w :=
  cpsR_pure (envT_ok X Wg Sh s) ho hw he h
/-- A read of what stands in a seat. -/
theorem readT (hs : s ∈ θ) (hSh : ShOk Sh Wg θ) {ops : Array Oper} {i : Nat} {o : Oper} {l : List Nat} {t : Array Value} {n : Nat} {E : X.Due} {w : World} {Qr : Nat × X.Due × Tab → Array Value → World → Prop} {ad : Addr} {v : Value} (ho : ops[i]? = some o) (hw : Region.wanted o (yielded ops t) = true)
    (hoff : Off Wg θ) (hwd : Wd Wg θ w) (had : ad.block = s.blk ∨ ad.block = s.box) (he : ∀ w₁, KT θ w₁ → (execOp (⟨t, []⟩ : Act).eval o).events Try.prog w₁ #[] = #[⟨.cell ad, false, false⟩]) (hr : ∀ w₁, KT θ w₁ → (execOp (⟨t, []⟩ : Act).eval o).run Try.prog w₁ = .ok (.value v) w₁)
    (h : cpsR (envT X Wg Sh s) ops l Qr (n, E, θ) ((⟨t, []⟩ : Act).put o.dst v).tmps w) : cpsR (envT X Wg Sh s) ops (i :: l) Qr (n, E, θ) t w := by
  have O := envT_ok X Wg Sh s
  refine cpsR_op O ho hw fun w₁ (hR : RWg tWg Wg w w₁) => ?_
  have hk1 := (rwg_kr hoff hR).kt hwd.kt
  refine ⟨v, w₁, #[⟨.cell ad, false, false⟩], .inl ?_, ?_, h.rely O hR⟩
  · rw [show (envT X Wg Sh s).P = Try.prog from rfl, Sem.runT_eq, hr w₁ hk1, ← he w₁ hk1]
  · refine ⟨fun _ _ _ h => h, rfl, id, Nat.le_refl _, fun e he => ?_⟩
    simp only [List.mem_toArray, List.mem_cons, List.not_mem_nil, or_false] at he
    subst he
    refine ⟨fun x hx => ?_, by simp, by simp, ?_⟩
    · simp [MemAct.ofEvent, MemAct.touch?] at hx
      subst hx
      refine ⟨fun _ => rfl, fun hS => ?_⟩
      obtain ⟨a, e, _, hne⟩ := hSh _ hS
      have e := Loc.cell.inj e
      subst e
      rcases had with h | h
      · exact absurd h (hne s hs).1
      · exact absurd h (hne s hs).2
    · show ad.block < _
      obtain ⟨⟨x, y, z, h1⟩, h2⟩ := hk1 s hs
      rcases had with h | h
      · rw [h]; exact (Array.getElem?_eq_some_iff.1 h1).1
      · rw [h]; exact (Array.getElem?_eq_some_iff.1 h2).1

theorem RepT.rwg {σ : X.St} {w w₁ : World} (ho : Off Wg θ) (hw : Wd Wg θ w) (hr : RepT X Wg θ σ w) (h : RWg tWg Wg w w₁) : RepT X Wg θ σ w₁ := fun u hu =>
  hr u ⟨fun b hb => (hu.heap b hb).trans (h.block b fun e => hb (.inl e)), hu.bad, real_of ho hw.kt hw.wg, hu.size.trans h.size, hu.os.trans h.os, hu.output.trans h.output, fun j q hj => by omega, fun b _ _ _ => no_steps b⟩

section lagging
variable {P : Program} {main : Bool} {K : World → Prop} {Still : Loc → Prop} {st : Seat} {n : Nat}
theorem Lag.step {g : Goroutine} (hr : g.status = .running) (h : ∀ w, K w → (stepG P main g w).goes fun g' w' es => w' = w ∧ (∀ e ∈ es, EvS Still e) ∧ Lag P main K Still st n g') : Lag P main K Still st (n + 1) g :=
  .inr ⟨hr, fun w hw => by
    have := h w hw
    cases hs : stepG P main g w with
    | go g' w' es =>
      rw [hs] at this
      obtain ⟨rfl, h2, h3⟩ := this
      exact ⟨g', es, w'.drawn, rfl, h2, h3⟩
    | _ => rw [hs] at this; exact this.elim⟩
theorem Lag.oper {b : Frame} {a : Act} {k : List Item} {cs : List Frame} {ops : Array Oper} {i : Nat} {rest : List Nat} {o : Oper} (ho : ops[i]? = some o) (hw : Region.wanted o (yielded ops a.tmps) = true) (hk : b.kind ≠ .early)
    (he : ∀ w, K w → (execOp a.eval o).events P w #[] = #[])
    (h : ∀ w, K w → ∀ K' : Act → World → Prop, (∀ a' w', (w' = w ∧ Lag P main K Still st n (G (b.at a' (.inRegion ops rest :: k)) cs)) → K' a' w') → uponK o a K' ((execOp a.eval o).run P w)) :
    Lag P main K Still st (n + 1) (G (b.at a (.inRegion ops (i :: rest) :: k)) cs) := by
  refine Lag.step rfl fun w hat => ?_
  refine goes_oper_k ho hw hk fun K' hK => ?_
  refine h w hat K' fun a' w' hx => hK a' w' ?_
  have : Go.Conc.listed P b.fn a o w = #[] := by unfold Go.Conc.listed; rw [he w hat, seen_none]
  rw [this]
  exact ⟨hx.1, by simp, hx.2⟩
theorem Lag.read {b : Frame} {a : Act} {k : List Item} {cs : List Frame} {ops : Array Oper} {i : Nat} {rest : List Nat} {o : Oper} {ad : Addr} {v : Value} (ho : ops[i]? = some o) (hw : Region.wanted o (yielded ops a.tmps) = true) (hk : b.kind ≠ .early) (hS : Still (.cell ad))
    (he : ∀ w, K w → (execOp a.eval o).events P w #[] = #[⟨.cell ad, false, false⟩]) (hr : ∀ w, K w → (execOp a.eval o).run P w = .ok (.value v) w)
    (h : Lag P main K Still st n (G (b.at (a.put o.dst v) (.inRegion ops rest :: k)) cs)) :
    Lag P main K Still st (n + 1) (G (b.at a (.inRegion ops (i :: rest) :: k)) cs) := by
  refine Lag.step rfl fun w hat => ?_
  rw [stepG_value ho hw hk (hr w hat)]
  refine ⟨rfl, fun e hel => ?_, h⟩
  have : e ∈ (#[⟨.cell ad, false, false⟩] : Array Event) := by
    rw [← he w hat]
    exact seen_sub _ _ _ e hel
  simp only [List.mem_toArray, List.mem_cons, List.not_mem_nil, or_false] at this
  exact ⟨ad, this, hS⟩
end lagging

theorem comm_step {P : Program} {main : Bool} {b : Frame} {a : Act} {k : List Item} {cs : List Frame} {ops : Array Oper} {i : Nat} {rest : List Nat} {o : Oper} {cases : Array CommCase} {shape : CommShape} {w : World} (ho : ops[i]? = some o) (hw : Region.wanted o (yielded ops a.tmps) = true) (hk : b.kind ≠ .early)
    (hr : (execOp a.eval o).run P w = .ok (.comm cases true shape) w) (he : (execOp a.eval o).events P w #[] = #[]) :
    stepG P main (G (b.at a (.inRegion ops (i :: rest) :: k)) cs) w = .comm (G (b.at a (.inRegion ops (i :: rest) :: k)) cs) cases true shape w #[] := by
  rw [stepG_comm ho hw hk hr]
  have : Go.Conc.listed P b.fn a o w = #[] := by unfold Go.Conc.listed; rw [he, seen_none]
  rw [this]
theorem finishComm_at {P : Program} {b : Frame} {a : Act} {k : List Item} {cs : List Frame} {ops : Array Oper} {i : Nat} {rest : List Nat} {o : Oper} {cases : Array CommCase} {shape : CommShape} {kk : Int} {v : Value} {okk : Bool} (ho : ops[i]? = some o) :
    (G (b.at a (.inRegion ops (i :: rest) :: k)) cs).finishComm P cases shape kk v okk = G (b.at (a.put o.dst (commResult cases shape kk v okk)) (.inRegion ops rest :: k)) cs := by
  have := Frame.finish_at b a ops i rest k (commResult cases shape kk v okk)
  rw [ho] at this
  simp [Goroutine.finishComm, G, this]
theorem give_result (v : Value) : commResult (giveCases s v) .select 0 undef false = .tuple #[.int .i64 0, .bool false, unitV] := by
  simp [commResult, giveCases, scase, rcase, goInt]
theorem seat_result : commResult (seatCases s) .select 0 unitV true = .tuple #[.int .i64 0, .bool true, unitV, unitV] := by
  simp [commResult, seatCases, rcase, goInt]
theorem run_pieceR {E : Env} {ops : Array Oper} {l : List Nat} {n : E.ι} {t : Array Value} {w : World} {b : Frame} {k : List Item} {cs : List Frame} (hf : E.Fr b cs) (h : cpsR E ops l (fun n' t' w' => E.Go n' (G (b.at ⟨t', []⟩ k) cs) w') n t w) : E.Go n (G (b.at ⟨t, []⟩ (.inRegion ops l :: k)) cs) w := h b k cs hf fun _ _ _ _ q => q
theorem run_piece {E : Env} {c : Code} {n : E.ι} {t : Array Value} {w : World} {b : Frame} {k : List Item} {cs : List Frame} (hf : E.Fr b cs) (h : cps E c (fun n' e t' w' => aft E n' b k cs e t' w') n t w) : E.Go n (G (b.at ⟨t, []⟩ (.code c :: k)) cs) w := h b k cs hf fun _ _ _ _ _ q => q
set_option maxRecDepth 100000 in
theorem step_give (hs : s ∈ θ) (ho : Off Wg θ) (hSh : ShOk Sh Wg θ) {m : Int × Int} {n : Nat} {E : X.Due} {pc : X.Pc} {σ₀ : X.St} (hE : E (σ₀, some pc)) (hm : X.mark pc = m) {w : World} (hw : Wd Wg θ w) (hrep : RepT X Wg θ σ₀ w) :
    cpsC (envT X Wg Sh s) 119 #[.pointer (some ⟨s.blk, 0, none⟩), markV m] (fun n' v w' => v = .tuple #[] ∧ ∃ n2 σ θ', n = n2 + 1 ∧ n' = (n2, X.next pc σ, θ') ∧ s ∈ θ' ∧ Off Wg θ' ∧ ShOk Sh Wg θ' ∧ Wd Wg θ' w' ∧ RepT X Wg θ' σ w' ∧ X.ok pc σ) (n, E, θ) w := by
  have O := envT_ok X Wg Sh s
  refine cpsC_body O Try.func119 rfl ?_
  simp only [Try.ntmps119]
  walk_nrm
  intro b k cs hf hk
  refine O.step1 rfl (fun _ => stepG_seq) ?_
  refine (aloneT (Q := fun n' e t' w' => n' = (n, E, θ) ∧ e = .normal ∧ Wd Wg θ w' ∧ RepT X Wg θ σ₀ w' ∧ ∃ b0, ¬ (sig Wg θ).F b0 ∧ w'.heap[b0]? = some (Obj.cells #[Value.int IntKind.u8 m.fst, Value.int IntKind.i64 m.snd] 118 (0, 0)) ∧
    t' = #[.pointer (some ⟨s.blk, 0, none⟩), markV m, undef, .pointer (some ⟨b0, 0, none⟩)] ++ Array.replicate 30 undef) ho hSh hw (by kernel_rfl) fun u hu => ?_) b _ cs hf fun n' hn e t' w1 q => ?_
  · unfold markV
    go_wp2
    intro w1 hps hw1 hkr
    obtain ⟨ha1, ha2, ha3⟩ := alloc_old u (Obj.cells #[Value.int IntKind.u8 m.fst, Value.int IntKind.i64 m.snd] 118 (0, 0))
    have hbF : ¬ (sig Wg θ).F u.heap.size := fun h => by
      obtain ⟨c, hc⟩ := real_of ho hw.kt hw.wg _ h
      have := (Array.getElem?_eq_some_iff.1 hc).1
      rw [hu.size] at this
      omega
    have hbc : w1.heap[u.heap.size]? = some (Obj.cells #[Value.int IntKind.u8 m.fst, Value.int IntKind.i64 m.snd] 118 (0, 0)) := by rw [← hps.heap _ hbF]; exact ha3
    refine ⟨hw1, hrep.next hu hps ha1 ha2 ⟨rfl, rfl⟩, ?_⟩
    exact ⟨hbF, hbc⟩
  obtain ⟨rfl, rfl, hw1, hr1, b0, hbF, hb1, rfl⟩ := q
  walk_nrm
  show GoesI _ _ _ _ _ _ _
  repeat refine O.step1 rfl (fun _ => stepG_seq) ?_
  refine run_piece hf ?_
  (refine cps_region O ?_; simp only [List.size_toArray, List.length_cons, List.length_nil, Nat.reduceAdd, Nat.zero_add, List.range, List.range.loop])
  (refine pureT rfl rfl (fun _ => by simp [go_sem, *]) (fun w₁ K hK => ?_); go_simp; (first | refine ⟨rfl, hK _ ⟨_, rfl, ?_⟩⟩ | refine hK _ ⟨_, rfl, ?_⟩); clear hK K w₁; try walk_nrm)
  (refine pureT rfl rfl (fun _ => by simp [go_sem, *]) (fun w₁ K hK => ?_); go_simp; (first | refine ⟨rfl, hK _ ⟨_, rfl, ?_⟩⟩ | refine hK _ ⟨_, rfl, ?_⟩); clear hK K w₁; try walk_nrm)
  (refine pureT rfl rfl (fun _ => by simp [go_sem, *]) (fun w₁ K hK => ?_); go_simp; (first | refine ⟨rfl, hK _ ⟨_, rfl, ?_⟩⟩ | refine hK _ ⟨_, rfl, ?_⟩); clear hK K w₁; try walk_nrm)
  refine readT hs hSh (ad := ⟨s.blk, 2, none⟩) (v := .chan (some s.says)) rfl rfl ho hw1 (.inl rfl) (fun w₂ hk => ?_) (fun w₂ hk => ?_) ?_
  · have hc := (KT.cell hs hk).2.2
    simp [go_sem, hc]
  · have hc := (KT.cell hs hk).2.2
    go_simp
  try walk_nrm
  refine cpsR_nil O ?_
  show Env.Go _ _ _ _
  refine run_piece hf ?_
  refine aloneT ho hSh hw1 (by kernel_rfl) fun u hu => ?_
  have hub : u.heap[b0]? = some (Obj.cells #[Value.int IntKind.u8 m.fst, Value.int IntKind.i64 m.snd] 118 (0, 0)) := by rw [hu.heap b0 hbF]; exact hb1
  have hc0 : u.cell? ⟨b0, 0, none⟩ = some (.int .u8 m.fst) := by simp [World.cell?, hub]
  have hc1 : u.cell? ⟨b0, 1, none⟩ = some (.int .i64 m.snd) := by simp [World.cell?, hub]
  go_wp2
  intro w2 hps hw2 hkr
  have hr2 := hr1.next hu hps (fun _ _ => rfl) (Nat.le_refl _) ⟨rfl, rfl⟩
  clear hps hkr hub hc0 hc1 hu u hr1 hw1 hb1 hbF
  show Env.Go _ _ _ _
  refine run_piece hf ?_
  (refine cps_region O ?_; simp only [List.size_toArray, List.length_cons, List.length_nil, Nat.reduceAdd, Nat.zero_add, List.range, List.range.loop])
  (refine pureT rfl rfl (fun _ => by simp [go_sem, *]) (fun w₁ K hK => ?_); go_simp; (first | refine ⟨rfl, hK _ ⟨_, rfl, ?_⟩⟩ | refine hK _ ⟨_, rfl, ?_⟩); clear hK K w₁; try walk_nrm)
  (refine pureT rfl rfl (fun _ => by simp [go_sem, *]) (fun w₁ K hK => ?_); go_simp; (first | refine ⟨rfl, hK _ ⟨_, rfl, ?_⟩⟩ | refine hK _ ⟨_, rfl, ?_⟩); clear hK K w₁; try walk_nrm)
  (refine pureT rfl rfl (fun _ => by simp [go_sem, *]) (fun w₁ K hK => ?_); go_simp; (first | refine ⟨rfl, hK _ ⟨_, rfl, ?_⟩⟩ | refine hK _ ⟨_, rfl, ?_⟩); clear hK K w₁; try walk_nrm)
  refine readT hs hSh (ad := ⟨s.blk, 1, none⟩) (v := .chan (some s.stop)) rfl rfl ho hw2 (.inl rfl) (fun w₂ hk => ?_) (fun w₂ hk => ?_) ?_
  · have hc := (KT.cell hs hk).2.1
    simp [go_sem, hc]
  · have hc := (KT.cell hs hk).2.1
    go_simp
  try walk_nrm
  refine cpsR_nil O ?_
  show Env.Go _ _ _ _
  repeat refine O.step1 rfl (fun _ => stepG_seq) ?_
  refine O.step1 rfl (fun _ => stepG_region) ?_
  simp only [List.size_toArray, List.length_cons, List.length_nil, Nat.reduceAdd, Nat.zero_add, List.range, List.range.loop]
  -- it gives the turn away
  refine GoesI.stop fun w₃ hR => ?_
  have hR : RWg tWg Wg w2 w₃ := hR
  refine ⟨(σ₀, some pc), hE, hr2.rwg ho hw2 hR, hw2.kr (rwg_kr ho hR), ?_⟩
  show ∃ a₂ nh, _ ∧ _
  have hke : b.kind ≠ .early := by simpa using hf.kind
  refine ⟨_, 60, ⟨rfl, fun w₄ hR4 => comm_step rfl rfl hke ?_ ?_⟩, ?_⟩
  · simp [go_sem, execOp, Act.eval, giveCases, scase, rcase, saidV, saidZ, unitV, hm]
  · simp [go_sem, execOp]
  · rw [finishComm_at rfl, give_result]
    refine .inl ⟨59, rfl, ?_⟩
    walk_nrm
    repeat (first | ((refine Lag.step rfl (fun w hw => ?_); first | rw [stepG_seq] | rw [stepG_skip] | rw [stepG_region_end] | rw [stepG_region] | rw [stepG_block] | rw [stepG_inBlock] | rw [stepG_ret'] | rw [stepG_end] | rw [stepG_cond (t := true) rfl] | rw [stepG_cond (t := false) rfl] | rw [stepG_unwanted rfl rfl]); simp only [goes_go, if_true, if_false, Bool.false_eq_true, ↓reduceIte, List.size_toArray, List.length_cons, List.length_nil, Nat.reduceAdd, Nat.zero_add, List.range, List.range.loop]; refine ⟨(by first | rfl | trivial), (by simp), ?_⟩; clear hw; try walk_nrm) | ((refine Lag.oper rfl rfl hke (fun w hw => by simp [go_sem, *]) (fun w hw K hK => ?_); go_simp; refine hK _ _ ⟨rfl, ?_⟩; clear hK K hw)))
    refine Lag.read rfl rfl hke (ad := ⟨s.blk, 0, none⟩) (v := .chan (some s.turn)) ⟨s, hs, .inl rfl⟩ (fun w hk => ?_) (fun w hk => ?_) ?_
    · have hc := (KT.cell hs hk).1
      simp [go_sem, hc]
    · have hc := (KT.cell hs hk).1
      go_simp
    walk_nrm
    repeat (first | ((refine Lag.step rfl (fun w hw => ?_); first | rw [stepG_seq] | rw [stepG_skip] | rw [stepG_region_end] | rw [stepG_region] | rw [stepG_block] | rw [stepG_inBlock] | rw [stepG_ret'] | rw [stepG_end] | rw [stepG_cond (t := true) rfl] | rw [stepG_cond (t := false) rfl] | rw [stepG_unwanted rfl rfl]); simp only [goes_go, if_true, if_false, Bool.false_eq_true, ↓reduceIte, List.size_toArray, List.length_cons, List.length_nil, Nat.reduceAdd, Nat.zero_add, List.range, List.range.loop]; refine ⟨(by first | rfl | trivial), (by simp), ?_⟩; clear hw; try walk_nrm) | ((refine Lag.oper rfl rfl hke (fun w hw => by simp [go_sem, *]) (fun w hw K hK => ?_); go_simp; refine hK _ _ ⟨rfl, ?_⟩; clear hK K hw)))
    refine Lag.read rfl rfl hke (ad := ⟨s.blk, 1, none⟩) (v := .chan (some s.stop)) ⟨s, hs, .inr (.inl rfl)⟩ (fun w hk => ?_) (fun w hk => ?_) ?_
    · have hc := (KT.cell hs hk).2.1
      simp [go_sem, hc]
    · have hc := (KT.cell hs hk).2.1
      go_simp
    walk_nrm
    repeat (first | ((refine Lag.step rfl (fun w hw => ?_); first | rw [stepG_seq] | rw [stepG_skip] | rw [stepG_region_end] | rw [stepG_region] | rw [stepG_block] | rw [stepG_inBlock] | rw [stepG_ret'] | rw [stepG_end] | rw [stepG_cond (t := true) rfl] | rw [stepG_cond (t := false) rfl] | rw [stepG_unwanted rfl rfl]); simp only [goes_go, if_true, if_false, Bool.false_eq_true, ↓reduceIte, List.size_toArray, List.length_cons, List.length_nil, Nat.reduceAdd, Nat.zero_add, List.range, List.range.loop]; refine ⟨(by first | rfl | trivial), (by simp), ?_⟩; clear hw; try walk_nrm) | ((refine Lag.oper rfl rfl hke (fun w hw => by simp [go_sem, *]) (fun w hw K hK => ?_); go_simp; refine hK _ _ ⟨rfl, ?_⟩; clear hK K hw)))
    refine Or.inl ⟨_, rfl, rfl, rfl, rfl, ?_, fun w hw => comm_step rfl rfl hke ?_ ?_⟩
    · clear hn hR hr2 hw2 hE hrep hw
      cases n with
      | zero => trivial
      | succ n2 =>
        intro θ' w' σ hs' ho' hSh' hw' hr' hok'
        rw [finishComm_at rfl, seat_result]
        show (envT X Wg Sh s).Go (n2, X.next pc σ, θ') _ w'
        walk_nrm
        refine run_pieceR hf ?_
        (refine pureT rfl rfl (fun _ => by simp [go_sem, *]) (fun w₁ K hK => ?_); go_simp; (first | refine ⟨rfl, hK _ ⟨_, rfl, ?_⟩⟩ | refine hK _ ⟨_, rfl, ?_⟩); clear hK K w₁; try walk_nrm)
        (refine pureT rfl rfl (fun _ => by simp [go_sem, *]) (fun w₁ K hK => ?_); go_simp; (first | refine ⟨rfl, hK _ ⟨_, rfl, ?_⟩⟩ | refine hK _ ⟨_, rfl, ?_⟩); clear hK K w₁; try walk_nrm)
        (refine pureT rfl rfl (fun _ => by simp [go_sem, *]) (fun w₁ K hK => ?_); go_simp; (first | refine ⟨rfl, hK _ ⟨_, rfl, ?_⟩⟩ | refine hK _ ⟨_, rfl, ?_⟩); clear hK K w₁; try walk_nrm)
        refine cpsR_nil O ?_
        refine run_piece hf ?_
        refine cps_block O ?_
        refine cps_cond O (v := true) rfl ?_
        refine cps_skip O ?_
        refine hk (n2, X.next pc σ, θ') (.inr (Nat.lt_succ_self n2)) .normal _ w' ⟨.inl rfl, .tuple #[], fun w₁ _ => ⟨#[], ?_, O.still _ _⟩, rfl, n2, σ, θ', rfl, rfl, hs', ho', hSh', hw', hr', hok'⟩
        rw [show (envT X Wg Sh s).P = Try.prog from rfl, Sem.runT_eq, results_none rfl, events_results_none rfl]
    · simp [go_sem, execOp, Act.eval, thrSeat, seatCases, rcase, unitV]
    · simp [go_sem, execOp]
end gate
end Go.Proofs.Ytdedmmjmiakidaa
/- Plain words: the stack's gate, where it is a thread's seat. No condition. -/
namespace Go.Proofs.Ytdedmmjmiakidaa
open Go.Conc Go.RowKit
section
variable {X : Spec} {Wg : Nat} {Sh : Loc → Prop} {s : SV} {θ : Tab}
theorem cps_opaque {E : Env} {c : Code} {Q : E.ι → Exit → Array Value → World → Prop} {n : E.ι} {t : Array Value} {w : World} (h : ∀ Q' : E.ι → Exit → Array Value → World → Prop, (∀ n' e t' w', Q n' e t' w' → Q' n' e t' w') → cps E c Q' n t w) : cps E c Q n t w := h Q fun _ _ _ _ q => q
/-- The gate as its caller sees it. -/
def seatGate (s : SV) : Value := .iface tSeatP (.pointer (some ⟨s.blk, 0, none⟩))
theorem method_seat (k : Nat) (a : Addr) (w : World) : Sem.run Try.prog (Go.method (k + 1) tSeatP (.pointer (some a)) "Step") w = .ok (119, .pointer (some a)) w := by kernel_rfl
theorem method_seat_ev (k : Nat) (a : Addr) (w : World) : Sem.events Try.prog (Go.method (k + 1) tSeatP (.pointer (some a)) "Step") w #[] = #[] := by kernel_rfl
theorem call_seat (args : Array Value) (w : World) : Sem.run Try.prog (callFunc 119 args) w = .ok (.enter 119 args) w := by
  have h : callFunc 119 args = callFunc 119 args := rfl
  unfold callFunc
  have hf := Try.func119
  show Sem.run Try.prog _ w = _
  simp only [program, bind, Sem.bind, Sem.run, hf]
  rfl
theorem call_seat_ev (args : Array Value) (w : World) (es : Array Event) : Sem.events Try.prog (callFunc 119 args) w es = es := by
  unfold callFunc
  have hf := Try.func119
  simp only [program, bind, Sem.bind, Sem.events, Sem.runT, hf]
  rfl
set_option maxRecDepth 100000 in
theorem gate_seat (hs : s ∈ θ) (ho : Off Wg θ) (hSh : ShOk Sh Wg θ) {m : Int × Int} {n : Nat} {E : X.Due} {pc : X.Pc} {σ₀ : X.St} (hE : E (σ₀, some pc)) (hm : X.mark pc = m) {w : World} (hw : Wd Wg θ w) (hrep : RepT X Wg θ σ₀ w) :
    cpsC (envT X Wg Sh s) 46 #[seatGate s, .int .u8 m.1, .int .i64 m.2] (fun n' v w' => v = .tuple #[] ∧ ∃ n2 σ θ', n = n2 + 1 ∧ n' = (n2, X.next pc σ, θ') ∧ s ∈ θ' ∧ Off Wg θ' ∧ ShOk Sh Wg θ' ∧ Wd Wg θ' w' ∧ RepT X Wg θ' σ w' ∧ X.ok pc σ) (n, E, θ) w := by
  have O := envT_ok X Wg Sh s
  refine cpsC_body O Try.func46 rfl ?_
  simp only [Try.ntmps46]
  refine cps_opaque fun Q hQ => ?_
  walk_nrm
  unfold seatGate
  refine cps_seq O ?_
  refine aloneT ho hSh hw (by kernel_rfl) fun u hu => ?_
  go_wp2
  intro w1 hps hw1 hkr
  have hr1 := hrep.next hu hps (fun _ _ => rfl) (Nat.le_refl _) ⟨rfl, rfl⟩
  clear hps hkr hu u hrep hw w
  show cps _ _ _ _ _ _
  refine cps_cond O (v := true) rfl ?_
  simp only [if_true]
  (refine cps_region O ?_; simp only [List.size_toArray, List.length_cons, List.length_nil, Nat.reduceAdd, Nat.zero_add, List.range, List.range.loop])
  (refine pureT rfl rfl (fun _ => by simp [go_sem, *]) (fun w₁ K hK => ?_); go_simp; (first | refine ⟨rfl, hK _ ⟨_, rfl, ?_⟩⟩ | refine hK _ ⟨_, rfl, ?_⟩); clear hK K w₁; try walk_nrm)
  (refine pureT rfl rfl (fun _ => by simp [go_sem, *]) (fun w₁ K hK => ?_); go_simp; (first | refine ⟨rfl, hK _ ⟨_, rfl, ?_⟩⟩ | refine hK _ ⟨_, rfl, ?_⟩); clear hK K w₁; try walk_nrm)
  (refine pureT rfl rfl (fun _ => by simp [go_sem, *]) (fun w₁ K hK => ?_); go_simp; (first | refine ⟨rfl, hK _ ⟨_, rfl, ?_⟩⟩ | refine hK _ ⟨_, rfl, ?_⟩); clear hK K w₁; try walk_nrm)
  (refine pureT rfl rfl (fun _ => by simp [go_sem, *]) (fun w₁ K hK => ?_); go_simp; (first | refine ⟨rfl, hK _ ⟨_, rfl, ?_⟩⟩ | refine hK _ ⟨_, rfl, ?_⟩); clear hK K w₁; try walk_nrm)
  refine cpsR_enter O (f := 119) (args := #[.pointer (some ⟨s.blk, 0, none⟩), markV m]) rfl rfl (fun w₁ _ => ⟨#[], ?_, O.still _ _⟩) ?_
  · rw [show (envT X Wg Sh s).P = Try.prog from rfl, Sem.runT_eq]
    refine Prod.ext ?_ ?_
    · simp [go_sem, execOp, Act.eval, method_seat, call_seat, markV]
    · simp [go_sem, execOp, Act.eval, method_seat, method_seat_ev, call_seat, call_seat_ev]
  · have hg := step_give (X := X) (Sh := Sh) (n := n) hs ho hSh hE hm hw1 hr1
    refine fun fr cs hcs hk => hg fr cs hcs fun n' hn v w' q => hk n' hn v w' ?_
    obtain ⟨rfl, q⟩ := q
    refine cpsR_nil O (hQ _ _ _ _ ⟨.inl rfl, .tuple #[], fun w₁ _ => ⟨#[], ?_, O.still _ _⟩, rfl, q⟩)
    rw [show (envT X Wg Sh s).P = Try.prog from rfl, Sem.runT_eq, results_none rfl, events_results_none rfl]
end
end Go.Proofs.Ytdedmmjmiakidaa
/- Plain words: the program holds the library's functions of a wait group. No condition. -/
namespace Go.Proofs.Ytdedmmjmiakidaa
abbrev wgLink : Go.Conc.Lib.WgLink := { add := 53, done := 55, wait := 56, relMerge := 75, disable := 76, enable := 77, inBubble := 78, associate := 79, fatal := 80, uOr := 81, uAdd := 47, raceRead := 82, uLoad := 48, uStore := 83, disassociate := 84, semrelease := 85, acquire := 86, isAssociated := 87, uCas := 49, raceWrite := 88, semacquire := 89, orU64 := 98, addU64 := 70, loadU64 := 71, storeU64 := 99, casU64 := 72, tWgP := 165, tUP := 179, tAssoc := 180, tWg := 134, tAU := 55, tU64 := 23, tUint := 169, tU32 := 132, tPU32 := 183, tPAU := 171, tPU64 := 173, tNoCopy := 131, tANoCopy := 52, tAlign64 := 53 }
theorem wgLib : Go.Conc.Lib.WgLib Try.prog wgLink :=
  ⟨Try.func53, Try.func55, Try.func56, Try.func75, Try.func76, Try.func77, Try.func78, Try.func79, Try.func80, Try.func81, Try.func47, Try.func82, Try.func48, Try.func83, Try.func84, Try.func85, Try.func86, Try.func87, Try.func49, Try.func88, Try.func89, Try.func98, Try.func70, Try.func71, Try.func99, Try.func72, Try.underlying165, Try.runUnderlying165, Try.sizeOf165, Try.isAgg165, Try.zeroValue165, Try.underlying179, Try.runUnderlying179, Try.sizeOf179, Try.isAgg179, Try.zeroValue179, Try.underlying180, Try.runUnderlying180, Try.sizeOf180, Try.isAgg180, Try.zeroValue180, Try.underlying134, Try.runUnderlying134, Try.sizeOf134, Try.isAgg134, Try.zeroValue134, Try.underlying55, Try.runUnderlying55, Try.sizeOf55, Try.isAgg55, Try.zeroValue55, Try.underlying23, Try.runUnderlying23, Try.sizeOf23, Try.isAgg23, Try.zeroValue23, Try.underlying169, Try.runUnderlying169, Try.sizeOf169, Try.isAgg169, Try.zeroValue169, Try.underlying132, Try.runUnderlying132, Try.sizeOf132, Try.isAgg132, Try.zeroValue132, Try.underlying183, Try.runUnderlying183, Try.sizeOf183, Try.isAgg183, Try.zeroValue183, Try.underlying171, Try.runUnderlying171, Try.sizeOf171, Try.isAgg171, Try.zeroValue171, Try.underlying173, Try.runUnderlying173, Try.sizeOf173, Try.isAgg173, Try.zeroValue173, Try.underlying0, Try.runUnderlying0, Try.sizeOf0, Try.isAgg0, Try.zeroValue0, Try.underlying3, Try.runUnderlying3, Try.sizeOf3, Try.isAgg3, Try.zeroValue3, Try.underlying4, Try.runUnderlying4, Try.sizeOf4, Try.isAgg4, Try.zeroValue4, Try.underlying9, Try.runUnderlying9, Try.sizeOf9, Try.isAgg9, Try.zeroValue9, Try.underlying20, Try.runUnderlying20, Try.sizeOf20, Try.isAgg20, Try.zeroValue20, Try.underlying21, Try.runUnderlying21, Try.sizeOf21, Try.isAgg21, Try.zeroValue21, (by kernel_rfl), (by kernel_rfl)⟩
end Go.Proofs.Ytdedmmjmiakidaa
/- Plain words: how a goroutine that has been counted leaves: sync.WaitGroup's Done, whatever the count. Asked: the program holds the library's functions (WgLib). -/
namespace Go.Proofs.Ytdedmmjmiakidaa
open Go.Conc Go.RowKit Go.Conc.Lib Go.ConcR.Gen Go.ConcN.Gen
open Go.ConcR (KK wgBlock WgAt stA smA rd wr mk)
section
variable {P : Program} {ty : TypeId} {Wg : Nat}
theorem Lv.step {n d p : Nat} {g : Goroutine} (hr : g.status = .running) (h : ∀ w st sm, WgAt ty Wg w st sm → (stepG P false g w).goes fun g' w' es => w' = w ∧ (∀ e ∈ es, EvM Wg e) ∧ Lv P ty Wg n (deafBehind d es) (p + 1) g') : Lv P ty Wg (n + 1) d (p + 1) g :=
  ⟨hr, .inl fun w st sm hw => by
    have := h w st sm hw
    cases hs : stepG P false g w with
    | go g' w' es =>
      rw [hs] at this
      obtain ⟨rfl, h2, h3⟩ := this
      exact ⟨g', es, rfl, h2, h3⟩
    | _ => rw [hs] at this; exact this.elim⟩
theorem Lv.oper {n d p : Nat} {b : Frame} {a : Act} {k : List Item} {cs : List Frame} {ops : Array Oper} {i : Nat} {rest : List Nat} {o : Oper} (ho : ops[i]? = some o) (hw : Region.wanted o (yielded ops a.tmps) = true) (hk : b.kind ≠ .early)
    (he : ∀ w st sm, WgAt ty Wg w st sm → (execOp a.eval o).events P w #[] = #[])
    (h : ∀ w st sm, WgAt ty Wg w st sm → ∀ K' : Act → World → Prop, (∀ a' w', (w' = w ∧ Lv P ty Wg n d (p + 1) (G (b.at a' (.inRegion ops rest :: k)) cs)) → K' a' w') → uponK o a K' ((execOp a.eval o).run P w)) :
    Lv P ty Wg (n + 1) d (p + 1) (G (b.at a (.inRegion ops (i :: rest) :: k)) cs) := by
  refine Lv.step rfl fun w st sm hat => ?_
  refine goes_oper_k ho hw hk fun K' hK => ?_
  refine h w st sm hat K' fun a' w' hx => hK a' w' ?_
  have : listed P b.fn a o w = #[] := by unfold listed; rw [he w st sm hat, seen_none]
  rw [this]
  exact ⟨hx.1, by simp, hx.2⟩
theorem QuitsD.oper {n d : Nat} {b : Frame} {a : Act} {k : List Item} {cs : List Frame} {ops : Array Oper} {i : Nat} {rest : List Nat} {o : Oper} (ho : ops[i]? = some o) (hw : Region.wanted o (yielded ops a.tmps) = true) (hk : b.kind ≠ .early)
    (he : ∀ w, (execOp a.eval o).events P w #[] = #[]) (h : ∃ v, (∀ w, (execOp a.eval o).run P w = .ok (.value v) w) ∧ QuitsD P n d (G (b.at (a.put o.dst v) (.inRegion ops rest :: k)) cs)) : QuitsD P (n + 1) d (G (b.at a (.inRegion ops (i :: rest) :: k)) cs) := by
  obtain ⟨v, hr, hq⟩ := h
  exact QuitsD.value v ho hw hk hr he hq
theorem QuitsD.more {n d : Nat} : ∀ {n : Nat} {d : Nat} {g : Goroutine}, QuitsD P n d g → QuitsD P (n + 1) d g
  | 0, _, _, h => .inl h
  | n + 1, _, _, .inl h => .inl h
  | n + 1, _, _, .inr ⟨hr, g', es, h1, h2, h3⟩ => .inr ⟨hr, g', es, h1, h2, QuitsD.more (n := n) (d := d) h3⟩
theorem QuitsD.le {n m d : Nat} {g : Goroutine} (h : QuitsD P n d g) (hm : n ≤ m) : QuitsD P m d g := by
  obtain ⟨k, rfl⟩ := Nat.exists_eq_add_of_le hm
  induction k with
  | zero => exact h
  | succ k ih => exact QuitsD.more (n := 0) (d := 0) (ih (by omega))
theorem Lv.quits {n d : Nat} {g : Goroutine} (h : QuitsD P n d g) : Lv P ty Wg n d 0 g := by cases n <;> exact h
end
section
variable {L : WgLink} {P : Program} {Wg : Nat}
set_option maxRecDepth 100000 in
set_option maxHeartbeats 8000000 in
theorem lv_add (H : WgLib P L) {b₀ : Frame} {a₀ : Act} {ops₀ : Array Oper} {i₀ : Nat} {rest₀ : List Nat} {k₀ : List Item} {cs : List Frame} {qt : Nat}
    (hT : QuitsD P qt 0 (G (b₀.at (a₀.put ((ops₀[i₀]?).bind (·.dst)) (.tuple #[])) (.inRegion ops₀ rest₀ :: k₀)) cs)) :
    Lv P L.tWg Wg (qt + 300) 0 4 (G ((base L.add).at ⟨#[.pointer (some ⟨Wg, 0, none⟩), .int .i64 (-1)] ++ Array.replicate 115 undef, []⟩ [.code (body_add L)]) (b₀.at a₀ (.inRegion ops₀ (i₀ :: rest₀) :: k₀) :: cs)) := by
  lib_facts
  simp only [body_add, addFn, Option.getD_some]
  repeat (first | ((refine Lv.step rfl (fun w st sm hw => ?_); first | rw [stepG_seq] | rw [stepG_skip] | rw [stepG_region_end] | rw [stepG_region] | rw [stepG_block] | rw [stepG_loop] | rw [stepG_inLoop] | rw [stepG_inBlock] | rw [stepG_label] | rw [stepG_ret'] | rw [stepG_end] | rw [stepG_cond (t := true) rfl] | rw [stepG_cond (t := false) rfl] | rw [stepG_unwanted rfl rfl]); simp only [goes_go, if_true, if_false, Bool.false_eq_true, ↓reduceIte, List.size_toArray, List.length_cons, List.length_nil, Nat.reduceAdd, Nat.zero_add, List.range, List.range.loop]; refine ⟨(by first | rfl | trivial), (by simp), ?_⟩; (try simp only [deafBehind_nil]); clear hw; try walk_nrm) | ((refine Lv.oper rfl rfl (by k_ne) (fun w st sm hw => by simp [go_sem, *]) (fun w st sm hw K hK => ?_); go_simp; refine hK _ _ ⟨rfl, ?_⟩; clear hK K hw); try w_num) | ((refine Lv.step rfl (fun w st sm hw => ?_)); rw [stepG_defer rfl rfl (by k_ne) rfl]; simp only [goes_go]; refine ⟨(by first | rfl | trivial), (by intro e he; simp at he; try (subst he; exact Or.inl rfl)), ?_⟩; (try simp only [deafBehind_nil]); clear hw; try walk_nrm) | ((refine Lv.step rfl (fun w st sm hw => ?_)); rw [stepG_entry_pure (.bool false) rfl rfl (by k_ne) rfl H.f_inBubble (x_inBubble_n L) (x_inBubble_b L) (x_inBubble_x L) (x_inBubble_f L)]; simp only [goes_go]; refine ⟨(by first | rfl | trivial), (by intro e he; simp at he; try (subst he; exact Or.inl rfl)), ?_⟩; (try simp only [deafBehind_nil]); clear hw; try walk_nrm))
  -- unsafe.Pointer
  refine Lv.oper rfl rfl (by k_ne) (fun w st sm hw => ?_) (fun w st sm hw K hK => ?_)
  · have hc0 : w.cell? ⟨Wg, 0, none⟩ = some (.int .u64 st) := hw.cellSt
    have hce := fun es => events_convert_to_unsafe (P := P) H.underlying_tWgP H.underlying_tUP H.room_tWg hc0 es
    simp [go_sem, hce]
  have hc0 : w.cell? ⟨Wg, 0, none⟩ = some (.int .u64 st) := hw.cellSt
  have hcv := run_convert_to_unsafe (P := P) H.underlying_tWgP H.underlying_tUP H.room_tWg hc0
  go_simp
  refine hK _ _ ⟨rfl, ?_⟩
  clear hK K hw hcv hc0
  -- release and merge
  (refine Lv.step rfl (fun w st sm hw => ?_))
  rw [stepG_markAt .releaseMerge (by simp) rfl rfl (by k_ne) rfl H.f_relMerge (x_relMerge_n L) (x_relMerge_b L) (x_relMerge_x L) (x_relMerge_f L) (ad := stA Wg) (by simp [Act.eval, stA])]
  simp only [goes_go]
  refine ⟨(by first | rfl | trivial), (by intro e he; simp at he; subst he; exact Or.inr ⟨stA Wg, rfl, rfl⟩), ?_⟩
  clear hw
  change Lv P L.tWg Wg _ 0 (3 + 1) _
  walk_nrm
  repeat (first | ((refine Lv.step rfl (fun w st sm hw => ?_); first | rw [stepG_seq] | rw [stepG_skip] | rw [stepG_region_end] | rw [stepG_region] | rw [stepG_block] | rw [stepG_loop] | rw [stepG_inLoop] | rw [stepG_inBlock] | rw [stepG_label] | rw [stepG_ret'] | rw [stepG_end] | rw [stepG_cond (t := true) rfl] | rw [stepG_cond (t := false) rfl] | rw [stepG_unwanted rfl rfl]); simp only [goes_go, if_true, if_false, Bool.false_eq_true, ↓reduceIte, List.size_toArray, List.length_cons, List.length_nil, Nat.reduceAdd, Nat.zero_add, List.range, List.range.loop]; refine ⟨(by first | rfl | trivial), (by simp), ?_⟩; (try simp only [deafBehind_nil]); clear hw; try walk_nrm) | ((refine Lv.oper rfl rfl (by k_ne) (fun w st sm hw => by simp [go_sem, *]) (fun w st sm hw K hK => ?_); go_simp; refine hK _ _ ⟨rfl, ?_⟩; clear hK K hw); try w_num) | ((refine Lv.step rfl (fun w st sm hw => ?_)); rw [stepG_defer rfl rfl (by k_ne) rfl]; simp only [goes_go]; refine ⟨(by first | rfl | trivial), (by intro e he; simp at he; try (subst he; exact Or.inl rfl)), ?_⟩; (try simp only [deafBehind_nil]); clear hw; try walk_nrm) | ((refine Lv.step rfl (fun w st sm hw => ?_)); rw [stepG_entry_pure (.bool false) rfl rfl (by k_ne) rfl H.f_inBubble (x_inBubble_n L) (x_inBubble_b L) (x_inBubble_x L) (x_inBubble_f L)]; simp only [goes_go]; refine ⟨(by first | rfl | trivial), (by intro e he; simp at he; try (subst he; exact Or.inl rfl)), ?_⟩; (try simp only [deafBehind_nil]); clear hw; try walk_nrm))
  (refine Lv.step rfl (fun w st sm hw => ?_))
  rw [stepG_mark0 .disable (by simp) rfl rfl (by k_ne) rfl H.f_disable (x_disable_n L) (x_disable_b L) (x_disable_x L) (x_disable_f L)]
  simp only [goes_go]
  refine ⟨(by first | rfl | trivial), (by intro e he; simp at he; subst he; exact Or.inl rfl), ?_⟩
  clear hw
  change Lv P L.tWg Wg _ 1 (3 + 1) _
  walk_nrm
  repeat (first | ((refine Lv.step rfl (fun w st sm hw => ?_); first | rw [stepG_seq] | rw [stepG_skip] | rw [stepG_region_end] | rw [stepG_region] | rw [stepG_block] | rw [stepG_loop] | rw [stepG_inLoop] | rw [stepG_inBlock] | rw [stepG_label] | rw [stepG_ret'] | rw [stepG_end] | rw [stepG_cond (t := true) rfl] | rw [stepG_cond (t := false) rfl] | rw [stepG_unwanted rfl rfl]); simp only [goes_go, if_true, if_false, Bool.false_eq_true, ↓reduceIte, List.size_toArray, List.length_cons, List.length_nil, Nat.reduceAdd, Nat.zero_add, List.range, List.range.loop]; refine ⟨(by first | rfl | trivial), (by simp), ?_⟩; (try simp only [deafBehind_nil]); clear hw; try walk_nrm) | ((refine Lv.oper rfl rfl (by k_ne) (fun w st sm hw => by simp [go_sem, *]) (fun w st sm hw K hK => ?_); go_simp; refine hK _ _ ⟨rfl, ?_⟩; clear hK K hw); try w_num) | ((refine Lv.step rfl (fun w st sm hw => ?_)); rw [stepG_defer rfl rfl (by k_ne) rfl]; simp only [goes_go]; refine ⟨(by first | rfl | trivial), (by intro e he; simp at he; try (subst he; exact Or.inl rfl)), ?_⟩; (try simp only [deafBehind_nil]); clear hw; try walk_nrm) | ((refine Lv.step rfl (fun w st sm hw => ?_)); rw [stepG_entry_pure (.bool false) rfl rfl (by k_ne) rfl H.f_inBubble (x_inBubble_n L) (x_inBubble_b L) (x_inBubble_x L) (x_inBubble_f L)]; simp only [goes_go]; refine ⟨(by first | rfl | trivial), (by intro e he; simp at he; try (subst he; exact Or.inl rfl)), ?_⟩; (try simp only [deafBehind_nil]); clear hw; try walk_nrm))
  (refine Lv.step rfl (fun w st sm hw => ?_))
  refine goes_call rfl rfl (by k_ne) rfl H.f_uAdd (nm_uAdd L) rfl ⟨rfl, by simp, ?_⟩
  simp only [deafBehind_nil]
  clear hw
  walk_nrmf uAddFn
  repeat (first | ((refine Lv.step rfl (fun w st sm hw => ?_); first | rw [stepG_seq] | rw [stepG_skip] | rw [stepG_region_end] | rw [stepG_region] | rw [stepG_block] | rw [stepG_loop] | rw [stepG_inLoop] | rw [stepG_inBlock] | rw [stepG_label] | rw [stepG_ret'] | rw [stepG_end] | rw [stepG_cond (t := true) rfl] | rw [stepG_cond (t := false) rfl] | rw [stepG_unwanted rfl rfl]); simp only [goes_go, if_true, if_false, Bool.false_eq_true, ↓reduceIte, List.size_toArray, List.length_cons, List.length_nil, Nat.reduceAdd, Nat.zero_add, List.range, List.range.loop]; refine ⟨(by first | rfl | trivial), (by simp), ?_⟩; (try simp only [deafBehind_nil]); clear hw; try walk_nrm) | ((refine Lv.oper rfl rfl (by k_ne) (fun w st sm hw => by simp [go_sem, *]) (fun w st sm hw K hK => ?_); go_simp; refine hK _ _ ⟨rfl, ?_⟩; clear hK K hw); try w_num) | ((refine Lv.step rfl (fun w st sm hw => ?_)); rw [stepG_defer rfl rfl (by k_ne) rfl]; simp only [goes_go]; refine ⟨(by first | rfl | trivial), (by intro e he; simp at he; try (subst he; exact Or.inl rfl)), ?_⟩; (try simp only [deafBehind_nil]); clear hw; try walk_nrm) | ((refine Lv.step rfl (fun w st sm hw => ?_)); rw [stepG_entry_pure (.bool false) rfl rfl (by k_ne) rfl H.f_inBubble (x_inBubble_n L) (x_inBubble_b L) (x_inBubble_x L) (x_inBubble_f L)]; simp only [goes_go]; refine ⟨(by first | rfl | trivial), (by intro e he; simp at he; try (subst he; exact Or.inl rfl)), ?_⟩; (try simp only [deafBehind_nil]); clear hw; try walk_nrm))
  refine ⟨rfl, .inr ⟨by decide, .inl ⟨rfl, fun w v wt hwt hv hw => ?_⟩⟩⟩
  have e0 : IntKind.u64.wrap (KK + 18446744069414584320) = 0 := by decide
  have e1 : IntKind.u64.wrap (KK + 1 + 18446744069414584320) = 1 := by decide
  rcases Nat.eq_zero_or_pos v with rfl | hvp <;> (obtain rfl | rfl : wt = 0 ∨ wt = 1 := by omega)
  · -- (0, nobody waits)
    replace hw : WgAt L.tWg Wg w KK 0 := by simpa using hw
    have z : ((0 : Nat) : Int) * KK + ((0 : Nat) : Int) = 0 := by simp
    rw [z]
    refine ⟨_, (stepG_add_atomic rfl rfl (by k_ne) rfl H.f_addU64 (x_addU64_n L) (x_addU64_b L) (x_addU64_x L) .u64 (x_addU64_f L) rfl rfl hw.cellSt (hw.thaw 0)).trans (by rw [e0]; rfl), ?_⟩
    rw [if_neg (by simp)]
    refine Lv.quits (QuitsD.le (n := qt + 89) ?_ (by omega))
    clear hw
    walk_nrm
    q_val (.int .u64 0); q_c stepG_region_end; q_c stepG_ret'; q_leave1 H.f_uAdd; q_val (.int .u64 0); q_c stepG_region_end; q_c stepG_seq; q_c stepG_seq; q_reg; q_val (.int .u64 0); q_val (.int .u64 0); q_val (.bool false); q_val (.bool false); q_skip; q_skip; q_val (.bool false); q_c stepG_region_end; q_cond false; q_c stepG_skip; q_c stepG_seq; q_reg; q_val (.int .u64 0); q_val (.int .u64 0); q_val (.int .i32 0); q_val (.int .i32 0); q_c stepG_region_end; q_c stepG_seq; q_reg; q_val (.int .u64 0); q_val (.int .u64 0); q_val (.int .u32 0); q_val (.int .u32 0); q_c stepG_region_end; q_c stepG_seq; q_c stepG_seq; q_reg; q_val (.bool true); q_val (.int .i64 (-1)); q_val (.bool false); q_val (.bool false); q_val (.bool false); q_skip; q_skip; q_skip; q_skip; q_val (.bool false); q_c stepG_region_end; q_cond false; q_c stepG_skip; q_c stepG_seq; q_c stepG_seq; q_reg; q_val (.int .i32 0); q_val (.bool false); q_c stepG_region_end; q_cond false; q_c stepG_skip; q_c stepG_seq; q_c stepG_seq; q_reg; q_val (.int .u32 0); q_val (.bool false); q_val (.bool false); q_skip; q_skip; q_val (.bool false); q_val (.bool false); q_skip; q_skip; q_skip; q_skip; q_val (.bool false); q_c stepG_region_end; q_cond false; q_c stepG_skip; q_c stepG_seq; q_c stepG_seq; q_reg; q_val (.int .i32 0); q_val (.bool false); q_val (.bool false); q_val (.int .u32 0); q_val (.bool true); q_val (.bool true); q_c stepG_region_end; q_cond true; q_c stepG_ret'; q_enable; q_leave0 H.f_add; exact hT
  · -- (0, somebody waits): the last one
    replace hw : WgAt L.tWg Wg w (KK + 1) 0 := by simpa using hw
    have z : ((0 : Nat) : Int) * KK + ((1 : Nat) : Int) = 1 := by simp
    rw [z]
    refine ⟨_, (stepG_add_atomic rfl rfl (by k_ne) rfl H.f_addU64 (x_addU64_n L) (x_addU64_b L) (x_addU64_x L) .u64 (x_addU64_f L) rfl rfl hw.cellSt (hw.thaw 0)).trans (by rw [e1]; rfl), ?_⟩
    rw [if_pos ⟨rfl, rfl⟩]
    clear hw z
    walk_nrm
    repeat (first | ((refine Lv.step rfl (fun w st sm hw => ?_); first | rw [stepG_seq] | rw [stepG_skip] | rw [stepG_region_end] | rw [stepG_region] | rw [stepG_block] | rw [stepG_loop] | rw [stepG_inLoop] | rw [stepG_inBlock] | rw [stepG_label] | rw [stepG_ret'] | rw [stepG_end] | rw [stepG_cond (t := true) rfl] | rw [stepG_cond (t := false) rfl] | rw [stepG_unwanted rfl rfl]); simp only [goes_go, if_true, if_false, Bool.false_eq_true, ↓reduceIte, List.size_toArray, List.length_cons, List.length_nil, Nat.reduceAdd, Nat.zero_add, List.range, List.range.loop]; refine ⟨(by first | rfl | trivial), (by simp), ?_⟩; (try simp only [deafBehind_nil]); clear hw; try walk_nrm) | ((refine Lv.oper rfl rfl (by k_ne) (fun w st sm hw => by simp [go_sem, *]) (fun w st sm hw K hK => ?_); go_simp; refine hK _ _ ⟨rfl, ?_⟩; clear hK K hw); try w_num) | (((refine Lv.step rfl (fun w st sm hw => ?_)); first | (refine goes_leave1 rfl rfl H.f_uAdd rfl ⟨rfl, by simp, ?_⟩) | (refine goes_leave1 rfl rfl H.f_uLoad rfl ⟨rfl, by simp, ?_⟩) | (refine goes_leave0 rfl rfl H.f_uStore rfl ⟨rfl, by simp, ?_⟩)); simp only [deafBehind_nil]; clear hw; walk_nrm))
    (refine Lv.step rfl (fun w st sm hw => ?_))
    refine goes_call rfl rfl (by k_ne) rfl H.f_uLoad (nm_uLoad L) rfl ⟨rfl, by simp, ?_⟩
    simp only [deafBehind_nil]
    clear hw
    walk_nrmf uLoadFn
    repeat (first | ((refine Lv.step rfl (fun w st sm hw => ?_); first | rw [stepG_seq] | rw [stepG_skip] | rw [stepG_region_end] | rw [stepG_region] | rw [stepG_block] | rw [stepG_loop] | rw [stepG_inLoop] | rw [stepG_inBlock] | rw [stepG_label] | rw [stepG_ret'] | rw [stepG_end] | rw [stepG_cond (t := true) rfl] | rw [stepG_cond (t := false) rfl] | rw [stepG_unwanted rfl rfl]); simp only [goes_go, if_true, if_false, Bool.false_eq_true, ↓reduceIte, List.size_toArray, List.length_cons, List.length_nil, Nat.reduceAdd, Nat.zero_add, List.range, List.range.loop]; refine ⟨(by first | rfl | trivial), (by simp), ?_⟩; (try simp only [deafBehind_nil]); clear hw; try walk_nrm) | ((refine Lv.oper rfl rfl (by k_ne) (fun w st sm hw => by simp [go_sem, *]) (fun w st sm hw K hK => ?_); go_simp; refine hK _ _ ⟨rfl, ?_⟩; clear hK K hw); try w_num) | ((refine Lv.step rfl (fun w st sm hw => ?_)); rw [stepG_defer rfl rfl (by k_ne) rfl]; simp only [goes_go]; refine ⟨(by first | rfl | trivial), (by intro e he; simp at he; try (subst he; exact Or.inl rfl)), ?_⟩; (try simp only [deafBehind_nil]); clear hw; try walk_nrm) | ((refine Lv.step rfl (fun w st sm hw => ?_)); rw [stepG_entry_pure (.bool false) rfl rfl (by k_ne) rfl H.f_inBubble (x_inBubble_n L) (x_inBubble_b L) (x_inBubble_x L) (x_inBubble_f L)]; simp only [goes_go]; refine ⟨(by first | rfl | trivial), (by intro e he; simp at he; try (subst he; exact Or.inl rfl)), ?_⟩; (try simp only [deafBehind_nil]); clear hw; try walk_nrm))
    refine ⟨rfl, .inr ⟨by decide, .inr (.inl ⟨rfl, fun w hw => ⟨_, stepG_load_atomic rfl rfl (by k_ne) rfl H.f_loadU64 (x_loadU64_n L) (x_loadU64_b L) (x_loadU64_x L) .u64 (x_loadU64_f L) rfl hw.cellSt, ?_⟩⟩)⟩⟩
    clear hw
    walk_nrm
    repeat (first | ((refine Lv.step rfl (fun w st sm hw => ?_); first | rw [stepG_seq] | rw [stepG_skip] | rw [stepG_region_end] | rw [stepG_region] | rw [stepG_block] | rw [stepG_loop] | rw [stepG_inLoop] | rw [stepG_inBlock] | rw [stepG_label] | rw [stepG_ret'] | rw [stepG_end] | rw [stepG_cond (t := true) rfl] | rw [stepG_cond (t := false) rfl] | rw [stepG_unwanted rfl rfl]); simp only [goes_go, if_true, if_false, Bool.false_eq_true, ↓reduceIte, List.size_toArray, List.length_cons, List.length_nil, Nat.reduceAdd, Nat.zero_add, List.range, List.range.loop]; refine ⟨(by first | rfl | trivial), (by simp), ?_⟩; (try simp only [deafBehind_nil]); clear hw; try walk_nrm) | ((refine Lv.oper rfl rfl (by k_ne) (fun w st sm hw => by simp [go_sem, *]) (fun w st sm hw K hK => ?_); go_simp; refine hK _ _ ⟨rfl, ?_⟩; clear hK K hw); try w_num) | (((refine Lv.step rfl (fun w st sm hw => ?_)); first | (refine goes_leave1 rfl rfl H.f_uAdd rfl ⟨rfl, by simp, ?_⟩) | (refine goes_leave1 rfl rfl H.f_uLoad rfl ⟨rfl, by simp, ?_⟩) | (refine goes_leave0 rfl rfl H.f_uStore rfl ⟨rfl, by simp, ?_⟩)); simp only [deafBehind_nil]; clear hw; walk_nrm))
    (refine Lv.step rfl (fun w st sm hw => ?_))
    refine goes_call rfl rfl (by k_ne) rfl H.f_uStore (nm_uStore L) rfl ⟨rfl, by simp, ?_⟩
    simp only [deafBehind_nil]
    clear hw
    walk_nrmf uStoreFn
    repeat (first | ((refine Lv.step rfl (fun w st sm hw => ?_); first | rw [stepG_seq] | rw [stepG_skip] | rw [stepG_region_end] | rw [stepG_region] | rw [stepG_block] | rw [stepG_loop] | rw [stepG_inLoop] | rw [stepG_inBlock] | rw [stepG_label] | rw [stepG_ret'] | rw [stepG_end] | rw [stepG_cond (t := true) rfl] | rw [stepG_cond (t := false) rfl] | rw [stepG_unwanted rfl rfl]); simp only [goes_go, if_true, if_false, Bool.false_eq_true, ↓reduceIte, List.size_toArray, List.length_cons, List.length_nil, Nat.reduceAdd, Nat.zero_add, List.range, List.range.loop]; refine ⟨(by first | rfl | trivial), (by simp), ?_⟩; (try simp only [deafBehind_nil]); clear hw; try walk_nrm) | ((refine Lv.oper rfl rfl (by k_ne) (fun w st sm hw => by simp [go_sem, *]) (fun w st sm hw K hK => ?_); go_simp; refine hK _ _ ⟨rfl, ?_⟩; clear hK K hw); try w_num) | ((refine Lv.step rfl (fun w st sm hw => ?_)); rw [stepG_defer rfl rfl (by k_ne) rfl]; simp only [goes_go]; refine ⟨(by first | rfl | trivial), (by intro e he; simp at he; try (subst he; exact Or.inl rfl)), ?_⟩; (try simp only [deafBehind_nil]); clear hw; try walk_nrm) | ((refine Lv.step rfl (fun w st sm hw => ?_)); rw [stepG_entry_pure (.bool false) rfl rfl (by k_ne) rfl H.f_inBubble (x_inBubble_n L) (x_inBubble_b L) (x_inBubble_x L) (x_inBubble_f L)]; simp only [goes_go]; refine ⟨(by first | rfl | trivial), (by intro e he; simp at he; try (subst he; exact Or.inl rfl)), ?_⟩; (try simp only [deafBehind_nil]); clear hw; try walk_nrm))
    refine ⟨rfl, .inr ⟨by decide, .inr (.inr (.inl ⟨rfl, fun w hw => ⟨_, stepG_store_atomic rfl rfl (by k_ne) rfl H.f_storeU64 (x_storeU64_n L) (x_storeU64_b L) (x_storeU64_x L) (x_storeU64_f L) rfl rfl hw.cellSt (hw.thaw 0), ?_⟩⟩))⟩⟩
    clear hw
    walk_nrm
    repeat (first | ((refine Lv.step rfl (fun w st sm hw => ?_); first | rw [stepG_seq] | rw [stepG_skip] | rw [stepG_region_end] | rw [stepG_region] | rw [stepG_block] | rw [stepG_loop] | rw [stepG_inLoop] | rw [stepG_inBlock] | rw [stepG_label] | rw [stepG_ret'] | rw [stepG_end] | rw [stepG_cond (t := true) rfl] | rw [stepG_cond (t := false) rfl] | rw [stepG_unwanted rfl rfl]); simp only [goes_go, if_true, if_false, Bool.false_eq_true, ↓reduceIte, List.size_toArray, List.length_cons, List.length_nil, Nat.reduceAdd, Nat.zero_add, List.range, List.range.loop]; refine ⟨(by first | rfl | trivial), (by simp), ?_⟩; (try simp only [deafBehind_nil]); clear hw; try walk_nrm) | ((refine Lv.oper rfl rfl (by k_ne) (fun w st sm hw => by simp [go_sem, *]) (fun w st sm hw K hK => ?_); go_simp; refine hK _ _ ⟨rfl, ?_⟩; clear hK K hw); try w_num) | (((refine Lv.step rfl (fun w st sm hw => ?_)); first | (refine goes_leave1 rfl rfl H.f_uAdd rfl ⟨rfl, by simp, ?_⟩) | (refine goes_leave1 rfl rfl H.f_uLoad rfl ⟨rfl, by simp, ?_⟩) | (refine goes_leave0 rfl rfl H.f_uStore rfl ⟨rfl, by simp, ?_⟩)); simp only [deafBehind_nil]; clear hw; walk_nrm))
    refine ⟨rfl, .inr ⟨by decide, .inr (.inr (.inr ⟨rfl, mayWake_entry rfl rfl H.f_semrelease (x_semrelease_b L), fun w hw => ⟨_, stepG_semrelease rfl rfl (by k_ne) rfl H.f_semrelease (x_semrelease_n L) (x_semrelease_b L) (x_semrelease_x L) (x_semrelease_f L) (ad := smA Wg) (by simp [Act.eval, smA]) hw.cellSm (hw.thaw 1), ?_⟩⟩))⟩⟩
    refine Lv.quits (QuitsD.le (n := qt + 19) ?_ (by omega))
    walk_nrm
    q_c stepG_region_end; q_c stepG_inBlock; q_reg; q_val (.int .u32 1); q_val (.int .u32 0); q_val (.int .u32 0); q_c stepG_region_end; q_c stepG_inLoop; q_c stepG_seq; q_c stepG_seq; q_reg; q_val (.int .u32 0); q_val (.bool false); q_c stepG_region_end; q_cond false; q_exit; q_c stepG_end; q_enable; q_leave0 H.f_add; exact hT
  · -- (v > 0, 0)
    replace hw : WgAt L.tWg Wg w (((v : Nat) + 1) * KK + 0) 0 := by simpa using hw
    have z : ((v : Nat) : Int) * KK + ((0 : Nat) : Int) = (v : Int) * KK + 0 := by simp
    rw [z]
    have eS : IntKind.u64.wrap (((v : Nat) + 1) * KK + 0 + 18446744069414584320) = (v : Int) * KK + 0 := by rw [IntKind.wrap_u64]; simp only [KK]; omega
    obtain ⟨S, hS⟩ : ∃ S : Int, S = (v : Int) * KK + 0 := ⟨_, rfl⟩
    rw [← hS] at eS ⊢
    have a1 : S / 4294967296 = (v : Int) := by rw [hS]; simp only [KK]; omega
    have a2 : 0 ≤ S ∧ S < 9223372036854775808 := by rw [hS]; simp only [KK]; omega
    have b1 : bits .and .u64 S 2147483648 = 0 := by rw [hS]; have := Go.ConcN.st_flag v 0 (by omega) (by omega); simpa [KK] using this
    have b2 : bits .and .u64 S 2147483647 = 0 := by rw [hS]; have := Go.ConcN.st_waiters v 0 (by omega) (by omega); simpa [KK] using this
    clear hS z
    refine ⟨_, (stepG_add_atomic rfl rfl (by k_ne) rfl H.f_addU64 (x_addU64_n L) (x_addU64_b L) (x_addU64_x L) .u64 (x_addU64_f L) rfl rfl hw.cellSt (hw.thaw 0)).trans (by rw [eS]; rfl), ?_⟩
    rw [if_neg (by omega)]
    refine Lv.quits (QuitsD.le (n := qt + 89) ?_ (by omega))
    clear hw
    walk_nrm
    q_vn (.int .u64 S); q_c stepG_region_end; q_c stepG_ret'; q_leave1 H.f_uAdd; q_vn (.int .u64 S); q_c stepG_region_end; q_c stepG_seq; q_c stepG_seq; q_reg; q_vn (.int .u64 S); q_vn (.int .u64 0); q_vn (.bool false); q_vn (.bool false); q_skip; q_skip; q_vn (.bool false); q_c stepG_region_end; q_cond false; q_c stepG_skip; q_c stepG_seq; q_reg; q_vn (.int .u64 S); q_vn (.int .u64 (v : Int)); q_vn (.int .i32 (v : Int)); q_vn (.int .i32 (v : Int)); q_c stepG_region_end; q_c stepG_seq; q_reg; q_vn (.int .u64 S); q_vn (.int .u64 0); q_vn (.int .u32 0); q_vn (.int .u32 0); q_c stepG_region_end; q_c stepG_seq; q_c stepG_seq; q_reg; q_vn (.bool true); q_vn (.int .i64 (-1)); q_vn (.bool false); q_vn (.bool false); q_vn (.bool false); q_skip; q_skip; q_skip; q_skip; q_vn (.bool false); q_c stepG_region_end; q_cond false; q_c stepG_skip; q_c stepG_seq; q_c stepG_seq; q_reg; q_vn (.int .i32 (v : Int)); q_vn (.bool false); q_c stepG_region_end; q_cond false; q_c stepG_skip; q_c stepG_seq; q_c stepG_seq; q_reg; q_vn (.int .u32 0); q_vn (.bool false); q_vn (.bool false); q_skip; q_skip; q_vn (.bool false); q_vn (.bool false); q_skip; q_skip; q_skip; q_skip; q_vn (.bool false); q_c stepG_region_end; q_cond false; q_c stepG_skip; q_c stepG_seq; q_c stepG_seq; q_reg; q_vn (.int .i32 (v : Int)); q_vn (.bool true); q_vn (.bool true); q_skip; q_skip; q_vn (.bool true); q_c stepG_region_end; q_cond true; q_c stepG_ret'; q_enable; q_leave0 H.f_add; exact hT
  · -- (v > 0, 1)
    replace hw : WgAt L.tWg Wg w (((v : Nat) + 1) * KK + 1) 0 := by simpa using hw
    have z : ((v : Nat) : Int) * KK + ((1 : Nat) : Int) = (v : Int) * KK + 1 := by simp
    rw [z]
    have eS : IntKind.u64.wrap (((v : Nat) + 1) * KK + 1 + 18446744069414584320) = (v : Int) * KK + 1 := by rw [IntKind.wrap_u64]; simp only [KK]; omega
    obtain ⟨S, hS⟩ : ∃ S : Int, S = (v : Int) * KK + 1 := ⟨_, rfl⟩
    rw [← hS] at eS ⊢
    have a1 : S / 4294967296 = (v : Int) := by rw [hS]; simp only [KK]; omega
    have a2 : 0 ≤ S ∧ S < 9223372036854775808 := by rw [hS]; simp only [KK]; omega
    have b1 : bits .and .u64 S 2147483648 = 0 := by rw [hS]; have := Go.ConcN.st_flag v 1 (by omega) (by omega); simpa [KK] using this
    have b2 : bits .and .u64 S 2147483647 = 1 := by rw [hS]; have := Go.ConcN.st_waiters v 1 (by omega) (by omega); simpa [KK] using this
    clear hS z
    refine ⟨_, (stepG_add_atomic rfl rfl (by k_ne) rfl H.f_addU64 (x_addU64_n L) (x_addU64_b L) (x_addU64_x L) .u64 (x_addU64_f L) rfl rfl hw.cellSt (hw.thaw 0)).trans (by rw [eS]; rfl), ?_⟩
    rw [if_neg (by omega)]
    refine Lv.quits (QuitsD.le (n := qt + 89) ?_ (by omega))
    clear hw
    walk_nrm
    q_vn (.int .u64 S); q_c stepG_region_end; q_c stepG_ret'; q_leave1 H.f_uAdd; q_vn (.int .u64 S); q_c stepG_region_end; q_c stepG_seq; q_c stepG_seq; q_reg; q_vn (.int .u64 S); q_vn (.int .u64 0); q_vn (.bool false); q_vn (.bool false); q_skip; q_skip; q_vn (.bool false); q_c stepG_region_end; q_cond false; q_c stepG_skip; q_c stepG_seq; q_reg; q_vn (.int .u64 S); q_vn (.int .u64 (v : Int)); q_vn (.int .i32 (v : Int)); q_vn (.int .i32 (v : Int)); q_c stepG_region_end; q_c stepG_seq; q_reg; q_vn (.int .u64 S); q_vn (.int .u64 1); q_vn (.int .u32 1); q_vn (.int .u32 1); q_c stepG_region_end; q_c stepG_seq; q_c stepG_seq; q_reg; q_vn (.bool true); q_vn (.int .i64 (-1)); q_vn (.bool false); q_vn (.bool false); q_vn (.bool false); q_skip; q_skip; q_skip; q_skip; q_vn (.bool false); q_c stepG_region_end; q_cond false; q_c stepG_skip; q_c stepG_seq; q_c stepG_seq; q_reg; q_vn (.int .i32 (v : Int)); q_vn (.bool false); q_c stepG_region_end; q_cond false; q_c stepG_skip; q_c stepG_seq; q_c stepG_seq; q_reg; q_vn (.int .u32 1); q_vn (.bool true); q_vn (.bool true); q_vn (.int .i64 (-1)); q_vn (.bool false); q_vn (.bool false); q_vn (.bool false); q_skip; q_skip; q_skip; q_skip; q_vn (.bool false); q_c stepG_region_end; q_cond false; q_c stepG_skip; q_c stepG_seq; q_c stepG_seq; q_reg; q_vn (.int .i32 (v : Int)); q_vn (.bool true); q_vn (.bool true); q_skip; q_skip; q_vn (.bool true); q_c stepG_region_end; q_cond true; q_c stepG_ret'; q_enable; q_leave0 H.f_add; exact hT
end
end Go.Proofs.Ytdedmmjmiakidaa
/- Plain words: sync.WaitGroup's Done as a deferred call. Asked: the program holds the library's functions (WgLib). -/
namespace Go.Proofs.Ytdedmmjmiakidaa
open Go.Conc Go.RowKit Go.Conc.Lib Go.ConcR.Gen Go.ConcN.Gen
open Go.ConcR (KK wgBlock WgAt stA smA rd wr mk)
section
variable {L : WgLink} {P : Program} {Wg : Nat}

set_option maxRecDepth 100000 in
set_option maxHeartbeats 4000000 in
theorem lv_done (H : WgLib P L) {c : Frame} {cs : List Frame} {qt : Nat} (hcm : c.mode = .returning) (hT : QuitsD P qt 0 (G c cs)) :
    Lv P L.tWg Wg (qt + 310) 0 4 (G ((baseD L.done).at ⟨#[.pointer (some ⟨Wg, 0, none⟩), undef, undef, undef], []⟩ [.code (body_done L)]) (c :: cs)) := by
  lib_facts
  have hA := @lv_add L P Wg H
  simp only [body_done, body_add, doneFn, addFn, Option.getD_some] at hA ⊢
  repeat (first | ((refine Lv.step rfl (fun w st sm hw => ?_); first | rw [stepG_seq] | rw [stepG_skip] | rw [stepG_region_end] | rw [stepG_region] | rw [stepG_block] | rw [stepG_loop] | rw [stepG_inLoop] | rw [stepG_inBlock] | rw [stepG_label] | rw [stepG_ret'] | rw [stepG_end] | rw [stepG_cond (t := true) rfl] | rw [stepG_cond (t := false) rfl] | rw [stepG_unwanted rfl rfl]); simp only [goes_go, if_true, if_false, Bool.false_eq_true, ↓reduceIte, List.size_toArray, List.length_cons, List.length_nil, Nat.reduceAdd, Nat.zero_add, List.range, List.range.loop]; refine ⟨(by first | rfl | trivial), (by simp), ?_⟩; (try simp only [deafBehind_nil]); clear hw; try walk_nrm) | ((refine Lv.oper rfl rfl (by k_ne) (fun w st sm hw => by simp [go_sem, *]) (fun w st sm hw K hK => ?_); go_simp; refine hK _ _ ⟨rfl, ?_⟩; clear hK K hw); try w_num) | ((refine Lv.step rfl (fun w st sm hw => ?_)); rw [stepG_defer rfl rfl (by k_ne) rfl]; simp only [goes_go]; refine ⟨(by first | rfl | trivial), (by intro e he; simp at he; try (subst he; exact Or.inl rfl)), ?_⟩; (try simp only [deafBehind_nil]); clear hw; try walk_nrm) | ((refine Lv.step rfl (fun w st sm hw => ?_)); rw [stepG_entry_pure (.bool false) rfl rfl (by k_ne) rfl H.f_inBubble (x_inBubble_n L) (x_inBubble_b L) (x_inBubble_x L) (x_inBubble_f L)]; simp only [goes_go]; refine ⟨(by first | rfl | trivial), (by intro e he; simp at he; try (subst he; exact Or.inl rfl)), ?_⟩; (try simp only [deafBehind_nil]); clear hw; try walk_nrm))
  (refine Lv.step rfl (fun w st sm hw => ?_))
  refine goes_call rfl rfl (by k_ne) rfl H.f_add (nm_add L) rfl ⟨rfl, by simp, ?_⟩
  simp only [deafBehind_nil]
  clear hw
  walk_nrmf addFn
  have e : ∀ t : Array Value, t = #[.pointer (some ⟨Wg, 0, none⟩), .int .i64 (-1)] ++ Array.replicate 115 undef → ∀ (b₀ : Frame) (a₀ : Act) (ops₀ : Array Oper) (i₀ : Nat) (rest₀ : List Nat) (k₀ : List Item) (cs : List Frame) (q : Nat), QuitsD P q 0 (G (b₀.at (a₀.put ((ops₀[i₀]?).bind (·.dst)) (.tuple #[])) (.inRegion ops₀ rest₀ :: k₀)) cs) →
      Lv P L.tWg Wg (q + 300) 0 4 (G ((base L.add).at ⟨t, []⟩ [.code (body_add L)]) (b₀.at a₀ (.inRegion ops₀ (i₀ :: rest₀) :: k₀) :: cs)) := by
    intro t ht b₀ a₀ ops₀ i₀ rest₀ k₀ cs q hq
    subst ht
    exact lv_add H hq
  simp only [body_add, addFn, Option.getD_some] at e
  refine e _ ?_ _ _ _ _ _ _ _ (qt + 7) (QuitsD.le (n := qt + 3) ?_ (by omega))
  · apply Array.ext'
    simp only [Array.toList_append, Array.toList_replicate, List.replicate_succ, List.replicate_zero, List.cons_append, List.nil_append]
  walk_nrm
  q_c stepG_region_end
  q_c stepG_end
  exact QuitsD.leaveD rfl rfl H.f_done rfl hcm hT
end
end Go.Proofs.Ytdedmmjmiakidaa
/- Plain words: a thread of a play from its birth to its end. No condition. -/
namespace Go.Proofs.Ytdedmmjmiakidaa
open Go.Conc Go.RowKit Go.Conc.Lib Go.ConcR.Gen
open Go.ConcR (KK wgBlock WgAt stA smA rd wr mk)
section
variable {E : Env} {n : E.ι} {w : World} {b : Frame} {a : Act} {k : List Item} {cs : List Frame} {ops : Array Oper} {i : Nat} {l : List Nat} {o : Oper}
theorem goI_pure (O : E.Ok) (ho : ops[i]? = some o) (hw : Region.wanted o (yielded ops a.tmps) = true) (hke : b.kind ≠ .early) (he : ∀ w₁, (execOp a.eval o).events E.P w₁ #[] = #[])
    (h : ∀ w₁, ∀ K' : Act → Prop, (∀ a', E.Go n (G (b.at a' (.inRegion ops l :: k)) cs) w → K' a') → uponK o a (fun a' w' => w' = w₁ ∧ K' a') ((execOp a.eval o).run E.P w₁)) : E.Go n (G (b.at a (.inRegion ops (i :: l) :: k)) cs) w := by
  refine GoesI.one rfl fun w₁ hr => ?_
  have hl : Go.Conc.listed E.P b.fn a o w₁ = #[] := by unfold Go.Conc.listed; rw [he w₁, seen_none]
  have hg : (stepG E.P E.main (G (b.at a (.inRegion ops (i :: l) :: k)) cs) w₁).goes fun g' w' ev => E.D n w₁ w' ev ∧ E.Go n g' w' := by
    refine goes_oper_k ho hw hke fun K' hK => ?_
    have := h w₁ (fun a' => E.Go n (G (b.at a' (.inRegion ops l :: k)) cs) w) fun a' x => x
    revert this
    cases (execOp a.eval o).run E.P w₁ with
    | ok x w' =>
      cases x with
      | value v => rintro ⟨rfl, hc⟩; exact hK _ _ ⟨by rw [hl]; exact O.still _ _, GoesI.rely O.rtrans hc hr⟩
      | skip => rintro ⟨rfl, hc⟩; exact hK _ _ ⟨by rw [hl]; exact O.still _ _, GoesI.rely O.rtrans hc hr⟩
      | _ => exact id
    | halt x w' => exact id
  cases hs : stepG E.P E.main (G (b.at a (.inRegion ops (i :: l) :: k)) cs) w₁ with
  | go g' w' ev => rw [hs] at hg; exact ⟨g', w', ev, rfl, hg.1, hg.2⟩
  | _ => rw [hs] at hg; exact hg.elim
/-- A read of one cell. -/
theorem goI_read (O : E.Ok) {ad : Addr} {v : Value} (ho : ops[i]? = some o) (hw : Region.wanted o (yielded ops a.tmps) = true) (hke : b.kind ≠ .early) (he : ∀ w₁, E.R w w₁ → (execOp a.eval o).events E.P w₁ #[] = #[⟨.cell ad, false, false⟩]) (hr : ∀ w₁, E.R w w₁ → (execOp a.eval o).run E.P w₁ = .ok (.value v) w₁)
    (hd : ∀ w₁, E.R w w₁ → E.D n w₁ w₁ #[⟨.cell ad, false, false⟩]) (h : E.Go n (G (b.at (a.put o.dst v) (.inRegion ops l :: k)) cs) w) : E.Go n (G (b.at a (.inRegion ops (i :: l) :: k)) cs) w := by
  refine GoesI.one rfl fun w₁ hR => ⟨_, _, _, stepG_value ho hw hke (hr w₁ hR), ?_, GoesI.rely O.rtrans h hR⟩
  refine O.sub _ _ _ _ _ (hd w₁ hR) fun e hel => ?_
  have : e ∈ (execOp a.eval o).events E.P w₁ #[] := seen_sub _ _ _ e hel
  rw [he w₁ hR] at this
  exact this
end
/-- The frame under a goroutine's first call. -/
noncomputable def frame0 : Frame := { (default : Frame) with fn := Try.prog.funcs.size, defers := [], mode := .panicking [goexitEntry] }
theorem run_callF {f : FuncId} {fn : Func} {c : Code} (hf : Try.prog.funcs[f]? = some fn) (hn : (fn.name == "runtime.NumGoroutine") = false) (hb : fn.body = some c) (args : Array Value) (w : World) : Sem.run Try.prog (callFunc f args) w = .ok (.enter f args) w := by
  have h1 : ¬ fn.name = "runtime.NumGoroutine" := by simpa using hn
  unfold callFunc
  simp only [program, bind, Sem.bind, Sem.run, hf, Sem.runT]
  simp [h1, hb]
theorem ev_callF {f : FuncId} {fn : Func} {c : Code} (hf : Try.prog.funcs[f]? = some fn) (hn : (fn.name == "runtime.NumGoroutine") = false) (hb : fn.body = some c) (args : Array Value) (w : World) (es : Array Event) : Sem.events Try.prog (callFunc f args) w es = es := by
  have h1 : ¬ fn.name = "runtime.NumGoroutine" := by simpa using hn
  unfold callFunc
  simp only [program, bind, Sem.bind, Sem.events, hf, Sem.runT]
  simp [h1, hb]
section
variable {X : Spec} {Wg : Nat} {Sh : Loc → Prop} {s : SV} {θ : Tab}
theorem dh_read {ad : Addr} {w : World} (hS : ¬ Sh (.cell ad)) (hsz : ad.block < w.heap.size) : DH Wg Sh (KT θ) (StT θ) (isCh θ) w w #[⟨.cell ad, false, false⟩] := by
  refine ⟨fun _ _ _ h => h, rfl, id, Nat.le_refl _, fun e he => ?_⟩
  simp only [List.mem_toArray, List.mem_cons, List.not_mem_nil, or_false] at he
  subst he
  refine ⟨fun x hx => ?_, by simp, by simp, hsz⟩
  simp [MemAct.ofEvent, MemAct.touch?] at hx
  subst hx
  exact ⟨fun _ => rfl, fun h => absurd h hS⟩
theorem size_of_cell {w : World} {ad : Addr} {v : Value} (h : w.cell? ad = some v) : ad.block < w.heap.size := by
  unfold World.cell? at h
  by_cases hb : ad.block < w.heap.size
  · exact hb
  · rw [Array.getElem?_eq_none (by omega)] at h
    simp at h
/-- A read of a cell that stands by itself. -/
theorem rwg_cell {w w₁ : World} {ad : Addr} {v : Value} (hn : ad.block ≠ Wg) (h : w.cell? ad = some v) (hR : RWg tWg Wg w w₁) : w₁.cell? ad = some v := by
  unfold World.cell? at *
  rw [hR.block _ hn]
  exact h
/-- The goroutine's call has ended, its only frame with it. -/
theorem stepG_leave_born {P : Program} {b : Frame} {a : Act} {todo : List Item} {fn : Func} {ds : List Deferred} (hn : b.kind = .deferred) (hd : a.defers = []) (hf : P.funcs[b.fn]? = some fn) (hr : fn.results = #[]) (w : World) :
    stepG P false (G { b.at a todo with mode := .returning } [{ (default : Frame) with fn := P.funcs.size, defers := ds, mode := .panicking [goexitEntry] }]) w = .go (G { (default : Frame) with fn := P.funcs.size, defers := ds, mode := .panicking [goexitEntry] } []) w #[] := by
  have h1 := results_none hr a.tmps P w
  have h2 : Sem.events P (results fn a.tmps) w #[] = #[] := events_results_none hr _ _
  simp [G, stepG, unwind, doReturn, Frame.at, hn, hd, hf, h1, h2, seen, GStep.after, goexitEntry]
theorem stepG_end_born {P : Program} (w : World) :
    stepG P false (G { (default : Frame) with fn := P.funcs.size, defers := [], mode := .panicking [goexitEntry] } []) w = .go { frame := { (default : Frame) with fn := P.funcs.size, defers := [], mode := .panicking [goexitEntry] }, callers := [], status := .finished, dying := none } w #[] := by
  simp [G, stepG, unwind, Frame.catches, goexitEntry]
  rfl
/-- recover, where nobody panics. -/
theorem stepG_recover {P : Program} {main : Bool} {b c : Frame} {a : Act} {k : List Item} {cs : List Frame} {ops : Array Oper} {i : Nat} {rest : List Nat} {o : Oper} {w : World} (ho : ops[i]? = some o) (hw : Region.wanted o (yielded ops a.tmps) = true) (hk : b.kind = .deferred) (hro : b.roundOf = none)
    (hc : c.mode = .returning) (hr : (execOp a.eval o).run P w = .ok .recover w) (he : (execOp a.eval o).events P w #[] = #[]) :
    stepG P main (G (b.at a (.inRegion ops (i :: rest) :: k)) (c :: cs)) w = .go (G (b.at (a.put o.dst .nilIface) (.inRegion ops rest :: k)) (c :: cs)) w #[] := by
  have hfin : (b.at a (.inRegion ops (i :: rest) :: k)).finish .nilIface = b.at (a.put o.dst .nilIface) (.inRegion ops rest :: k) := by rw [Frame.finish_at, ho]; rfl
  rw [stepG_oper ho hw, ← hfin]
  simp [stepG.apply, hr, he, G, Frame.at, hk, hro, tryRecover, hc, GStep.after, seen_none]
theorem goI_pureT {n : Nat × X.Due × Tab} {w : World} {b : Frame} {a : Act} {k : List Item} {cs : List Frame} {ops : Array Oper} {i : Nat} {l : List Nat} {o : Oper} (ho : ops[i]? = some o) (hw : Region.wanted o (yielded ops a.tmps) = true) (hke : b.kind ≠ .early) (he : ∀ w₁, (execOp a.eval o).events Try.prog w₁ #[] = #[])
    (h : ∀ w₁, ∀ K' : Act → Prop, (∀ a', (envT X Wg Sh s).Go n (G (b.at a' (.inRegion ops l :: k)) cs) w → K' a') → uponK o a (fun a' w' => w' = w₁ ∧ K' a') ((execOp a.eval o).run Try.prog w₁)) : (envT X Wg Sh s).Go n (G (b.at a (.inRegion ops (i :: l) :: k)) cs) w :=
  goI_pure (envT_ok X Wg Sh s) ho hw hke he h
theorem goI_enterT {n : Nat × X.Due × Tab} {w : World} {b : Frame} {a : Act} {k : List Item} {cs : List Frame} {ops : Array Oper} {i : Nat} {l : List Nat} {o : Oper} {f : FuncId} {args : Array Value} {Q : Nat × X.Due × Tab → Value → World → Prop}
    (ho : ops[i]? = some o) (hw : Region.wanted o (yielded ops a.tmps) = true) (hke : b.kind ≠ .early) (he : ∀ w₁, (execOp a.eval o).events Try.prog w₁ #[] = #[]) (hr : ∀ w₁, (execOp a.eval o).run Try.prog w₁ = .ok (.enter f args) w₁)
    (hc : cpsC (envT X Wg Sh s) f args Q n w) (h : ∀ n' v w', Q n' v w' → (envT X Wg Sh s).Go n' (G (b.at (a.put o.dst v) (.inRegion ops l :: k)) cs) w') : (envT X Wg Sh s).Go n (G (b.at a (.inRegion ops (i :: l) :: k)) cs) w := by
  refine (envT_ok X Wg Sh s).step1 rfl (fun v => ?_) (hc (b.at a (.inRegion ops (i :: l) :: k)) cs trivial fun n' hn v w' q => ?_)
  · show stepG Try.prog false _ v = _
    rw [stepG_enter ho hw hke (hr v)]
    unfold Go.Conc.listed
    rw [he v, seen_none]
    rfl
  · rw [Frame.finish_at, ho]
    exact h n' v w' q
theorem neq_ev (w : World) : Sem.events Try.prog (binOp .neq 20 .nilIface .nilIface) w #[] = #[] := by kernel_rfl
theorem mi_ev (a : Addr) (w : World) : Sem.events Try.prog (Instr.makeInterface tSeatP (.pointer (some a))) w #[] = #[] := by kernel_rfl
/-- What a thread's text leads to. -/
def ThrPost (X : Spec) (Wg : Nat) (Sh : Loc → Prop) (s : SV) (n' : Nat × X.Due × Tab) (v : Value) (w' : World) : Prop :=
  v = .tuple #[] ∧ ∃ n2 E' σ θ', n' = (n2, E', θ') ∧ E' (σ, none) ∧ s ∈ θ' ∧ Off Wg θ' ∧ ShOk Sh Wg θ' ∧ Wd Wg θ' w' ∧ RepT X Wg θ' σ w'
set_option maxRecDepth 100000 in
set_option maxHeartbeats 4000000 in
theorem child_c (hs : s ∈ θ) (ho : Off Wg θ) (hSh : ShOk Sh Wg θ) {bw bt : Nat} {f : FuncId} {fn : Func} {c : Code} {caps : Array Value} {n : Nat} {E : X.Due} {w : World} (hw : Wd Wg θ w)
    (hff : Try.prog.funcs[f]? = some fn) (hnm : (fn.name == "runtime.NumGoroutine") = false) (hbd : fn.body = some c)
    (hbw : w.cell? ⟨bw, 0, none⟩ = some (.pointer (some ⟨Wg, 0, none⟩))) (hbt : w.cell? ⟨bt, 0, none⟩ = some (.func (.func f) #[] caps)) (hnw : ¬ inF Wg θ bw) (hnt : ¬ inF Wg θ bt)
    (hthr : cpsC (envT X Wg Sh s) f (#[seatGate s] ++ caps) (ThrPost X Wg Sh s) (n, E, θ) w) :
    (envT X Wg Sh s).Go (n, E, θ) (G ((baseD 95).at ⟨#[.pointer (some ⟨bw, 0, none⟩), .pointer (some ⟨bt, 0, none⟩), .pointer (some ⟨s.box, 0, none⟩)] ++ Array.replicate 18 undef, []⟩ [.code ((Try.f95).body.getD .skip)]) [frame0]) w := by
  have O := envT_ok X Wg Sh s
  have hke : (baseD 95).kind ≠ .early := by simp [baseD]
  have hbW : bw ≠ Wg := fun e => hnw (.inl e)
  have htW : bt ≠ Wg := fun e => hnt (.inl e)
  have hshw : ¬ Sh (.cell ⟨bw, 0, none⟩) := fun h => by obtain ⟨a, e, q, _⟩ := hSh _ h; have e := Loc.cell.inj e; subst e; exact hnw q
  have hsht : ¬ Sh (.cell ⟨bt, 0, none⟩) := fun h => by obtain ⟨a, e, q, _⟩ := hSh _ h; have e := Loc.cell.inj e; subst e; exact hnt q
  walk_nrmf Try.f95
  repeat (first | refine O.step1 rfl (fun _ => stepG_seq) ?_ | refine O.step1 rfl (fun _ => stepG_skip) ?_ | refine O.step1 rfl (fun _ => stepG_region_end) ?_ | refine O.step1 rfl (fun _ => stepG_region) ?_)
  simp only [List.size_toArray, List.length_cons, List.length_nil, Nat.reduceAdd, Nat.zero_add, List.range, List.range.loop]
  refine goI_read O (ad := ⟨bw, 0, none⟩) (v := .pointer (some ⟨Wg, 0, none⟩)) rfl rfl hke (fun w₁ hR => ?_) (fun w₁ hR => ?_) (fun w₁ hR => ?_) ?_
  · have hc := rwg_cell hbW hbw hR
    show Sem.events Try.prog _ _ _ = _
    simp [go_sem, hc]
  · have hc := rwg_cell hbW hbw hR
    show Sem.run Try.prog _ _ = _
    go_simp
  · exact dh_read hshw (size_of_cell (rwg_cell hbW hbw hR))
  walk_nrm
  refine O.step1 rfl (fun _ => stepG_defer rfl rfl hke rfl) ?_
  repeat (first | refine O.step1 rfl (fun _ => stepG_seq) ?_ | refine O.step1 rfl (fun _ => stepG_skip) ?_ | refine O.step1 rfl (fun _ => stepG_region_end) ?_ | refine O.step1 rfl (fun _ => stepG_region) ?_)
  simp only [List.size_toArray, List.length_cons, List.length_nil, Nat.reduceAdd, Nat.zero_add, List.range, List.range.loop]
  refine O.step1 rfl (fun _ => stepG_defer rfl rfl hke rfl) ?_
  repeat (first | refine O.step1 rfl (fun _ => stepG_seq) ?_ | refine O.step1 rfl (fun _ => stepG_skip) ?_ | refine O.step1 rfl (fun _ => stepG_region_end) ?_ | refine O.step1 rfl (fun _ => stepG_region) ?_)
  simp only [List.size_toArray, List.length_cons, List.length_nil, Nat.reduceAdd, Nat.zero_add, List.range, List.range.loop]
  refine goI_read O (ad := ⟨bt, 0, none⟩) (v := .func (.func f) #[] caps) rfl rfl hke (fun w₁ hR => ?_) (fun w₁ hR => ?_) (fun w₁ hR => ?_) ?_
  · have hc := rwg_cell htW hbt hR
    show Sem.events Try.prog _ _ _ = _
    simp [go_sem, hc]
  · have hc := rwg_cell htW hbt hR
    show Sem.run Try.prog _ _ = _
    go_simp
  · exact dh_read hsht (size_of_cell (rwg_cell htW hbt hR))
  walk_nrm
  have hbox : ∀ {θ' : Tab} {w₁ : World}, s ∈ θ' → KT θ' w₁ → w₁.cell? ⟨s.box, 0, none⟩ = some (.pointer (some ⟨s.blk, 0, none⟩)) := fun hs' hk => by
    have := (hk s hs').2
    simp [World.cell?, this]
  have hshs : ∀ {θ' : Tab}, s ∈ θ' → ShOk Sh Wg θ' → ∀ ad : Addr, ad.block = s.blk ∨ ad.block = s.box → ¬ Sh (.cell ad) := fun hs' hS ad had h => by
    obtain ⟨a, e, _, hne⟩ := hS _ h
    have e := Loc.cell.inj e
    subst e
    rcases had with h | h
    · exact (hne s hs').1 h
    · exact (hne s hs').2 h
  refine goI_read O (ad := ⟨s.box, 0, none⟩) (v := .pointer (some ⟨s.blk, 0, none⟩)) rfl rfl hke (fun w₁ hR => ?_) (fun w₁ hR => ?_) (fun w₁ hR => ?_) ?_
  · have hc := hbox hs ((rwg_kr ho hR).kt hw.kt)
    show Sem.events Try.prog _ _ _ = _
    simp [go_sem, hc]
  · have hc := hbox hs ((rwg_kr ho hR).kt hw.kt)
    show Sem.run Try.prog _ _ = _
    go_simp
  · exact dh_read (hshs hs hSh _ (.inr rfl)) (size_of_cell (hbox hs ((rwg_kr ho hR).kt hw.kt)))
  walk_nrm
  have hmi := mi_ev ⟨s.blk, 0, none⟩
  (refine goI_pureT rfl rfl hke (fun _ => by simp [go_sem, *]) (fun w₁ K hK => ?_); go_simp; (first | refine ⟨rfl, hK _ ?_⟩ | refine hK _ ?_); clear hK K w₁; try walk_nrm)
  refine goI_enterT rfl rfl hke (fun v => ?_) (fun v => ?_) hthr fun n' v w' q => ?_
  · simp [go_sem, execOp, Act.eval, ev_callF hff hnm hbd]
  · simp [go_sem, execOp, Act.eval, run_callF hff hnm hbd, seatGate]
  obtain ⟨rfl, n2, E', σ, θ', rfl, hE', hs', ho', hSh', hw', hr'⟩ := q
  walk_nrm
  clear hthr hbd hff hnm hshw hsht hbt hbw hbW htW hw hnw hnt
  repeat (first | refine O.step1 rfl (fun _ => stepG_seq) ?_ | refine O.step1 rfl (fun _ => stepG_skip) ?_ | refine O.step1 rfl (fun _ => stepG_region_end) ?_ | refine O.step1 rfl (fun _ => stepG_region) ?_)
  simp only [List.size_toArray, List.length_cons, List.length_nil, Nat.reduceAdd, Nat.zero_add, List.range, List.range.loop]
  -- the last select's operands
  refine goI_read O (ad := ⟨s.box, 0, none⟩) (v := .pointer (some ⟨s.blk, 0, none⟩)) rfl rfl hke (fun w₁ hR => by have hc := hbox hs' ((rwg_kr ho' hR).kt hw'.kt); show Sem.events Try.prog _ _ _ = _; simp [go_sem, hc]) (fun w₁ hR => by have hc := hbox hs' ((rwg_kr ho' hR).kt hw'.kt); show Sem.run Try.prog _ _ = _; go_simp) (fun w₁ hR => dh_read (hshs hs' hSh' _ (.inr rfl)) (size_of_cell (hbox hs' ((rwg_kr ho' hR).kt hw'.kt)))) ?_; walk_nrm
  (refine goI_pureT rfl rfl hke (fun _ => by simp [go_sem, *]) (fun w₁ K hK => ?_); go_simp; (first | refine ⟨rfl, hK _ ?_⟩ | refine hK _ ?_); clear hK K w₁; try walk_nrm)
  (refine goI_pureT rfl rfl hke (fun _ => by simp [go_sem, *]) (fun w₁ K hK => ?_); go_simp; (first | refine ⟨rfl, hK _ ?_⟩ | refine hK _ ?_); clear hK K w₁; try walk_nrm)
  have hsc : ∀ {w₁ : World}, KT θ' w₁ → w₁.cell? ⟨s.blk, 2, none⟩ = some (.chan (some s.says)) := fun hk => (KT.cell hs' hk).2.2
  refine goI_read O (ad := ⟨s.blk, 2, none⟩) (v := .chan (some s.says)) rfl rfl hke (fun w₁ hR => by have hc := hsc ((rwg_kr ho' hR).kt hw'.kt); show Sem.events Try.prog _ _ _ = _; simp [go_sem, hc]) (fun w₁ hR => by have hc := hsc ((rwg_kr ho' hR).kt hw'.kt); show Sem.run Try.prog _ _ = _; go_simp) (fun w₁ hR => dh_read (hshs hs' hSh' _ (.inl rfl)) (size_of_cell (hsc ((rwg_kr ho' hR).kt hw'.kt)))) ?_; walk_nrm
  repeat (first | refine O.step1 rfl (fun _ => stepG_seq) ?_ | refine O.step1 rfl (fun _ => stepG_skip) ?_ | refine O.step1 rfl (fun _ => stepG_region_end) ?_ | refine O.step1 rfl (fun _ => stepG_region) ?_)
  simp only [List.size_toArray, List.length_cons, List.length_nil, Nat.reduceAdd, Nat.zero_add, List.range, List.range.loop]
  (refine goI_pureT rfl rfl hke (fun _ => by simp [go_sem, *]) (fun w₁ K hK => ?_); go_simp; (first | refine ⟨rfl, hK _ ?_⟩ | refine hK _ ?_); clear hK K w₁; try walk_nrm)
  repeat (first | refine O.step1 rfl (fun _ => stepG_seq) ?_ | refine O.step1 rfl (fun _ => stepG_skip) ?_ | refine O.step1 rfl (fun _ => stepG_region_end) ?_ | refine O.step1 rfl (fun _ => stepG_region) ?_)
  simp only [List.size_toArray, List.length_cons, List.length_nil, Nat.reduceAdd, Nat.zero_add, List.range, List.range.loop]
  refine goI_read O (ad := ⟨s.box, 0, none⟩) (v := .pointer (some ⟨s.blk, 0, none⟩)) rfl rfl hke (fun w₁ hR => by have hc := hbox hs' ((rwg_kr ho' hR).kt hw'.kt); show Sem.events Try.prog _ _ _ = _; simp [go_sem, hc]) (fun w₁ hR => by have hc := hbox hs' ((rwg_kr ho' hR).kt hw'.kt); show Sem.run Try.prog _ _ = _; go_simp) (fun w₁ hR => dh_read (hshs hs' hSh' _ (.inr rfl)) (size_of_cell (hbox hs' ((rwg_kr ho' hR).kt hw'.kt)))) ?_; walk_nrm
  (refine goI_pureT rfl rfl hke (fun _ => by simp [go_sem, *]) (fun w₁ K hK => ?_); go_simp; (first | refine ⟨rfl, hK _ ?_⟩ | refine hK _ ?_); clear hK K w₁; try walk_nrm)
  (refine goI_pureT rfl rfl hke (fun _ => by simp [go_sem, *]) (fun w₁ K hK => ?_); go_simp; (first | refine ⟨rfl, hK _ ?_⟩ | refine hK _ ?_); clear hK K w₁; try walk_nrm)
  clear hsc
  have hsc : ∀ {w₁ : World}, KT θ' w₁ → w₁.cell? ⟨s.blk, 1, none⟩ = some (.chan (some s.stop)) := fun hk => (KT.cell hs' hk).2.1
  refine goI_read O (ad := ⟨s.blk, 1, none⟩) (v := .chan (some s.stop)) rfl rfl hke (fun w₁ hR => by have hc := hsc ((rwg_kr ho' hR).kt hw'.kt); show Sem.events Try.prog _ _ _ = _; simp [go_sem, hc]) (fun w₁ hR => by have hc := hsc ((rwg_kr ho' hR).kt hw'.kt); show Sem.run Try.prog _ _ = _; go_simp) (fun w₁ hR => dh_read (hshs hs' hSh' _ (.inl rfl)) (size_of_cell (hsc ((rwg_kr ho' hR).kt hw'.kt)))) ?_; walk_nrm
  repeat (first | refine O.step1 rfl (fun _ => stepG_seq) ?_ | refine O.step1 rfl (fun _ => stepG_skip) ?_ | refine O.step1 rfl (fun _ => stepG_region_end) ?_ | refine O.step1 rfl (fun _ => stepG_region) ?_)
  simp only [List.size_toArray, List.length_cons, List.length_nil, Nat.reduceAdd, Nat.zero_add, List.range, List.range.loop]
  refine GoesI.stop fun w₃ hR => ?_
  have hR : RWg tWg Wg w' w₃ := hR
  refine ⟨(σ, none), hE', hr'.rwg ho' hw' hR, hw'.kr (rwg_kr ho' hR), ?_⟩
  show ∃ a₂ nh, _ ∧ _
  refine ⟨_, 500, ⟨rfl, fun w₄ hR4 => comm_step rfl rfl hke ?_ ?_⟩, ?_⟩
  · simp [go_sem, execOp, Act.eval, giveCases, scase, rcase, overV, saidZ, unitV]
  · simp [go_sem, execOp]
  · rw [finishComm_at rfl, give_result]
    clear hR
    clear hR hr' hw' hSh' ho' hs' hsc hbox hshs hmi hke hSh ho hs O
    walk_nrm
    repeat (first | ((refine Lv.step rfl (fun w st sm hw => ?_); first | rw [stepG_seq] | rw [stepG_skip] | rw [stepG_region_end] | rw [stepG_region] | rw [stepG_block] | rw [stepG_loop] | rw [stepG_inLoop] | rw [stepG_inBlock] | rw [stepG_label] | rw [stepG_ret'] | rw [stepG_end] | rw [stepG_cond (t := true) rfl] | rw [stepG_cond (t := false) rfl] | rw [stepG_unwanted rfl rfl]); simp only [goes_go, if_true, if_false, Bool.false_eq_true, ↓reduceIte, List.size_toArray, List.length_cons, List.length_nil, Nat.reduceAdd, Nat.zero_add, List.range, List.range.loop]; refine ⟨(by first | rfl | trivial), (by simp), ?_⟩; (try simp only [deafBehind_nil]); clear hw; try walk_nrm) | ((refine Lv.oper rfl rfl (by simp [baseD]) (fun w st sm hw => by simp [go_sem, *]) (fun w st sm hw K hK => ?_); go_simp; refine hK _ _ ⟨rfl, ?_⟩; clear hK K hw); try w_num))
    (refine Lv.step rfl (fun w st sm hw => ?_))
    rw [stepG_unwind_enter rfl Try.func96 rfl rfl]
    simp only [goes_go]; refine ⟨(by first | rfl | trivial), (by intro e he; simp at he; try (subst he; exact Or.inl rfl)), ?_⟩; (try simp only [deafBehind_nil]); clear hw; try walk_nrm
    walk_nrmf Try.f96
    repeat (first | ((refine Lv.step rfl (fun w st sm hw => ?_); first | rw [stepG_seq] | rw [stepG_skip] | rw [stepG_region_end] | rw [stepG_region] | rw [stepG_block] | rw [stepG_loop] | rw [stepG_inLoop] | rw [stepG_inBlock] | rw [stepG_label] | rw [stepG_ret'] | rw [stepG_end] | rw [stepG_cond (t := true) rfl] | rw [stepG_cond (t := false) rfl] | rw [stepG_unwanted rfl rfl]); simp only [goes_go, if_true, if_false, Bool.false_eq_true, ↓reduceIte, List.size_toArray, List.length_cons, List.length_nil, Nat.reduceAdd, Nat.zero_add, List.range, List.range.loop]; refine ⟨(by first | rfl | trivial), (by simp), ?_⟩; (try simp only [deafBehind_nil]); clear hw; try walk_nrm) | ((refine Lv.oper rfl rfl (by simp [baseD]) (fun w st sm hw => by simp [go_sem, *]) (fun w st sm hw K hK => ?_); go_simp; refine hK _ _ ⟨rfl, ?_⟩; clear hK K hw); try w_num))
    (refine Lv.step rfl (fun w st sm hw => ?_))
    rw [stepG_recover rfl rfl rfl rfl rfl (by simp [go_sem]) (by simp [go_sem])]
    simp only [goes_go]; refine ⟨(by first | rfl | trivial), (by intro e he; simp at he; try (subst he; exact Or.inl rfl)), ?_⟩; (try simp only [deafBehind_nil]); clear hw; try walk_nrm
    have hne := neq_ev
    repeat (first | ((refine Lv.step rfl (fun w st sm hw => ?_); first | rw [stepG_seq] | rw [stepG_skip] | rw [stepG_region_end] | rw [stepG_region] | rw [stepG_block] | rw [stepG_loop] | rw [stepG_inLoop] | rw [stepG_inBlock] | rw [stepG_label] | rw [stepG_ret'] | rw [stepG_end] | rw [stepG_cond (t := true) rfl] | rw [stepG_cond (t := false) rfl] | rw [stepG_unwanted rfl rfl]); simp only [goes_go, if_true, if_false, Bool.false_eq_true, ↓reduceIte, List.size_toArray, List.length_cons, List.length_nil, Nat.reduceAdd, Nat.zero_add, List.range, List.range.loop]; refine ⟨(by first | rfl | trivial), (by simp), ?_⟩; (try simp only [deafBehind_nil]); clear hw; try walk_nrm) | ((refine Lv.oper rfl rfl (by simp [baseD]) (fun w st sm hw => by simp [go_sem, *]) (fun w st sm hw K hK => ?_); go_simp; refine hK _ _ ⟨rfl, ?_⟩; clear hK K hw); try w_num))
    (refine Lv.step rfl (fun w st sm hw => ?_))
    rw [stepG_leave_deferred rfl rfl Try.func96 (results_none rfl _ _ w) (events_results_none rfl _ _) rfl]
    simp only [goes_go]; refine ⟨(by first | rfl | trivial), (by intro e he; simp at he; try (subst he; exact Or.inl rfl)), ?_⟩; (try simp only [deafBehind_nil]); clear hw; try walk_nrm
    (refine Lv.step rfl (fun w st sm hw => ?_))
    rw [stepG_unwind_enter rfl Try.func55 rfl rfl]
    simp only [goes_go]; refine ⟨(by first | rfl | trivial), (by intro e he; simp at he; try (subst he; exact Or.inl rfl)), ?_⟩; (try simp only [deafBehind_nil]); clear hw; try walk_nrm
    exact lv_done wgLib rfl (QuitsD.ctl rfl (fun w => stepG_leave_born rfl rfl Try.func95 rfl w) (QuitsD.ctl rfl (fun w => stepG_end_born w) (.inl ⟨rfl, rfl⟩)))
end
end Go.Proofs.Ytdedmmjmiakidaa
