/- Plain words: main gives a turn and gets it back. No condition. -/
import Derived.Test.YtdedmmjmiakidaaFwAE
import Derived.WalkKit
import Derived.WalkLawsBesides
import Derived.WalkSpells
import Derived.RowKit
import Derived.KernelRfl
import Derived.Deep.Draws
import Derived.Lib.Hide
import Derived.Deep.RegionLaw
import Derived.Deep.RegionWith
import Derived.BigQuiet
import Derived.Deep.QuietTactic
import Derived.LoopTactic
import Derived.Outline
import Derived.Conc.CompanyDraw
import Derived.Maps.AppendAt
set_option linter.unusedVariables false
set_option linter.unusedSimpArgs false
/- Plain words: main gives a turn and gets it back. No condition. -/
namespace Go.Proofs.Ytdedmmjmiakidaa
open Go.Conc Go.RowKit
open Go.ConcN (sumTo upd sumTo_upd upd_ne upd_same)
open Go.ConcR (KK wgBlock WgAt stA smA rd wr mk)
/-- Main, waiting for what a thread says. -/
def mainSeat (s : SV) (home : Goroutine → Prop) : Seat := Seat.one s.says saidZ false home
/-- No channel serves twice. -/
structure MI.Lone {X : Spec} (A : MI X) : Prop where
  own : ∀ s ∈ A.θ, s.turn ≠ s.stop ∧ s.turn ≠ s.says ∧ s.stop ≠ s.says
  two : ∀ (i j : Nat) (p q : SV × Option (X.Pc × Nat)), A.thr[i]? = some p → A.thr[j]? = some q → i ≠ j → ∀ c, (c = p.1.turn ∨ c = p.1.stop ∨ c = p.1.says) → ¬ (c = q.1.turn ∨ c = q.1.stop ∨ c = q.1.says)
  seats : ∀ p ∈ A.thr, p.1 ∈ A.θ
/-- What it says behind a turn. -/
def saidP {X : Spec} : Option X.Pc → Value
  | some pc => saidV (X.mark pc)
  | none => overV
/-- Where main stands behind a turn of goroutine i's. -/
def MI.turned {X : Spec} (A : MI X) (i : Nat) (s : SV) (n : Nat) (p : Option X.Pc) : MI X := { A with thr := A.thr.set i (s, p.map fun pc => (pc, n)) }

section
variable {X : Spec} {W : Machine → Trace → Prop} {Wg : Nat} {A : MI X} {θ : Tab} {w : World}
theorem seat_wf {s : SV} {home : Goroutine → Prop} (h : s.turn ≠ s.stop) : (thrSeat s home).Wf := by
  refine ⟨fun cc hc => ?_, fun k m c z z' h1 h2 => ?_⟩
  · simp only [thrSeat, seatCases, List.mem_toArray, List.mem_cons, List.not_mem_nil, or_false] at hc
    rcases hc with rfl | rfl <;> exact ⟨_, _, rfl⟩
  · have key : ∀ (k : Nat) (c : Nat) (z : Value), (thrSeat s home).cases[k]? = some (rcase c z) → (k = 0 ∧ c = s.turn) ∨ (k = 1 ∧ c = s.stop) := by
      intro k c z h
      rcases k with _ | _ | k
      · simp [thrSeat, seatCases, rcase] at h; exact .inl ⟨rfl, h.1.symm⟩
      · simp [thrSeat, seatCases, rcase] at h; exact .inr ⟨rfl, h.1.symm⟩
      · simp [thrSeat, seatCases] at h
    rcases key _ _ _ h1 with ⟨a, b⟩ | ⟨a, b⟩ <;> rcases key _ _ _ h2 with ⟨a', b'⟩ | ⟨a', b'⟩
    · omega
    · exact absurd (b.symm.trans b') h
    · exact absurd (b'.symm.trans b) h
    · omega
theorem seat_has {s : SV} {home : Goroutine → Prop} {c : Nat} : (thrSeat s home).has c ↔ c = s.turn ∨ c = s.stop := by
  constructor
  · rintro ⟨k, z, h⟩
    rcases k with _ | _ | k
    · simp [thrSeat, seatCases, rcase] at h; exact .inl h.1.symm
    · simp [thrSeat, seatCases, rcase] at h; exact .inr h.1.symm
    · simp [thrSeat, seatCases] at h
  · rintro (rfl | rfl)
    · exact ⟨0, unitV, rfl⟩
    · exact ⟨1, unitV, rfl⟩
theorem main_has {s : SV} {home : Goroutine → Prop} {c : Nat} : (mainSeat s home).has c ↔ c = s.says := Seat.one_has
/-- A channel is used. -/
theorem setChan_same {c : Nat} {k : Nat} {b : Nat} (hb : b ≠ c) : (w.setChan c 0 #[] false k k false).heap[b]? = w.heap[b]? := by
  simp only [World.setChan]
  rw [Array.getElem?_setIfInBounds_ne (fun e => hb e.symm)]
theorem setChan_self {c : Nat} {k k' : Nat} (h : w.heap[c]? = some (.chan 0 #[] false k' k' false)) : (w.setChan c 0 #[] false k k false).heap[c]? = some (.chan 0 #[] false k k false) := by
  simp only [World.setChan]
  rw [Array.getElem?_setIfInBounds_self_of_lt (Array.getElem?_eq_some_iff.1 h).1]
theorem KT.setChan {c k k' : Nat} (h : w.heap[c]? = some (.chan 0 #[] false k' k' false)) (hk : KT θ w) : KT θ (w.setChan c 0 #[] false k k false) := hk.of_keep fun b hb => setChan_same fun e => by
  obtain ⟨s, hs, rfl | rfl⟩ := hb
  · obtain ⟨⟨x, y, z, h1⟩, _⟩ := hk s hs
    rw [e, h] at h1; cases h1
  · have := (hk s hs).2
    rw [e, h] at this; cases this
theorem Wd.setChan {c k k' : Nat} (h : w.heap[c]? = some (.chan 0 #[] false k' k' false)) (hw : Wd Wg θ w) : Wd Wg θ (w.setChan c 0 #[] false k k false) := by
  refine ⟨hw.kt.setChan h, ?_, fun b hb => ?_, ?_⟩
  · obtain ⟨st, sm, h1⟩ := hw.wg
    refine ⟨st, sm, ?_⟩
    unfold WgAt at *
    rw [setChan_same fun e => by rw [e, h] at h1; cases h1]
    exact h1
  · by_cases e : b = c
    · subst e; exact ⟨k, setChan_self h⟩
    · rw [setChan_same e]; exact hw.ch b hb
  · refine hw.lt.of_keep fun b hb => setChan_same fun e => ?_
    obtain ⟨s, hs, rfl | rfl⟩ := hb
    · obtain ⟨⟨x, y, z, h1⟩, _⟩ := hw.kt s hs
      rw [e, h] at h1; cases h1
    · have := (hw.kt s hs).2
      rw [e, h] at this; cases this
theorem RepT.setChan {c k k' : Nat} {σ : X.St} (hbW : X.base ≤ Wg) (hcW : Wg < c) (ho : Off Wg θ) (h : w.heap[c]? = some (.chan 0 #[] false k' k' false)) (hw : Wd Wg θ w) (hr : RepT X Wg θ σ w) : RepT X Wg θ σ (w.setChan c 0 #[] false k k false) := by
  intro u' hu'
  have real := real_of ho hw.kt hw.wg
  have hu := spoil_ps (P := Try.prog) no_steps real
  have hsz : (w.setChan c 0 #[] false k k false).heap.size = w.heap.size := by simp [World.setChan]
  refine X.grows σ _ u' (fun b hb hn => ?_) (by rw [hu.size, hu'.size, hsz]; exact Nat.le_refl _) ⟨hu'.os.trans hu.os.symm, hu'.output.trans hu.output.symm⟩ (hr _ hu)
  by_cases hF : (sig Wg θ).F b
  · rw [hu'.bad b hF, hu.bad b hF]
  · rw [hu'.heap b hF, hu.heap b hF]
    refine setChan_same fun e => ?_
    subst e
    exact hn.elim (fun hl => by omega) fun hn => hn _ _ _ _ _ _ ((hu.heap b hF).trans h)
theorem Wd.rwg {w₁ : World} (ho : Off Wg θ) (hw : Wd Wg θ w) (h : RWg tWg Wg w w₁) : Wd Wg θ w₁ := hw.kr (rwg_kr ho h)
theorem Base.less {P : Program} {ty : TypeId} {Sh : Loc → Prop} {K : World → Prop} {Still : Loc → Prop} {Ch : Nat → Prop} {role : Nat → Option Seat} {h cr d : Nat} {ct : Nat → Nat} {gs : Array Goroutine} {T : Trace} {q : Nat → Nat} {Sp Sp' : Nat → Prop}
    (hS : ∀ x, Sp x → Sp' x) (B : Base P ty Wg Sh K Still Ch role h Sp cr d ct gs T w q) : Base P ty Wg Sh K Still Ch role h Sp' cr d ct gs T w q :=
  ⟨fun x y hx hy => B.idle x y (fun z => hx (hS x z)) hy, B.ch, B.wf, B.inj, B.above, B.past, B.deaf, B.keep, B.still, B.wg, B.few, B.ones, B.busy⟩
theorem MI.seat_at {i : Nat} {s : SV} {pc : X.Pc} {n : Nat} (h : A.thr[i]? = some (s, some (pc, n))) : A.seat Wg (A.off + i) = some (thrSeat s (AtPc X Wg (WgL Wg) s n pc)) := by
  unfold MI.seat
  rw [if_neg (by omega), Nat.add_sub_cancel_left, h]
theorem MI.seat_inv {x : Nat} {st : Seat} (h : A.seat Wg x = some st) : ∃ i s pc n, x = A.off + i ∧ A.thr[i]? = some (s, some (pc, n)) ∧ st = thrSeat s (AtPc X Wg (WgL Wg) s n pc) := by
  unfold MI.seat at h
  split at h
  · cases h
  · rename_i hx
    split at h
    · rename_i s pc n e
      exact ⟨x - A.off, s, pc, n, by omega, e, (Option.some.inj h).symm⟩
    · cases h
theorem MI.turned_ne {i x n : Nat} {s : SV} {p : Option X.Pc} (hx : x ≠ A.off + i) : (A.turned i s n p).seat Wg x = A.seat Wg x := by
  unfold MI.seat MI.turned
  simp only
  by_cases h : x < A.off
  · rw [if_pos h, if_pos h]
  · rw [if_neg h, if_neg h, List.getElem?_set_ne (by omega)]
theorem MI.turned_at {i n : Nat} {s s' : SV} {p : Option X.Pc} {q : Option (X.Pc × Nat)} (h : A.thr[i]? = some (s', q)) : (A.turned i s n p).seat Wg (A.off + i) = match p with
    | some pc => some (thrSeat s (AtPc X Wg (WgL Wg) s n pc))
    | none => none := by
  have hl := (List.getElem?_eq_some_iff.1 h).1
  unfold MI.seat MI.turned
  simp only
  rw [if_neg (by omega), Nat.add_sub_cancel_left, List.getElem?_set_self hl]
  cases p <;> rfl
theorem MI.Ok.turned {i n : Nat} {s : SV} {p : Option X.Pc} (h : A.Ok Wg) : (A.turned i s n p).Ok Wg := ⟨h.pos, h.off, h.chan, h.still⟩
theorem MI.Lone.turned {i n : Nat} {s : SV} {q : Option (X.Pc × Nat)} {p : Option X.Pc} (h : A.Lone) (hi : A.thr[i]? = some (s, q)) : (A.turned i s n p).Lone := by
  have key : ∀ (j : Nat) (r : SV × Option (X.Pc × Nat)), (A.turned i s n p).thr[j]? = some r → ∃ r', A.thr[j]? = some r' ∧ r'.1 = r.1 := by
    intro j r hr
    simp only [MI.turned] at hr
    by_cases e : j = i
    · subst e
      rw [List.getElem?_set_self (List.getElem?_eq_some_iff.1 hi).1] at hr
      obtain rfl := Option.some.inj hr
      exact ⟨_, hi, rfl⟩
    · rw [List.getElem?_set_ne (fun z => e z.symm)] at hr
      exact ⟨r, hr, rfl⟩
  refine ⟨h.own, fun j k r r2 h1 h2 hne c hc => ?_, fun r hr => ?_⟩
  · obtain ⟨r', h1', e1⟩ := key j r h1
    obtain ⟨r2', h2', e2⟩ := key k r2 h2
    rw [← e1] at hc
    rw [← e2]
    exact h.two j k r' r2' h1' h2' hne c hc
  · obtain ⟨j, hj⟩ := List.mem_iff_getElem?.1 hr
    obtain ⟨r', h1', e1⟩ := key j r hj
    rw [← e1]
    exact h.seats r' (List.mem_of_getElem? h1')

/-- What must be known of the channels at a turn. -/
theorem MI.apart (hL : A.Lone) {i : Nat} {s : SV} {q : Option (X.Pc × Nat)} (hi : A.thr[i]? = some (s, q)) {x : Nat} (hx : x ≠ A.off + i) {st : Seat} (hst : A.seat Wg x = some st) {c : Nat} (hc : c = s.turn ∨ c = s.stop ∨ c = s.says) : ¬ st.has c := by
  obtain ⟨j, s', pc, n, rfl, hj, rfl⟩ := MI.seat_inv hst
  intro h
  rw [seat_has] at h
  exact hL.two i j _ _ hi hj (fun e => hx (by rw [e])) c hc (h.imp id fun z => .inl z)

/-- Whoever has the turn gives it back to main. -/
theorem backM (hW : Back Try.prog W) (hbW : X.base ≤ Wg) (hA : A.Ok Wg) (hL : A.Lone) (hd : A.d = 0) (hst : A.still = StT A.θ) {i j n : Nat} (hj : j = A.off + i) {s : SV} {E : X.St × Option X.Pc} (hi : A.thr[i]? = some (s, E.2.map fun pc => (pc, n)))
    {role : Nat → Option Seat} {home : Goroutine → Prop} (hr0 : role 0 = some (mainSeat s home)) (hI : ∀ x, x ≠ 0 → x ≠ j → role x = A.seat Wg x)
    (k : ∀ g₂ w', home g₂ → Wd Wg A.θ w' → RepT X Wg A.θ E.1 w' → (envM W X Wg).Go A (g₂.finishComm Try.prog #[rcase s.says saidZ] (.recv false) 0 (saidP (X := X) E.2) true) w')
    {ct : Nat → Nat} {gs : Array Goroutine} {a' : Goroutine} {w' : World} {T : Trace} {q : Nat → Nat} (hstop : StopO X Wg s A.θ (AtPc X Wg (WgL Wg) s n) E a' w')
    (B : Base Try.prog tWg Wg (WgL Wg) (KT A.θ) (StT A.θ) (isCh A.θ) role j (fun x => x = j) A.cr 0 ct gs T w' q) (hsz : gs.size = A.off + A.thr.length) (ha' : gs[j]? = some a') : Win W gs w' T := by
  have hθ : s ∈ A.θ := hL.seats _ (List.mem_of_getElem? hi)
  have hne := hL.own s hθ
  have hpos := hA.pos
  have hj0 : j ≠ 0 := by omega
  have hjb : (j == 0) = false := by simpa using hj0
  obtain ⟨hr', hwd', hstop⟩ := hstop
  have h0l : 0 < gs.size := by omega
  have hg0 : gs[0]? = some gs[0] := Array.getElem?_eq_getElem h0l
  have hsit0 : SitN Try.prog (0 == 0) (KT A.θ) (StT A.θ) (mainSeat s home) (q 0) gs[0] := by
    have := B.idle 0 _ (fun e => hj0 e.symm) hg0
    rw [hr0] at this
    exact this
  have back : ∀ (p : Option X.Pc) (gc : Array CommCase) (v : Value) (a₂ : Goroutine) (nh' : Nat), E.2 = p → a'.status = .running → saidP (X := X) p = v → gc = giveCases s v →
      (∀ w₁, RWg tWg Wg w' w₁ → stepG Try.prog false a' w₁ = .comm a₂ gc true .select w₁ #[]) →
      After Try.prog tWg Wg (KT A.θ) (StT A.θ) (isCh A.θ) role j (ct j) nh' (a₂.finishComm Try.prog gc .select 0 undef false) (A.seat Wg j) → Win W gs w' T := by
    intro p gc v a₂ nh' hp hrun hv hgc hcomm haft
    subst hgc
    refine give_walk (h := j) (j := 0) (role := role) (role' := fun x => if x = 0 then some (mainSeat s home) else A.seat Wg x) (gs := gs) (cth := ct j) (nh := nh') hW (fun _ h => h) hA.keeps (fun e => hj0 e.symm) hr0 (c := s.says) (kr := 0) (kg := 0) (z := saidZ) (z' := saidZ) (v := v) rfl (gc := giveCases s v) rfl
      (fun m cc hm hcc => ?_) hrun (fun w₁ hR => by rw [hjb]; exact hcomm w₁ hR) (fun x hx => ?_) ?_ ?_ _ true ct gs T w' q _ (RWg.refl _) (Nat.le_refl _) rfl (B.less fun x hx => .inl hx) ha' hg0 hsit0 rfl (fun e => by cases e)
    · rcases m with _ | _ | m
      · exact absurd rfl hm
      · simp [giveCases] at hcc
        exact ⟨s.stop, unitV, hcc.symm, s, hθ, .inr (.inl rfl)⟩
      · simp [giveCases] at hcc
    · by_cases e0 : x = 0
      · simp only [e0, if_true, hr0]
      · simp only [if_neg e0]
        exact (hI x e0 hx).symm
    · simp only [if_neg hj0]
      exact haft
    intro ct3 gs3 g₃ w₃ kk3 T3 q3 hsz3 hhome3 hR3 hch3 hgs3 B3 _
    have hwd4 : Wd Wg A.θ w₃ := hwd'.rwg hA.off hR3
    have hk := k g₃ (w₃.setChan s.says 0 #[] false (kk3 + 1) (kk3 + 1) false) hhome3 (hwd4.setChan hch3) (RepT.setChan hbW (hA.off s hθ).2.2.2.2 hA.off hch3 hwd4 (hr'.rwg hA.off hwd' hR3))
    rw [hp, hv] at hk
    refine winM (A := A) hW hA hk ct3 gs3 T3 q3 ?_ ?_ hgs3
    · rw [hd, hst]
      refine B3.rerole (fun x hx => by simp only [if_neg hx]) ?_
      unfold MI.seat
      rw [if_pos hpos]
    · rw [hsz3, hsz]
  have hat : A.seat Wg j = match E.2 with
      | some pc => some (thrSeat s (AtPc X Wg (WgL Wg) s n pc))
      | none => none := by
    unfold MI.seat
    rw [hj, if_neg (by omega), Nat.add_sub_cancel_left, hi]
    cases E.2 <;> rfl
  cases hp : E.2 with
  | some pc' =>
    rw [hp] at hstop hat
    obtain ⟨a₂', nh', ⟨hrun, hcomm⟩, hsit'⟩ := hstop
    refine back (some pc') _ _ a₂' nh' hp hrun rfl rfl hcomm ?_
    rw [hat]
    refine ⟨seat_wf hne.1, fun c hc => ?_, fun x s' c hx hs' hc hc' => ?_, ?_⟩
    · rw [seat_has] at hc
      exact ⟨s, hθ, hc.imp id fun z => .inl z⟩
    · rw [seat_has] at hc
      by_cases e0 : x = 0
      · subst e0
        rw [hr0, Option.some.injEq] at hs'
        subst hs'
        rw [main_has] at hc'
        rcases hc with h | h
        · exact hne.2.1 (h.symm.trans hc')
        · exact hne.2.2 (h.symm.trans hc')
      · rw [hI x e0 hx] at hs'
        exact MI.apart hL hi (by rw [← hj]; exact hx) hs' (hc.imp id fun z => .inl z) hc'
    · rw [hjb]
      exact hsit'
  | none =>
    rw [hp] at hstop hat
    obtain ⟨a₂', nh', ⟨hrun, hcomm⟩, hlv⟩ := hstop
    refine back none _ _ a₂' nh' hp hrun rfl rfl hcomm ?_
    rw [hat]
    refine ⟨Nat.pos_of_ne_zero hj0, ?_⟩
    rw [B.busy j (Nat.pos_of_ne_zero hj0) (.inl rfl), if_pos rfl]
    exact hlv

/-- ████ A TURN. ████ -/
theorem turnM (hW : Back Try.prog W) (hbW : X.base ≤ Wg) (hA : A.Ok Wg) (hL : A.Lone) (hd : A.d = 0) (hst : A.still = StT A.θ) {i : Nat} {s : SV} {pc : X.Pc} {n : Nat} (hi : A.thr[i]? = some (s, some (pc, n + 1))) {σ : X.St} (hwd : Wd Wg A.θ w) (hr : RepT X Wg A.θ σ w) (hok : X.ok pc σ)
    {a a₂ : Goroutine} (harun : a.status = .running) {z : Value} {home : Goroutine → Prop} {nh : Nat}
    (hat : ∀ w₁, RWg tWg Wg w w₁ → stepG Try.prog true a w₁ = .comm a₂ #[scase s.turn unitV z] true .send w₁ #[])
    (hlag : SitN Try.prog true (KT A.θ) (StT A.θ) (mainSeat s home) nh (a₂.finishComm Try.prog #[scase s.turn unitV z] .send 0 undef false))
    (k : ∀ z, X.next pc σ z → ∀ g₂ w', home g₂ → Wd Wg A.θ w' → RepT X Wg A.θ z.1 w' → (envM W X Wg).Go (A.turned i s n z.2) (g₂.finishComm Try.prog #[rcase s.says saidZ] (.recv false) 0 (saidP (X := X) z.2) true) w') :
    (envM W X Wg).Go A a w := goM fun w0 hR0 ct gs T q B hsz hg => by
  have hθ : s ∈ A.θ := hL.seats _ (List.mem_of_getElem? hi)
  have hne := hL.own s hθ
  have hpos := hA.pos
  obtain ⟨j, hj⟩ : ∃ j, j = A.off + i := ⟨_, rfl⟩
  have hj0 : j ≠ 0 := by omega
  have hjb : (j == 0) = false := by simpa using hj0
  have hseat : A.seat Wg j = some (thrSeat s (AtPc X Wg (WgL Wg) s (n + 1) pc)) := by rw [hj]; exact MI.seat_at hi
  have hil := (List.getElem?_eq_some_iff.1 hi).1
  have hjl : j < gs.size := by rw [hsz, hj]; omega
  rw [hd, hst] at B
  have hgj : gs[j]? = some gs[j] := Array.getElem?_eq_getElem hjl
  have hsit : SitN Try.prog (j == 0) (KT A.θ) (StT A.θ) (thrSeat s (AtPc X Wg (WgL Wg) s (n + 1) pc)) (q j) gs[j] := by
    have := B.idle j _ (by simpa using hj0) hgj
    rw [hseat] at this
    exact this
  refine give_walk (h := 0) (j := j) (role := A.seat Wg) (role' := fun x => if x = 0 then some (mainSeat s home) else A.seat Wg x) (gs := gs) (cth := ct 0) (nh := nh) hW (fun _ h => h) hA.keeps hj0 hseat (c := s.turn) (kr := 0) (kg := 0) (z := z) (z' := unitV) (v := unitV) rfl (gc := #[scase s.turn unitV z]) rfl
    (fun m cc hm hcc => by rcases m with _ | m; exact absurd rfl hm; simp at hcc) harun hat (fun x hx => by simp only [if_neg hx]) ?_ ?_ _ true ct gs T w0 q _ hR0 (Nat.le_refl _) rfl (B.less fun x hx => .inl hx) hg hgj hsit rfl (fun e => by cases e)
  · simp only [if_true]
    exact ⟨Seat.one_wf _ _ _ _, fun c hc => by rw [main_has] at hc; subst hc; exact ⟨s, hθ, .inr (.inr rfl)⟩, fun x s' c hx hs' hc hc' => by
      rw [main_has] at hc
      subst hc
      by_cases e : x = j
      · subst e
        rw [hseat] at hs'
        obtain rfl := Option.some.inj hs'
        rw [seat_has] at hc'
        rcases hc' with h | h
        · exact hne.2.1 h.symm
        · exact hne.2.2 h.symm
      · exact MI.apart hL hi (by rw [← hj]; exact e) hs' (.inr (.inr rfl)) hc', hlag⟩
  intro ct1 gs1 g₂ w₂ kk T1 q1 hsz1 hhome hR2 hch hgs1 B1 _
  have hwd2 : Wd Wg A.θ w₂ := hwd.rwg hA.off hR2
  have hwd3 : Wd Wg A.θ (w₂.setChan s.turn 0 #[] false (kk + 1) (kk + 1) false) := hwd2.setChan hch
  have hr3 : RepT X Wg A.θ σ (w₂.setChan s.turn 0 #[] false (kk + 1) (kk + 1) false) := RepT.setChan hbW (hA.off s hθ).2.2.1 hA.off hch hwd2 (hr.rwg hA.off hwd hR2)
  have hGo := hhome A.θ _ σ hθ hA.off (shOk hA.off) hwd3 hr3 hok
  have hGo' : GoesI Try.prog (j == 0) (RWg tWg Wg) (DH Wg (WgL Wg) (KT A.θ) (StT A.θ) (isCh A.θ)) (StopT X Wg s A.θ (AtPc X Wg (WgL Wg) s n) (X.next pc σ)) (g₂.finishComm Try.prog (seatCases s) .select 0 unitV true) (w₂.setChan s.turn 0 #[] false (kk + 1) (kk + 1) false) := by rw [hjb]; exact hGo
  refine hold_walk (h := j) hW (fun _ h => h) hA.keeps hGo' _ ct1 gs1 T1 _ q1 (RWg.refl _) (Nat.le_refl _) B1 hgs1 fun ct2 gs2 a' w' T2 q2 hstop B2 hsz2 ha' => ?_
  obtain ⟨o', hno, hstop⟩ := hstop
  exact backM (A := A.turned i s n o'.2) (E := o') hW hbW hA.turned (hL.turned hi) hd hst hj (by show (A.thr.set i _)[i]? = _; rw [List.getElem?_set_self hil]) (if_pos rfl) (fun x hx0 hxj => by simp only [if_neg hx0]; exact (MI.turned_ne (by rw [← hj]; exact hxj)).symm) (k o' hno) hstop B2 (by show gs2.size = A.off + (A.thr.set i _).length; rw [List.length_set, hsz2, hsz1, hsz]) ha'

/-- Where main stands behind a start. -/
def MI.hired (A : MI X) (s : SV) (n c : Nat) (p : Option X.Pc) : MI X := { A with thr := A.thr ++ [(s, p.map fun pc => (pc, n))], cr := c }
theorem MI.hired_ne {s : SV} {n c : Nat} {p : Option X.Pc} {x : Nat} (hx : x ≠ A.off + A.thr.length) : (A.hired s n c p).seat Wg x = A.seat Wg x := by
  unfold MI.seat MI.hired
  simp only
  by_cases h : x < A.off
  · rw [if_pos h, if_pos h]
  · rw [if_neg h, if_neg h]
    by_cases h2 : x - A.off < A.thr.length
    · rw [List.getElem?_append_left h2]
    · rw [List.getElem?_eq_none (by simp; omega), List.getElem?_eq_none (by omega)]
/-- Its channels are nobody's yet. -/
def MI.Fresh (A : MI X) (s : SV) : Prop := ∀ p ∈ A.thr, ∀ c, (c = p.1.turn ∨ c = p.1.stop ∨ c = p.1.says) → ¬ (c = s.turn ∨ c = s.stop ∨ c = s.says)
theorem MI.Lone.hired {s : SV} {n c : Nat} {p : Option X.Pc} (h : A.Lone) (hs : s ∈ A.θ) (hf : A.Fresh s) : (A.hired s n c p).Lone := by
  refine ⟨h.own, fun i j r r2 h1 h2 hne c hc hc2 => ?_, fun r hr => ?_⟩
  · simp only [MI.hired] at h1 h2
    have key : ∀ (i : Nat) (r : SV × Option (X.Pc × Nat)), (A.thr ++ [(s, p.map fun pc => (pc, n))])[i]? = some r → A.thr[i]? = some r ∨ (i = A.thr.length ∧ r.1 = s) := by
      intro i r hr
      by_cases hl : i < A.thr.length
      · rw [List.getElem?_append_left hl] at hr; exact .inl hr
      · rw [List.getElem?_append_right (by omega)] at hr
        have : i - A.thr.length = 0 := by
          have := (List.getElem?_eq_some_iff.1 hr).1
          simp at this
          omega
        rw [this] at hr
        simp at hr
        exact .inr ⟨by omega, by rw [← hr]⟩
    rcases key i r h1 with a | ⟨a, b⟩ <;> rcases key j r2 h2 with a' | ⟨a', b'⟩
    · exact h.two i j r r2 a a' hne c hc hc2
    · rw [b'] at hc2; exact hf r (List.mem_of_getElem? a) c hc hc2
    · rw [b] at hc; exact hf r2 (List.mem_of_getElem? a') c hc2 hc
    · omega
  · simp only [MI.hired, List.mem_append, List.mem_cons, List.not_mem_nil, or_false] at hr
    rcases hr with hr | rfl
    · exact h.seats r hr
    · exact hs
theorem MI.Ok.hired {s : SV} {n c : Nat} {p : Option X.Pc} (h : A.Ok Wg) : (A.hired s n c p).Ok Wg := ⟨h.pos, h.off, h.chan, h.still⟩
/-- ████ A THREAD IS STARTED. ████ -/
theorem hireM (hW : Back Try.prog W) (hbW : X.base ≤ Wg) (hA : A.Ok Wg) (hL : A.Lone) (hd : A.d = 0) (hst : A.still = StT A.θ) {c : Nat} (hcr : A.cr = c + 1) {s : SV} (hs : s ∈ A.θ) (hf : A.Fresh s) {n : Nat} {E : X.Due}
    {a a' child : Goroutine} (harun : a.status = .running) {home : Goroutine → Prop} {nh : Nat}
    (hgo : ∀ w₁, RWg tWg Wg w w₁ → stepG Try.prog true a w₁ = .spawn a' child w₁ #[])
    (hlag : SitN Try.prog true (KT A.θ) (StT A.θ) (mainSeat s home) nh a')
    (hchild : ∀ w₁, RWg tWg Wg w w₁ → (envT X Wg (WgL Wg) s).Go (n, E, A.θ) child w₁)
    (k : ∀ z, E z → ∀ g₂ w', home g₂ → Wd Wg A.θ w' → RepT X Wg A.θ z.1 w' → (envM W X Wg).Go (A.hired s n c z.2) (g₂.finishComm Try.prog #[rcase s.says saidZ] (.recv false) 0 (saidP (X := X) z.2) true) w') :
    (envM W X Wg).Go A a w := goM fun w0 hR0 ct gs T q B hsz hg => by
  have hpos := hA.pos
  have hne := hL.own s hs
  rw [hd, hst, hcr] at B
  refine hire_walk (h := 0) (role := A.seat Wg) (role' := fun x => if x = 0 then some (mainSeat s home) else A.seat Wg x) (nh := nh) hW (fun _ h => h) hA.keeps harun hg (fun w₁ hR => hgo w₁ (RWg.trans _ _ _ hR0 hR)) (fun x hx => by simp only [if_neg hx]) ?_ B ?_
  · simp only [if_true]
    exact ⟨Seat.one_wf _ _ _ _, fun c hc => by rw [main_has] at hc; subst hc; exact ⟨s, hs, .inr (.inr rfl)⟩, fun x s' c hx hs' hc hc' => by
      rw [main_has] at hc
      subst hc
      obtain ⟨i, s2, pc, m, rfl, hi, rfl⟩ := MI.seat_inv hs'
      rw [seat_has] at hc'
      exact hf _ (List.mem_of_getElem? hi) _ (hc'.imp id fun z => .inl z) (.inr (.inr rfl)), hlag⟩
  intro ct1 gs1 w₁ T1 q1 hR1 hsz1 _ _ hgs1 B1
  obtain ⟨j, hj⟩ : ∃ j, j = gs.size := ⟨_, rfl⟩
  rw [← hj] at hgs1 B1
  have hj0 : j ≠ 0 := by omega
  have hjb : (j == 0) = false := by simpa using hj0
  have hGo := hchild w₁ (RWg.trans _ _ _ hR0 hR1)
  have hGo' : GoesI Try.prog (j == 0) (RWg tWg Wg) (DH Wg (WgL Wg) (KT A.θ) (StT A.θ) (isCh A.θ)) (StopT X Wg s A.θ (AtPc X Wg (WgL Wg) s n) E) child w₁ := by rw [hjb]; exact hGo
  refine hold_walk (h := j) hW (fun _ h => h) hA.keeps hGo' _ ct1 gs1 T1 _ q1 (RWg.refl _) (Nat.le_refl _) B1 hgs1 fun ct2 gs2 a' w' T2 q2 hstop B2 hsz2 ha' => ?_
  obtain ⟨o', hno, hstop⟩ := hstop
  exact backM (A := A.hired s n c o'.2) (i := A.thr.length) (E := o') hW hbW hA.hired (hL.hired hs hf) hd hst (by rw [hj, hsz]; rfl) (by simp [MI.hired]) (if_pos rfl) (fun x hx0 hxj => by simp only [if_neg hx0]; exact (MI.hired_ne (by rw [← hsz, ← hj]; exact hxj)).symm) (k o' hno) hstop B2 (by show gs2.size = A.off + (A.thr ++ [_]).length; simp; omega) ha'
end
end Go.Proofs.Ytdedmmjmiakidaa
/- Plain words: a world that is as it was but for some blocks; small facts on numbers. No condition. -/
namespace Go.Proofs.Ytdedmmjmiakidaa
open Go.RowKit

/-- The world w' is as w was, but for the blocks that F names, and for new blocks, and for draws. -/
structure Sm (F : Nat → Prop) (w w' : World) : Prop where
  os : w'.os = w.os
  tape : w'.tape = w.tape
  output : w'.output = w.output
  size : w.heap.size ≤ w'.heap.size
  block : ∀ k, k < w.heap.size → ¬ F k → w'.heap[k]? = w.heap[k]?

theorem Sm.refl (F : Nat → Prop) (w : World) : Sm F w w := ⟨rfl, rfl, rfl, Nat.le_refl _, fun _ _ _ => rfl⟩
theorem Sm.trans {F : Nat → Prop} {a b c : World} (h : Sm F a b) (k : Sm F b c) : Sm F a c :=
  ⟨k.os.trans h.os, k.tape.trans h.tape, k.output.trans h.output, Nat.le_trans h.size k.size,
    fun i hi hf => (k.block i (Nat.lt_of_lt_of_le hi h.size) hf).trans (h.block i hi hf)⟩
theorem Sm.mono {F F' : Nat → Prop} {w w' : World} (h : Sm F w w') (hF : ∀ k, F k → F' k) : Sm F' w w' :=
  ⟨h.os, h.tape, h.output, h.size, fun k hk hf => h.block k hk (fun x => hf (hF k x))⟩
theorem Sm.drewN {F : Nat → Prop} {a w : World} (h : Sm F a w) (n : Nat) : Sm F a (w.drewN n) := ⟨h.os, h.tape, h.output, h.size, h.block⟩
theorem Sm.drew {F : Nat → Prop} {a w : World} (h : Sm F a w) : Sm F a w.drew := ⟨h.os, h.tape, h.output, h.size, h.block⟩
theorem Sm.alloc {F : Nat → Prop} {a w : World} (h : Sm F a w) (o : Obj) : Sm F a (w.alloc o) :=
  h.trans ⟨rfl, rfl, rfl, by simp, fun k hk _ => Below.heap_alloc _ _ _ (by omega)⟩
theorem Sm.setCell {F : Nat → Prop} {a w : World} (h : Sm F a w) {p : Addr} (hp : F p.block) (u : Value) : Sm F a (w.setCell p u) :=
  h.trans ⟨rfl, rfl, rfl, by simp [World.setCell], fun k _ hf => Below.heap_setCell _ _ _ _ (fun e => hf (e ▸ hp))⟩
/-- A store into a block that is new. -/
theorem Sm.setNew {F : Nat → Prop} {a w : World} (h : Sm F a w) {p : Addr} (hp : a.heap.size ≤ p.block) (u : Value) : Sm F a (w.setCell p u) :=
  ⟨h.os, h.tape, h.output, Nat.le_trans h.size (by simp [World.setCell]), fun k hk hf => (Below.heap_setCell _ _ _ _ (by omega)).trans (h.block k hk hf)⟩
theorem Sm.below {F : Nat → Prop} {B : Nat} {w w' : World} (h : Sm F w w') (hB : B ≤ w.heap.size) (hF : ∀ k, F k → B ≤ k) : Below B w w' :=
  ⟨h.os, h.tape, h.output, h.size, fun k hk => h.block k (by omega) (fun f => by have := hF k f; omega)⟩
theorem Sm.of_below {F : Nat → Prop} {B : Nat} {w w' : World} (h : Below B w w') (hF : ∀ k, B ≤ k → k < w.heap.size → F k) : Sm F w w' :=
  ⟨h.os, h.tape, h.output, h.size, fun k hk hf => h.block k (by
    rcases Nat.lt_or_ge k B with h | h
    · exact h
    · exact absurd (hF k h hk) hf)⟩
theorem Sm.cell {F : Nat → Prop} {w w' : World} (h : Sm F w w') {p : Addr} (hp : p.block < w.heap.size) (hf : ¬ F p.block) : w'.cell? p = w.cell? p :=
  World.cell?_of_block (w := w) (h.block p.block hp hf)
theorem Sm.frozen {F : Nat → Prop} {w w' : World} (h : Sm F w w') {p : Addr} (hp : p.block < w.heap.size) (hf : ¬ F p.block) : w'.frozen? p = w.frozen? p :=
  World.frozen?_of_block (w := w) (h.block p.block hp hf)

/-- A block of cells, none of them frozen. -/
def Row (w : World) (b : Nat) (c : Array Value) (T : TypeId) : Prop := w.heap[b]? = some (.cells c T (0, 0))
theorem Row.lt {w : World} {b : Nat} {c : Array Value} {T : TypeId} (h : Row w b c T) : b < w.heap.size := by
  unfold Row at h
  exact (Array.getElem?_eq_some_iff.1 h).1
theorem Row.cell {w : World} {b : Nat} {c : Array Value} {T : TypeId} (h : Row w b c T) (i : Nat) : w.cell? ⟨b, i, none⟩ = c[i]? := by
  unfold Row at h
  simp [World.cell?, h]
theorem Row.free {w : World} {b : Nat} {c : Array Value} {T : TypeId} (h : Row w b c T) (i : Nat) : w.frozen? ⟨b, i, none⟩ = false := by
  unfold Row at h
  simp [World.frozen?, h]
theorem Row.set {w : World} {b : Nat} {c : Array Value} {T : TypeId} (h : Row w b c T) (i : Nat) (v : Value) : Row (w.setCell ⟨b, i, none⟩ v) b (c.setIfInBounds i v) T := by
  unfold Row at h ⊢
  simp [World.setCell, Array.getElem?_modify, h]
theorem Row.set_ne {w : World} {b : Nat} {c : Array Value} {T : TypeId} (h : Row w b c T) {a : Addr} (ha : a.block ≠ b) (v : Value) : Row (w.setCell a v) b c T := by
  unfold Row at h ⊢
  rw [Below.heap_setCell _ _ _ _ (fun e => ha e.symm)]
  exact h
theorem Row.drewN {w : World} {b : Nat} {c : Array Value} {T : TypeId} (h : Row w b c T) (n : Nat) : Row (w.drewN n) b c T := h
theorem Row.drew {w : World} {b : Nat} {c : Array Value} {T : TypeId} (h : Row w b c T) : Row w.drew b c T := h
theorem Row.sm {F : Nat → Prop} {w w' : World} {b : Nat} {c : Array Value} {T : TypeId} (h : Row w b c T) (k : Sm F w w') (hf : ¬ F b) : Row w' b c T := by
  unfold Row at h ⊢
  rw [k.block b (Row.lt h) hf]
  exact h
theorem Row.of_heap {w w' : World} {b : Nat} {c : Array Value} {T : TypeId} (h : Row w b c T) (e : w'.heap[b]? = w.heap[b]?) : Row w' b c T := by
  unfold Row at h ⊢
  rw [e]
  exact h
theorem Row.alloc {w : World} {b : Nat} {c : Array Value} {T : TypeId} (h : Row w b c T) (o : Obj) : Row (w.alloc o) b c T := by
  have := Row.lt h
  unfold Row at h ⊢
  rw [Below.heap_alloc _ _ _ this]
  exact h
theorem Row.new (w : World) (c : Array Value) (T : TypeId) : Row (w.alloc (.cells c T (0, 0))) w.heap.size c T := by
  unfold Row
  show (w.heap.push _)[w.heap.size]? = _
  simp

/-- append to a slice that is nil or the call's own, as one step of a region whose order is drawn. -/
theorem step_append_own {P : Program} {ops : Array Oper} {o : Oper} {a : Act} {w : World} {K : Act → World → Prop} {Q : Exit → Act → World → Prop} {E : Prop}
    (hg : o.guard = none) (s x : Operand) (t : TypeId) (hop : o.op = Op.call { callee := Callee.builtin Builtin.append, args := #[s, x], argTypes := #[t, t] })
    (base : Nat) (e : TypeId) (i : TypeInfo) (z : Value) (size bytes : Nat) (h1 : P.underlying t = some (.slice e)) (h2 : P.info? e = some i) (h3 : i.zero = some z) (h4 : i.size = size) (h5 : i.bytes = bytes) (h6 : z.cells.size = size) (h7 : 0 < size)
    (v : Value) (n : Nat) (xs : List Value) (hs : a.eval s = v) (hown : w.ownsRow base e size v n xs)
    (ad : Addr) (m c : Nat) (news : List Value) (hx : a.eval x = .slice (some ad) m c) (hn : news.length = m * size) (hc : ∀ j u, news[j]? = some u → w.cell? (ad.add j) = some u) (h1c : ∀ u ∈ news, u.oneCell' = true)
    (b1 : n + m ≤ maxLen) (b2 : (n + m) * bytes ≤ 140737488355328) (hbase : base ≤ w.heap.size)
    (hK : ∀ v' w', w'.ownsRow base e size v' (n + m) (xs ++ news) → w.grownBy w' v.ownBlock → K (a.put o.dst v') w') :
    if Region.wanted o (yielded ops a.tmps) = true then Oper.wp P o a w K Q else E := by
  have hw : Region.wanted o (yielded ops a.tmps) = true := by simp [Region.wanted, hg]
  rw [if_pos hw]
  obtain ⟨v', w', hrun, r1, r2, _⟩ := run_append_own (P := P) w base t o.type e i z size bytes h1 h2 h3 h4 h5 h6 h7 v n xs hown ad m c news hn hc h1c b1 b2 hbase
  unfold Oper.wp
  simp [execOp, hop, resolve, invoke, builtin, hs, hx, hrun, Result.andThen]
  exact hK v' w' r1 r2

theorem own_sm {F : Nat → Prop} {w w' : World} {base : Nat} {e : TypeId} {size : Nat} {v : Value} {n : Nat} {xs : List Value} (h : w.ownsRow base e size v n xs) (k : Sm F w w') (hF : ∀ b, base ≤ b → ¬ F b) :
    w'.ownsRow base e size v n xs := by
  obtain ⟨h1, h2⟩ := h
  refine ⟨h1, ?_⟩
  rcases h2 with h2 | ⟨g, cap, cur, hv, hg, hh, r⟩
  · exact .inl h2
  · refine .inr ⟨g, cap, cur, hv, hg, ?_, r⟩
    rw [k.block g (Array.getElem?_eq_some_iff.1 hh).1 (hF g hg)]
    exact hh

theorem sm_grown {F : Nat → Prop} {w w' : World} {row : Option Nat} (h : w.grownBy w' row) (hF : ∀ k, row = some k → F k) : Sm F w w' :=
  ⟨h.os, h.tape, h.output, h.size, fun k hk hf => h.block k hk (fun e => hf (hF k e.symm))⟩

theorem new_cells (w : World) (l : List Value) (T : TypeId) : ∀ (j : Nat) (u : Value), l[j]? = some u → (w.alloc (.cells l.toArray T (0, 0))).cell? ((⟨w.heap.size, 0, none⟩ : Addr).add j) = some u := by
  intro j u h
  have := (Row.new w l.toArray T).cell j
  have e : ((⟨w.heap.size, 0, none⟩ : Addr).add j) = ⟨w.heap.size, j, none⟩ := by
    unfold Addr.add
    split <;> simp_all
  rw [e, this]
  simpa using h

theorem Row.grown {w w' : World} {b : Nat} {c : Array Value} {T : TypeId} {row : Option Nat} (h : Row w b c T) (hg : w.grownBy w' row) (hne : row ≠ some b) : Row w' b c T := by
  have := h.lt
  unfold Row at h ⊢
  rw [hg.block b this (fun e => hne e.symm)]
  exact h

theorem own_form {w : World} {base size n : Nat} {e : TypeId} {v : Value} {xs : List Value} (h : w.ownsRow base e size v n xs) (hn : 0 < n) : ∃ g cap, v = .slice (some ⟨g, 0, none⟩) n cap := by
  obtain ⟨_, h2⟩ := h
  rcases h2 with ⟨_, h2⟩ | ⟨g, cap, cur, hv, _⟩
  · omega
  · exact ⟨g, cap, hv⟩
theorem own_form0 {w : World} {base size n : Nat} {e : TypeId} {v : Value} {xs : List Value} (h : w.ownsRow base e size v n xs) : ∃ a cap, v = .slice a n cap := by
  obtain ⟨_, h2⟩ := h
  rcases h2 with ⟨h1, h2⟩ | ⟨g, cap, cur, hv, _⟩
  · exact ⟨none, 0, by rw [h1, h2]⟩
  · exact ⟨_, cap, hv⟩

/-- A new block, and then growth of it alone. -/
theorem sm_alloc_grown {F : Nat → Prop} {w w' : World} {o : Obj} {v : Value} (hg : (w.alloc o).grownBy w' v.ownBlock) (hv : ∀ k, v.ownBlock = some k → w.heap.size ≤ k) : Sm F w w' :=
  ⟨hg.os, hg.tape, hg.output, by have := hg.size; simp at this; omega, fun k hk _ => (hg.block k (by simp; omega) (fun e => by have := hv k e.symm; omega)).trans (Below.heap_alloc _ _ _ hk)⟩
theorem own_row {w : World} {g : Nat} {xs : List Value} {T : TypeId} (h : Row w g xs.toArray T) (n size : Nat) (hn : xs.length = n * size) (hm : n ≤ maxLen) : w.ownsRow 0 T size (.slice (some ⟨g, 0, none⟩) n n) n xs :=
  ⟨hn, .inr ⟨g, n, xs.toArray, rfl, Nat.zero_le _, h, Nat.le_refl _, hm, by simp [hn], by rw [← hn]; simp⟩⟩
theorem own_cap {w : World} {base size n cap : Nat} {e : TypeId} {a : Option Addr} {xs : List Value} (h : w.ownsRow base e size (.slice a n cap) n xs) : n ≤ cap := by
  obtain ⟨_, h2⟩ := h
  rcases h2 with ⟨h1, h2⟩ | ⟨g, cap', cur, hv, _, _, hn, _⟩
  · cases h1; omega
  · cases hv; exact hn
theorem own_zero {w : World} {base size n : Nat} {e : TypeId} {v : Value} {xs : List Value} (h : w.ownsRow base e size v n xs) : w.ownsRow 0 e size v n xs := by
  obtain ⟨h1, h2⟩ := h
  refine ⟨h1, ?_⟩
  rcases h2 with h2 | ⟨g, cap, cur, hv, hg, r⟩
  · exact .inl h2
  · exact .inr ⟨g, cap, cur, hv, Nat.zero_le _, r⟩
theorem ret_bool {a b : Bool} (h : a = b) : Ending.returned (.bool a) = .returned (.bool b) := by rw [h]
theorem ret_u64 {a b : Int} (h : a = b) : Ending.returned (.int .u64 a) = .returned (.int .u64 b) := by rw [h]
theorem and_low (t : Nat) (h : t < 18446744073709551616) : bits .and .u64 (t : Int) 4294967295 = ((t % 4294967296 : Nat) : Int) := by
  have := u64_and_nat t 4294967295 h (by decide)
  rw [show ((4294967295 : Nat) : Int) = 4294967295 from rfl] at this
  rw [this, show (4294967295 : Nat) = 2 ^ 32 - 1 from rfl, Nat.and_two_pow_sub_one_eq_mod]
theorem or_join (x y : Nat) (hx : x % 4294967296 = 0) (hx' : x < 18446744073709551616) (hy : y < 4294967296) : bits .or .u64 (x : Int) (y : Int) = ((x + y : Nat) : Int) := by
  rw [u64_or_nat x y hx' (by omega), nat_join 32 x y (by simpa using hx) (by simpa using hy)]
end Go.Proofs.Ytdedmmjmiakidaa
/- Plain words: main's words in the play: what it remembers, reads, writes; a region of main's that draws its order. No condition. -/
namespace Go.Proofs.Ytdedmmjmiakidaa
open Go.Conc Go.RowKit
open Go.ConcN (sumTo upd sumTo_upd upd_ne upd_same)
open Go.ConcR (KK wgBlock WgAt stA smA rd wr mk)

/-- Threads' doing with what it touches: the blocks of a state. Beside what is told of it (St) each thread has memory of its own making, which hangs on where memory was got (Pg); a thread that waits knows its own. -/
structure Core where
  St : Type
  Pc : Type
  Pg : Type
  mark : Pc → Int × Int
  next : Pc → St → St × Option Pc
  tid : Pc → Nat
  tids : ∀ p a p', (next p a).2 = some p' → tid p' = tid p
  base : Nat
  foot : St × (Nat → Pg) → Nat → Prop
  Rep : St × (Nat → Pg) → World → Prop
  frame : ∀ a u u', (∀ b, foot a b → u'.heap[b]? = u.heap[b]?) → Rep a u → Rep a u'
  real : ∀ a u b, Rep a u → foot a b → ∃ o, u.heap[b]? = some o ∧ (∀ cap buf cl x r t, o ≠ .chan cap buf cl x r t) ∧ ∀ T, o ≠ .cells #[] T (0, 0)
abbrev Core.Full (Y : Core) := Y.St × (Nat → Y.Pg)
/-- What main keeps for itself: blocks, and what stands outside memory. -/
structure Own where
  own : Nat → Option Obj
  os : Os
  out : Array (Nat × ByteArray)
instance : CoeFun Own (fun _ => Nat → Option Obj) := ⟨Own.own⟩
/-- .. is there. -/
structure OwnIn (base : Nat) (foot : Nat → Prop) (o : Own) (u : World) : Prop where
  on : ∀ b ob, o b = some ob → u.heap[b]? = some ob ∧ ¬ foot b ∧ (b < base ∨ ∀ cap buf cl x r t, ob ≠ .chan cap buf cl x r t)
  os : u.os = o.os
  out : u.output = o.out
/-- What a turn of thread i's may lead to: as is told; its own memory is what it is, the others' stays. -/
structure Core.Step (Y : Core) (i : Nat) (γ : Nat → Y.Pg) (d : Y.St × Option Y.Pc) (a' : Y.Full) (p' : Option (Y.Pc × Y.Pg)) : Prop where
  st : a'.1 = d.1
  others : ∀ j, j ≠ i → a'.2 j = γ j
  pc : p' = d.2.map fun p => (p, a'.2 i)
def Core.Leads (Y : Core) (i : Nat) (γ : Nat → Y.Pg) (o : Own) (d : Y.St × Option Y.Pc) (z : (Y.Full × Own) × Option (Y.Pc × Y.Pg)) : Prop := Y.Step i γ d z.1.1 z.2 ∧ z.1.2 = o
/-- .. beside what main keeps for itself. -/
def Core.spec (Y : Core) : Spec where
  St := Y.Full × Own
  Pc := Y.Pc × Y.Pg
  mark := fun p => Y.mark p.1
  next := fun p σ z => Y.Leads (Y.tid p.1) σ.1.2 σ.2 (Y.next p.1 σ.1.1) z
  ok := fun p σ => σ.1.2 (Y.tid p.1) = p.2
  Rep := fun σ u => Y.Rep σ.1 u ∧ OwnIn Y.base (Y.foot σ.1) σ.2 u
  base := Y.base
  grows := fun σ u u' h _ hos hr => by
    refine ⟨Y.frame σ.1 u u' (fun b hb => ?_) hr.1, fun b ob ho => ?_, hos.1.trans hr.2.os, hos.2.trans hr.2.out⟩
    · obtain ⟨o, h1, h2, _⟩ := Y.real σ.1 u b hr.1 hb
      exact h b (Array.getElem?_eq_some_iff.1 h1).1 <| .inr fun cap buf cl a r t e => h2 cap buf cl a r t (Option.some.inj (h1.symm.trans e))
    · obtain ⟨h1, h2, h3⟩ := hr.2.on b ob ho
      exact ⟨(h b (Array.getElem?_eq_some_iff.1 h1).1 (h3.imp id fun h3 cap buf cl a r t e => h3 cap buf cl a r t (Option.some.inj (h1.symm.trans e)))).trans h1, h2, h3⟩

section words
variable {X : Spec} {W : Machine → Trace → Prop} {Wg : Nat} {A A' : MI X} {w : World}
/-- Another way of saying where main stands. -/
theorem reM (hW : Back Try.prog W) (hA' : A'.Ok Wg) (h1 : A'.off = A.off) (h2 : A'.thr = A.thr) (h3 : A'.cr = A.cr) (h4 : A'.d = A.d) (h5 : ∀ l, A'.still l ↔ A.still l) (h6 : ∀ w, KT A.θ w → KT A'.θ w) (h7 : ∀ c, isCh A'.θ c ↔ isCh A.θ c) (h8 : ∀ w, KT A'.θ w → KT A.θ w) {g : Goroutine} (h : (envM W X Wg).Go A' g w) : (envM W X Wg).Go A g w :=
  goM fun w₁ hR ct gs T q B hsz hg => by
    refine winM hW hA' (GoesI.rely envM_ok.rtrans h hR) ct gs T q ?_ (by rw [h1, h2]; exact hsz) hg
    have e1 : KT A'.θ = KT A.θ := funext fun w => propext ⟨h8 w, h6 w⟩
    have e2 : A'.still = A.still := funext fun l => propext (h5 l)
    have e3 : isCh A'.θ = isCh A.θ := funext fun l => propext (h7 l)
    have e4 : A'.seat Wg = A.seat Wg := by funext x; unfold MI.seat; rw [h1, h2]
    rw [e1, e2, e3, e4, h3, h4]
    exact B

variable {ops : Array Oper} {i : Nat} {o : Oper} {l : List Nat} {t : Array Value} {Qr : MI X → Array Value → World → Prop}
/-- A value that hangs on no memory. -/
theorem valR (v : Value) (ho : ops[i]? = some o) (hw : Region.wanted o (yielded ops t) = true) (he : ∀ w₁, (execOp (⟨t, []⟩ : Act).eval o).events Try.prog w₁ #[] = #[]) (hr : ∀ w₁, (execOp (⟨t, []⟩ : Act).eval o).run Try.prog w₁ = .ok (.value v) w₁)
    (h : cpsR (envM W X Wg) ops l Qr A ((⟨t, []⟩ : Act).put o.dst v).tmps w) : cpsR (envM W X Wg) ops (i :: l) Qr A t w := by
  refine cpsR_op envM_ok ho hw fun w₁ hR => ⟨v, w₁, #[], .inl ?_, envM_ok.still _ _, h.rely envM_ok hR⟩
  show (execOp (⟨t, []⟩ : Act).eval o).runT Try.prog w₁ #[] = _
  rw [Sem.runT_eq, hr w₁, he w₁]
/-- What main may list of its reads. -/
theorem dh_reads {Sh : Loc → Prop} {K : World → Prop} {Still : Loc → Prop} {Ch : Nat → Prop} {es : Array Event} {w : World} (h : ∀ e ∈ es, ∃ a : Addr, e = ⟨.cell a, false, false⟩ ∧ ¬ Sh (.cell a) ∧ a.block < w.heap.size) : DH Wg Sh K Still Ch w w es := by
  refine ⟨fun _ _ _ h => h, rfl, id, Nat.le_refl _, fun e he => ?_⟩
  obtain ⟨a, rfl, hs, hl⟩ := h e he
  refine ⟨fun x hx => ?_, by simp, by simp, hl⟩
  simp [MemAct.ofEvent, MemAct.touch?] at hx
  subst hx
  exact ⟨fun _ => rfl, fun h => absurd h hs⟩
/-- A read of one cell that the others leave alone. -/
theorem readR {ad : Addr} {v : Value} (hn : ad.block ≠ Wg) (hc : w.cell? ad = some v) (ho : ops[i]? = some o) (hw : Region.wanted o (yielded ops t) = true)
    (he : ∀ w₁, w₁.cell? ad = some v → (execOp (⟨t, []⟩ : Act).eval o).events Try.prog w₁ #[] = #[⟨.cell ad, false, false⟩]) (hr : ∀ w₁, w₁.cell? ad = some v → (execOp (⟨t, []⟩ : Act).eval o).run Try.prog w₁ = .ok (.value v) w₁)
    (h : cpsR (envM W X Wg) ops l Qr A ((⟨t, []⟩ : Act).put o.dst v).tmps w) : cpsR (envM W X Wg) ops (i :: l) Qr A t w := by
  refine cpsR_op envM_ok ho hw fun w₁ hR => ?_
  have hc1 := rwg_cell hn hc hR
  refine ⟨v, w₁, #[⟨.cell ad, false, false⟩], .inl ?_, dh_reads fun e hel => ?_, h.rely envM_ok hR⟩
  · show (execOp (⟨t, []⟩ : Act).eval o).runT Try.prog w₁ #[] = _
    rw [Sem.runT_eq, hr w₁ hc1, he w₁ hc1]
  · simp only [List.mem_toArray, List.mem_cons, List.not_mem_nil, or_false] at hel
    refine ⟨ad, hel, fun ⟨a, e, hb⟩ => hn ?_, size_of_cell hc1⟩
    have e := Loc.cell.inj e
    subst e
    exact hb
/-- Any operation of main's own, told by what it does to the world at hand. -/
theorem anyR (ho : ops[i]? = some o) (hw : Region.wanted o (yielded ops t) = true)
    (h : ∀ w₁, RWg tWg Wg w w₁ → ∃ v w' es, ((execOp (⟨t, []⟩ : Act).eval o).runT Try.prog w₁ #[] = (.ok (.value v) w', es) ∨ (execOp (⟨t, []⟩ : Act).eval o).runT Try.prog w₁ #[] = (.ok .skip w', es) ∧ v = undef) ∧ DH Wg (WgL Wg) (KT A.θ) A.still (isCh A.θ) w₁ w' es ∧ cpsR (envM W X Wg) ops l Qr A ((⟨t, []⟩ : Act).put o.dst v).tmps w') : cpsR (envM W X Wg) ops (i :: l) Qr A t w :=
  cpsR_op envM_ok ho hw h
end words

section drawn
variable {E : Env} {n : E.ι} {t : Array Value} {w : World} {ops : Array Oper}
theorem Env.Ok.terms (O : E.Ok) : Go.Conc.Terms E.R (E.D n) := ⟨O.rtrans, O.still n⟩
/-- A region that draws its order. -/
theorem cps_drawn (O : E.Ok) {id : Nat} {Q : E.ι → Exit → Array Value → World → Prop} (S : World → Prop) (hm : E.P.follows .mixedOrders = true)
    (h : ∀ fn w₁, E.R w w₁ → AnyCH E.P E.R (E.D n) fn .any ops (fun e a w => a.defers = [] ∧ e = .normal ∧ ∀ w', E.R w w' → Q n .normal a.tmps w') S ops.size (Array.replicate ops.size false) ⟨t, []⟩ { w₁ with drawn := w₁.drawn + 1 }) : cps E (.region id ops true) Q n t w := fun b k cs hf hk => by
  have hke : b.kind ≠ .early := by simpa using hf.kind
  have hc := wpC_region_held (main := E.main) (id := id) O.terms (O.draw n) hm (h b.fn)
  have hg := hc b k cs (fun g w => E.Go n g w) 0 rfl hke fun e a' w' q => by
    obtain ⟨t', d'⟩ := a'
    obtain ⟨hd, rfl, hq⟩ := q
    simp only at hd
    subst hd
    exact fun w₁ hR => hk n (O.lrefl n) .normal t' w₁ (hq w₁ hR)
  exact (GoesI.of_goes _ hg).bind O.rrefl O.rtrans fun g w h => h
variable {σ : Poison} {K : World → World → Prop} {ok : Op → Bool} {Sf : Names}
/-- An operation by its walk alone. -/
theorem opC_lone {R : World → World → Prop} {D : World → World → Array Event → Prop} {P : Program} (F : Fit P σ ok Sf) (U : Suits P σ R D K) {fn : FuncId} {i : Nat} {o : Oper} {a : Act} {K' : Act → World → Prop}
    (real : ∀ b, σ.F b → ∃ c, w.heap[b]? = some (.cells c (σ.ty b) (0, 0))) (ho : ops[i]? = some o) (hok : ok o.op = true) (hw : Region.wanted o (yielded ops a.tmps) = true) (hfun : ∀ f, a.eval (.func f) = .func (.func f) #[] #[])
    (h : ∀ u, Ps0 P σ w u → o.wp P a u (fun a' u' => ∀ w', Ps0 P σ w' u' → K w w' → K' a' w') (fun _ _ _ => False) ∧ ∀ f args w', (execOp a.eval o).run P u ≠ .ok (.enter f args) w') : OpC P R D fn ops i K' a w := by
  unfold OpC
  simp only [ho, hw, if_true]
  intro w₁ hR
  have hp0 := spoil_ps (P := P) F.steps real
  have hp1 : Ps0 P σ w₁ (spoil σ w) := Ps.others hp0 (U.oth _ _ hR)
  have hT := F.op a.eval (reads_act a) o hok
  let T : Nat → Question → Nat := fun k => w₁.tape (w₁.drawn + (k - (spoil σ w).drawn))
  obtain ⟨hwp, hne⟩ := h (World.deal (spoil σ w) T) (hp0.dealt T)
  unfold Oper.wp at hwp
  cases hr : (execOp a.eval o).run P (World.deal (spoil σ w) T) with
  | halt x u' =>
    rw [hr] at hwp
    exfalso
    have := hT.mild.halts _ _ _ hr
    cases x <;> first | exact this.elim | (simp [Oper.upon] at hwp)
  | ok nx u' =>
    obtain ⟨w', es', h1, h2, h3, h4⟩ := hT.mild.sim u'.drawn w₁ _ nx u' #[] (hp1.deal u'.drawn) hr (Nat.le_refl _)
    rw [hr] at hwp
    have hrun : (execOp a.eval o).run P w₁ = .ok nx w' := by rw [← Sem.runT_fst P _ w₁ #[], h1]
    have hlist : Go.Conc.listed P fn a o w₁ = seen P fn es' := by
      unfold Go.Conc.listed
      show seen P fn ((execOp a.eval o).runT P w₁ #[]).2 = _
      rw [h1]; simp
    have hD : D w₁ w' (Go.Conc.listed P fn a o w₁) := by
      rw [hlist]
      exact U.list _ _ _ _ _ h3 fun e he => h4 e (seen_sub _ _ _ e he)
    have hK : K w w' := U.trans _ _ _ (U.kr _ _ hR) (U.kf _ _ _ _ h3)
    have hps : Ps0 P σ w' u' := h2.off
    rw [hrun]
    cases nx <;> first
      | (rw [Oper.upon_value] at hwp; exact ⟨hD, hwp w' hps hK⟩)
      | (rw [Oper.upon_skip] at hwp; exact ⟨hD, hwp w' hps hK⟩)
      | (exfalso; exact hne _ _ _ hr)
      | (exfalso; exact (hT.next _ _ _ hr).elim)
      | (exfalso; have := hT.next _ _ _ hr; simp [NextOk] at this)
end drawn
end Go.Proofs.Ytdedmmjmiakidaa
/- Plain words: what main remembers in a play, in memory. No condition. -/
namespace Go.Proofs.Ytdedmmjmiakidaa
open Go.Conc Go.RowKit
open Go.ConcR (KK wgBlock WgAt stA smA rd wr mk)

/-- What a goroutine said last, as its seat holds it. -/
def lastV (X : Spec) : Option (X.Pc × Nat) → Value × Value × Value
  | some (pc, _) => (.int .u8 (X.mark pc).1, .int .i64 (X.mark pc).2, .bool false)
  | none => (.int .u8 0, .int .i64 0, .bool true)
/-- The seats of goroutines that have all been heard. -/
def tabOf (X : Spec) (thr : List (SV × Option (X.Pc × Nat))) : Tab := thr.map fun p => (p.1, lastV X p.2)
theorem tab_mem {X : Spec} {thr : List (SV × Option (X.Pc × Nat))} {s : SV} : s ∈ tabOf X thr ↔ ∃ q, (s, q) ∈ thr := by
  constructor
  · rintro ⟨v, h⟩
    obtain ⟨⟨s', q⟩, h1, h2⟩ := List.mem_map.1 h
    simp only [Prod.mk.injEq] at h2
    obtain ⟨rfl, _⟩ := h2
    exact ⟨q, h1⟩
  · rintro ⟨q, h⟩
    exact ⟨lastV X q, List.mem_map.2 ⟨(s, q), h, rfl⟩⟩

/-- A turn that was had. -/
abbrev Turned := Nat × Int × Int
def turnCells (x : Turned) : List Value := [.int .i64 x.1, .int .u8 x.2.1, .int .i64 x.2.2]
abbrev tPlay : TypeId := 156
abbrev tTurned : TypeId := 153
/-- The play in memory. -/
structure PMem (B0 pb : Nat) (svs : List SV) (tr : List Turned) (vs vt : Value) (w : World) : Prop where
  row : w.heap[pb]? = some (.cells #[vs, vt, .slice none 0 0] tPlay (0, 0))
  seats : w.ownsRow B0 tSeatP 1 vs svs.length (svs.map fun s => .pointer (some ⟨s.blk, 0, none⟩))
  trace : w.ownsRow B0 tTurned 3 vt tr.length (tr.flatMap turnCells)
/-- Main's blocks. -/
def mineB (o₀ : Own) (pb : Nat) (vs vt : Value) (b : Nat) : Prop := o₀ b ≠ none ∨ b = pb ∨ vs.ownBlock = some b ∨ vt.ownBlock = some b
open Classical in
noncomputable def snap (L : Nat → Prop) (w : World) : Own := ⟨fun b => if L b then w.heap[b]? else none, w.os, w.output⟩
theorem snap_at {L : Nat → Prop} {w : World} {b : Nat} (hb : L b) : snap L w b = w.heap[b]? := if_pos hb
theorem snap_no {L : Nat → Prop} {w : World} {b : Nat} (hb : ¬ L b) : snap L w b = none := if_neg hb
theorem snap_some {L : Nat → Prop} {w : World} {b : Nat} {ob : Obj} : snap L w b = some ob ↔ L b ∧ w.heap[b]? = some ob := by
  by_cases hb : L b
  · rw [snap_at hb]; simp [hb]
  · rw [snap_no hb]; simp [hb]

/-- Blocks but main's and the spoilt ones are as they were. -/
structure Tm (F L : Nat → Prop) (w w' : World) : Prop where
  size : w.heap.size ≤ w'.heap.size
  block : ∀ b, b < w.heap.size → ¬ L b → ¬ F b → w'.heap[b]? = w.heap[b]?
  os : w'.os = w.os
  out : w'.output = w.output
theorem Tm.refl {F L : Nat → Prop} (w : World) : Tm F L w w := ⟨Nat.le_refl _, fun _ _ _ _ => rfl, rfl, rfl⟩
theorem Tm.trans {F L : Nat → Prop} {a b c : World} (h : Tm F L a b) (k : Tm F L b c) : Tm F L a c :=
  ⟨Nat.le_trans h.size k.size, fun x hx hl hf => (k.block x (Nat.lt_of_lt_of_le hx h.size) hl hf).trans (h.block x hx hl hf), k.os.trans h.os, k.out.trans h.out⟩
theorem Tm.mono {F L L' : Nat → Prop} {w w' : World} (h : Tm F L w w') (hL : ∀ b, b < w.heap.size → L b → L' b) : Tm F L' w w' := ⟨h.size, fun b hb hl hf => h.block b hb (fun x => hl (hL b hb x)) hf, h.os, h.out⟩

section
variable {Y : Core} {Wg B0 pb : Nat} {θ : Tab} {o₀ : Own} {w w' : World} {F L : Nat → Prop}
theorem Tm.of_lone {σ : Poison} {P : Program} {u u' : World} (h : Ps0 P σ w u) (h' : Ps0 P σ w' u') (hs : Sm L u u') : Tm σ.F L w w' :=
  ⟨by rw [← h.size, ← h'.size]; exact hs.size, fun b hb hl hf => by rw [← h.heap b hf, ← h'.heap b hf]; exact hs.block b (by rw [h.size]; exact hb) hl, by rw [← h.os, ← h'.os]; exact hs.os, by rw [← h.output, ← h'.output]; exact hs.output⟩
theorem Tm.of_rwg (h : RWg tWg Wg w w') : Tm (inF Wg θ) L w w' := ⟨Nat.le_of_eq h.size.symm, fun b _ _ hf => h.block b fun e => hf (.inl e), h.os, h.output⟩

/-- What main knows in the play. -/
structure PK (Y : Core) (Wg B0 pb : Nat) (o₀ : Own) (θ : Tab) (a : Y.Full) (svs : List SV) (tr : List Turned) (vs vt : Value) (w : World) : Prop where
  wd : Wd Wg θ w
  mem : PMem B0 pb svs tr vs vt w
  rep : RepT Y.spec Wg θ (a, snap (mineB o₀ pb vs vt) w) w
  old : ∀ b ob, o₀ b = some ob → w.heap[b]? = some ob ∧ b < B0
  os : w.os = o₀.os
  out : w.output = o₀.out
  notF : ∀ b, mineB o₀ pb vs vt b → ¬ inF Wg θ b
  base : B0 ≤ pb
  low' : Y.base ≤ Wg
  ne1 : vs.ownBlock ≠ some pb
  ne2 : vt.ownBlock ≠ some pb
  ne3 : ∀ b, vs.ownBlock = some b → vt.ownBlock ≠ some b

theorem mine_lt {a : Y.Full} {svs : List SV} {tr : List Turned} {vs vt : Value} (h : PK Y Wg B0 pb o₀ θ a svs tr vs vt w) {b : Nat} (hb : mineB o₀ pb vs vt b) : ∃ ob, w.heap[b]? = some ob := by
  have own : ∀ {e size v n xs}, w.ownsRow B0 e size v n xs → v.ownBlock = some b → ∃ ob, w.heap[b]? = some ob := by
    rintro e size v n xs ⟨_, h2⟩ hv
    rcases h2 with ⟨rfl, _⟩ | ⟨g, cap, cur, rfl, _, hh, _⟩
    · simp [Value.ownBlock] at hv
    · simp only [Value.ownBlock, Option.some.injEq] at hv
      subst hv
      exact ⟨_, hh⟩
  rcases hb with hb | rfl | hb | hb
  · obtain ⟨ob, hob⟩ := Option.ne_none_iff_exists'.1 hb
    exact ⟨ob, (h.old b ob hob).1⟩
  · exact ⟨_, h.mem.row⟩
  · exact own h.mem.seats hb
  · exact own h.mem.trace hb

/-- What is held of the threads' memory stays where main alone writes. -/
theorem repT_move {a : Y.Full} {o : Own} (ho : Off Wg θ) (hwd : Wd Wg θ w) (hwd' : Wd Wg θ w') (hr : RepT Y.spec Wg θ (a, o) w) (ht : Tm (inF Wg θ) L w w') (hL : ∀ b, L b → b < w.heap.size → ¬ Y.foot a b) :
    ∀ u', Ps0 Try.prog (sig Wg θ) w' u' → Y.Rep a u' ∧ ∀ b, Y.foot a b → b < w.heap.size := by
  intro u' hu'
  have hu := spoil_ps (P := Try.prog) no_steps (real_of ho hwd.kt hwd.wg)
  obtain ⟨h1, h2⟩ := hr _ hu
  have hlt : ∀ b, Y.foot a b → b < w.heap.size := fun b hb => by
    obtain ⟨o, h, _⟩ := Y.real a _ b h1 hb
    rw [← hu.size]
    exact (Array.getElem?_eq_some_iff.1 h).1
  refine ⟨Y.frame a _ u' (fun b hb => ?_) h1, hlt⟩
  by_cases hF : (sig Wg θ).F b
  · rw [hu'.bad b hF, hu.bad b hF]
  · rw [hu'.heap b hF, hu.heap b hF]
    exact ht.block b (hlt b hb) (fun hl => hL b hl (hlt b hb) hb) hF

/-- Main changes its own memory. -/
theorem PK.move {a : Y.Full} {svs svs' : List SV} {tr tr' : List Turned} {vs vt vs' vt' : Value} (ho : Off Wg θ) (h : PK Y Wg B0 pb o₀ θ a svs tr vs vt w) (hwd' : Wd Wg θ w') (ht : Tm (inF Wg θ) (fun b => mineB o₀ pb vs vt b ∧ o₀ b = none) w w') (hm : PMem B0 pb svs' tr' vs' vt' w')
    (h1 : vs'.ownBlock = vs.ownBlock ∨ ∃ b, vs'.ownBlock = some b ∧ w.heap.size ≤ b) (h2 : vt'.ownBlock = vt.ownBlock ∨ ∃ b, vt'.ownBlock = some b ∧ w.heap.size ≤ b) (h3 : ∀ b, vs'.ownBlock = some b → vt'.ownBlock ≠ some b) : PK Y Wg B0 pb o₀ θ a svs' tr' vs' vt' w' := by
  have hinF : ∀ b, inF Wg θ b → b < w.heap.size := by
    intro b hb
    obtain ⟨c, hc⟩ := real_of ho h.wd.kt h.wd.wg b hb
    exact (Array.getElem?_eq_some_iff.1 hc).1
  have hpl : pb < w.heap.size := (Array.getElem?_eq_some_iff.1 h.mem.row).1
  have hnew : ∀ b, mineB o₀ pb vs' vt' b → mineB o₀ pb vs vt b ∨ (w.heap.size ≤ b ∧ (vs'.ownBlock = some b ∨ vt'.ownBlock = some b)) := by
    intro b hb
    rcases hb with hb | hb | hb | hb
    · exact .inl (.inl hb)
    · exact .inl (.inr (.inl hb))
    · rcases h1 with e | ⟨b', e, hl⟩
      · exact .inl (.inr (.inr (.inl (e ▸ hb))))
      · rw [e] at hb; obtain rfl := Option.some.inj hb; exact .inr ⟨hl, .inl e⟩
    · rcases h2 with e | ⟨b', e, hl⟩
      · exact .inl (.inr (.inr (.inr (e ▸ hb))))
      · rw [e] at hb; obtain rfl := Option.some.inj hb; exact .inr ⟨hl, .inr e⟩
  have hu := spoil_ps (P := Try.prog) no_steps (real_of ho h.wd.kt h.wd.wg)
  have hold := h.rep _ hu
  have hfoot : ∀ b, mineB o₀ pb vs vt b → ¬ Y.foot a b := fun b hb => by
    obtain ⟨ob, hob⟩ := mine_lt h hb
    exact (hold.2.on b ob (snap_some.2 ⟨hb, hob⟩)).2.1
  have hmv := repT_move ho h.wd hwd' h.rep ht (fun b hb _ => hfoot b hb.1)
  have notF' : ∀ b, mineB o₀ pb vs' vt' b → ¬ inF Wg θ b := fun b hb hF => by
    rcases hnew b hb with h' | h'
    · exact h.notF b h' hF
    · have := hinF b hF; omega
  have owncells : ∀ {e size v n xs} {w : World}, w.ownsRow B0 e size v n xs → ∀ b, v.ownBlock = some b → ∃ c, w.heap[b]? = some (.cells c e (0, 0)) := by
    rintro e size v n xs w ⟨_, h2⟩ b hv
    rcases h2 with ⟨rfl, _⟩ | ⟨g, cap, cur, rfl, _, hh, _⟩
    · simp [Value.ownBlock] at hv
    · simp only [Value.ownBlock, Option.some.injEq] at hv
      subst hv
      exact ⟨_, hh⟩
  have hold' : ∀ b ob, o₀ b = some ob → w'.heap[b]? = some ob := fun b ob hob => by
    have h0 := (h.old b ob hob).1
    rw [ht.block b (Array.getElem?_eq_some_iff.1 h0).1 (fun x => by rw [hob] at x; cases x.2) (h.notF b (.inl (by rw [hob]; simp)))]
    exact h0
  refine ⟨hwd', hm, fun u' hu' => ⟨(hmv u' hu').1, fun b ob hb => ?_, hu'.os, hu'.output⟩, fun b ob hob => ⟨hold' b ob hob, (h.old b ob hob).2⟩, ht.os.trans h.os, ht.out.trans h.out, notF', h.base, h.low', ?_, ?_, h3⟩
  · obtain ⟨hmb, hob⟩ := snap_some.1 hb
    clear hb
    refine ⟨by rw [hu'.heap b (notF' b hmb)]; exact hob, fun hf => ?_, ?_⟩
    · rcases hnew b hmb with h' | h'
      · exact hfoot b h' hf
      · have := (hmv u' hu').2 b hf; omega
    · rcases hmb with hb | rfl | hb | hb
      · obtain ⟨ob, hob2⟩ := Option.ne_none_iff_exists'.1 hb
        rw [hold' b ob hob2] at hob
        obtain rfl := Option.some.inj hob
        exact (hold.2.on b _ (snap_some.2 ⟨.inl hb, (h.old b _ hob2).1⟩)).2.2
      · exact .inr fun _ _ _ _ _ _ e => by subst e; rw [hm.row] at hob; cases hob
      · exact .inr fun _ _ _ _ _ _ e => by subst e; obtain ⟨c, hc⟩ := owncells hm.seats b hb; rw [hc] at hob; cases hob
      · exact .inr fun _ _ _ _ _ _ e => by subst e; obtain ⟨c, hc⟩ := owncells hm.trace b hb; rw [hc] at hob; cases hob
  · rcases h1 with e | ⟨b', e, hl⟩
    · rw [e]; exact h.ne1
    · rw [e]; intro e; have := Option.some.inj e; omega
  · rcases h2 with e | ⟨b', e, hl⟩
    · rw [e]; exact h.ne2
    · rw [e]; intro e; have := Option.some.inj e; omega
theorem ownsRow_of {w w' : World} {base : Nat} {e : TypeId} {size : Nat} {v : Value} {n : Nat} {xs : List Value} (h : w.ownsRow base e size v n xs) (hb : ∀ b, v.ownBlock = some b → w'.heap[b]? = w.heap[b]?) : w'.ownsRow base e size v n xs := by
  obtain ⟨h1, h2⟩ := h
  refine ⟨h1, ?_⟩
  rcases h2 with h2 | ⟨g, cap, cur, rfl, hg, hh, r⟩
  · exact .inl h2
  · exact .inr ⟨g, cap, cur, rfl, hg, by rw [hb g rfl]; exact hh, r⟩
theorem PMem.of_same {svs : List SV} {tr : List Turned} {vs vt : Value} (h : PMem B0 pb svs tr vs vt w) (hb : ∀ b, mineB o₀ pb vs vt b → w'.heap[b]? = w.heap[b]?) : PMem B0 pb svs tr vs vt w' :=
  ⟨by rw [hb pb (.inr (.inl rfl))]; exact h.row, ownsRow_of h.seats fun b e => hb b (.inr (.inr (.inl e))), ownsRow_of h.trace fun b e => hb b (.inr (.inr (.inr e)))⟩
/-- Behind a turn. -/
theorem PK.behind {a a' : Y.Full} {svs : List SV} {tr : List Turned} {vs vt : Value} {θ' : Tab} (ho : Off Wg θ) (h : PK Y Wg B0 pb o₀ θ a svs tr vs vt w) (hF : ∀ b, inF Wg θ' b ↔ inF Wg θ b) (hwd' : Wd Wg θ' w') (hr : RepT Y.spec Wg θ' (a', snap (mineB o₀ pb vs vt) w) w') (ho' : Off Wg θ') : PK Y Wg B0 pb o₀ θ' a' svs tr vs vt w' := by
  have hu := spoil_ps (P := Try.prog) no_steps (real_of ho' hwd'.kt hwd'.wg)
  have notF' : ∀ b, mineB o₀ pb vs vt b → ¬ inF Wg θ' b := fun b hb => by rw [hF b]; exact h.notF b hb
  have hsame : ∀ b, mineB o₀ pb vs vt b → w'.heap[b]? = w.heap[b]? := fun b hb => by
    obtain ⟨ob, hob⟩ := mine_lt h hb
    rw [hob, ← hu.heap b (notF' b hb)]
    exact ((hr _ hu).2.on b ob (snap_some.2 ⟨hb, hob⟩)).1
  have hos : w'.os = w.os ∧ w'.output = w.output := ⟨hu.os.symm.trans (hr _ hu).2.os, hu.output.symm.trans (hr _ hu).2.out⟩
  have hsnap : snap (mineB o₀ pb vs vt) w' = snap (mineB o₀ pb vs vt) w := by
    have e1 : (snap (mineB o₀ pb vs vt) w').own = (snap (mineB o₀ pb vs vt) w).own := by
      funext b
      by_cases hb : mineB o₀ pb vs vt b
      · exact (snap_at hb).trans ((hsame b hb).trans (snap_at hb).symm)
      · exact (snap_no hb).trans (snap_no hb).symm
    show (⟨(snap (mineB o₀ pb vs vt) w').own, w'.os, w'.output⟩ : Own) = ⟨(snap (mineB o₀ pb vs vt) w).own, w.os, w.output⟩
    rw [e1, hos.1, hos.2]
  refine ⟨hwd', h.mem.of_same (o₀ := o₀) hsame, by rw [hsnap]; exact hr, fun b ob hob => ⟨by rw [hsame b (.inl (by rw [hob]; simp))]; exact (h.old b ob hob).1, (h.old b ob hob).2⟩, hos.1.trans h.os, hos.2.trans h.out, notF', h.base, h.low', h.ne1, h.ne2, h.ne3⟩
theorem PK.rwg {a : Y.Full} {svs : List SV} {tr : List Turned} {vs vt : Value} (ho : Off Wg θ) (h : PK Y Wg B0 pb o₀ θ a svs tr vs vt w) (hR : RWg tWg Wg w w') : PK Y Wg B0 pb o₀ θ a svs tr vs vt w' :=
  PK.behind ho h (fun _ => Iff.rfl) (h.wd.rwg ho hR) (h.rep.rwg ho h.wd hR) ho
end
end Go.Proofs.Ytdedmmjmiakidaa
/- Plain words: main gives a thread a turn: what is asked ahead of it. No condition. -/
namespace Go.Proofs.Ytdedmmjmiakidaa
open Go.Conc Go.RowKit
open Go.ConcR (KK wgBlock WgAt stA smA rd wr mk)
section
variable {Y : Core} {W : Machine → Trace → Prop} {Wg B0 pb : Nat} {o₀ : Own} {A : MI Y.spec} {w : World} {a : Y.Full} {svs : List SV} {tr : List Turned} {vs vt : Value} {θ : Tab}
theorem PK.neW (h : PK Y Wg B0 pb o₀ θ a svs tr vs vt w) {b : Nat} (hb : mineB o₀ pb vs vt b) : b ≠ Wg := fun e => h.notF b hb (.inl e)
theorem PK.pcell (h : PK Y Wg B0 pb o₀ θ a svs tr vs vt w) : w.cell? ⟨pb, 0, none⟩ = some vs ∧ w.cell? ⟨pb, 1, none⟩ = some vt ∧ w.cell? ⟨pb, 2, none⟩ = some (.slice none 0 0) := by
  have := h.mem.row
  simp [World.cell?, this]
theorem PK.seatAt (h : PK Y Wg B0 pb o₀ θ a svs tr vs vt w) {i : Nat} {s : SV} (hi : svs[i]? = some s) : ∃ g cap, vs = .slice (some ⟨g, 0, none⟩) svs.length cap ∧ w.cell? ⟨g, i, none⟩ = some (.pointer (some ⟨s.blk, 0, none⟩)) ∧ g ≠ Wg := by
  have hlt := (List.getElem?_eq_some_iff.1 hi).1
  obtain ⟨g, cap, rfl⟩ := own_form h.mem.seats (by omega)
  refine ⟨g, cap, rfl, ?_, h.neW (.inr (.inr (.inl rfl)))⟩
  have hc := h.mem.seats.cells (g := g) rfl i (.pointer (some ⟨s.blk, 0, none⟩)) (by simp [hi])
  have e : ((⟨g, 0, none⟩ : Addr).add i) = ⟨g, i, none⟩ := by
    unfold Addr.add
    split <;> simp_all
  rw [e] at hc
  exact hc
theorem LT.cells {s : SV} {x y z : Value} (h : LT θ w) (hm : List.Mem (s, x, y, z) θ) : w.cell? ⟨s.blk, 0, none⟩ = some (.chan (some s.turn)) ∧ w.cell? ⟨s.blk, 2, none⟩ = some (.chan (some s.says)) ∧ w.cell? ⟨s.blk, 3, none⟩ = some x ∧ w.cell? ⟨s.blk, 4, none⟩ = some y ∧ w.cell? ⟨s.blk, 5, none⟩ = some z := by
  have := h s x y z hm
  simp [World.cell?, this, seatCells]
set_option maxRecDepth 100000 in
set_option maxHeartbeats 2000000 in
/-- A turn for nobody: the number is below 0. -/
theorem take_neg (k : Int) (hk : k < 0) {Q : MI Y.spec → Value → World → Prop} (hq : Q A (.bool false) w) :
    cpsC (envM W Y.spec Wg) 69 #[.pointer (some ⟨pb, 0, none⟩), .int .i64 k] Q A w := by
  have O := envM_ok (W := W) (X := Y.spec) (Wg := Wg)
  refine cpsC_body O Try.func69 rfl ?_
  simp only [Try.ntmps69]
  refine cps_opaque fun Q' hQ => ?_
  walk_nrm
  have h1 : decide (k < 0) = true := by simpa using hk
  repeat refine cps_seq O ?_
  (refine cps_region O ?_; simp only [List.size_toArray, List.length_cons, List.length_nil, Nat.reduceAdd, Nat.zero_add, List.range, List.range.loop])
  refine valR (.bool false) rfl rfl (fun _ => by simp [go_sem, *]) (fun _ => by go_simp; try (first | rfl | (simp [*]))) ?_; try walk_nrm
  refine cpsR_nil O ?_
  repeat refine cps_seq O ?_
  (refine cps_region O ?_; simp only [List.size_toArray, List.length_cons, List.length_nil, Nat.reduceAdd, Nat.zero_add, List.range, List.range.loop])
  refine valR (.int .i64 k) rfl rfl (fun _ => by simp [go_sem, *]) (fun _ => by go_simp; try (first | rfl | (simp [*]))) ?_; try walk_nrm
  refine valR (.bool true) rfl rfl (fun _ => by simp [go_sem, *]) (fun _ => by go_simp; try (first | rfl | (simp [*]))) ?_; try walk_nrm
  refine valR (.bool true) rfl rfl (fun _ => by simp [go_sem, *]) (fun _ => by go_simp; try (first | rfl | (simp [*]))) ?_; try walk_nrm
  refine cpsR_skip O rfl rfl ?_; try walk_nrm
  refine cpsR_skip O rfl rfl ?_; try walk_nrm
  refine cpsR_skip O rfl rfl ?_; try walk_nrm
  refine cpsR_skip O rfl rfl ?_; try walk_nrm
  refine cpsR_skip O rfl rfl ?_; try walk_nrm
  refine cpsR_skip O rfl rfl ?_; try walk_nrm
  refine cpsR_skip O rfl rfl ?_; try walk_nrm
  refine valR (.bool true) rfl rfl (fun _ => by simp [go_sem, *]) (fun _ => by go_simp; try (first | rfl | (simp [*]))) ?_; try walk_nrm
  refine valR (.bool true) rfl rfl (fun _ => by simp [go_sem, *]) (fun _ => by go_simp; try (first | rfl | (simp [*]))) ?_; try walk_nrm
  refine cpsR_skip O rfl rfl ?_; try walk_nrm
  refine cpsR_skip O rfl rfl ?_; try walk_nrm
  refine cpsR_skip O rfl rfl ?_; try walk_nrm
  refine cpsR_skip O rfl rfl ?_; try walk_nrm
  refine cpsR_skip O rfl rfl ?_; try walk_nrm
  refine cpsR_skip O rfl rfl ?_; try walk_nrm
  refine cpsR_skip O rfl rfl ?_; try walk_nrm
  refine cpsR_skip O rfl rfl ?_; try walk_nrm
  refine cpsR_skip O rfl rfl ?_; try walk_nrm
  refine cpsR_skip O rfl rfl ?_; try walk_nrm
  refine cpsR_skip O rfl rfl ?_; try walk_nrm
  refine valR (.bool true) rfl rfl (fun _ => by simp [go_sem, *]) (fun _ => by go_simp; try (first | rfl | (simp [*]))) ?_; try walk_nrm
  refine valR (.bool true) rfl rfl (fun _ => by simp [go_sem, *]) (fun _ => by go_simp; try (first | rfl | (simp [*]))) ?_; try walk_nrm
  refine cpsR_skip O rfl rfl ?_; try walk_nrm
  refine cpsR_skip O rfl rfl ?_; try walk_nrm
  refine cpsR_skip O rfl rfl ?_; try walk_nrm
  refine cpsR_skip O rfl rfl ?_; try walk_nrm
  refine cpsR_skip O rfl rfl ?_; try walk_nrm
  refine cpsR_skip O rfl rfl ?_; try walk_nrm
  refine cpsR_skip O rfl rfl ?_; try walk_nrm
  refine valR (.bool true) rfl rfl (fun _ => by simp [go_sem, *]) (fun _ => by go_simp; try (first | rfl | (simp [*]))) ?_; try walk_nrm
  refine cpsR_nil O ?_
  refine cps_cond O (v := true) rfl ?_
  simp only [if_true]
  refine cps_seq O ?_
  (refine cps_region O ?_; simp only [List.size_toArray, List.length_cons, List.length_nil, Nat.reduceAdd, Nat.zero_add, List.range, List.range.loop])
  refine valR (.bool false) rfl rfl (fun _ => by simp [go_sem, *]) (fun _ => by go_simp; try (first | rfl | (simp [*]))) ?_; try walk_nrm
  refine cpsR_nil O ?_
  refine cps_ret O (hQ _ _ _ _ ⟨.inr rfl, .bool false, fun w₁ _ => ⟨#[], ?_, O.still _ _⟩, hq⟩)
  rw [show (envM W Y.spec Wg).P = Try.prog from rfl, Sem.runT_eq, results_tmp (t := 4) rfl, events_results_tmp (t := 4) rfl]
  rfl
set_option maxRecDepth 100000 in
set_option maxHeartbeats 2000000 in
/-- A turn for nobody: the number is too large. -/
theorem take_big (h : PK Y Wg B0 pb o₀ A.θ a svs tr vs vt w) (i : Nat) (hi : svs.length ≤ i) (hl : svs.length < 1000000) (hi2 : i < 9223372036854775808) {Q : MI Y.spec → Value → World → Prop} (hq : Q A (.bool false) w) :
    cpsC (envM W Y.spec Wg) 69 #[.pointer (some ⟨pb, 0, none⟩), .int .i64 i] Q A w := by
  have O := envM_ok (W := W) (X := Y.spec) (Wg := Wg)
  refine cpsC_body O Try.func69 rfl ?_
  simp only [Try.ntmps69]
  refine cps_opaque fun Q' hQ => ?_
  walk_nrm
  obtain ⟨hp0, hp1, _⟩ := h.pcell
  have hpW : pb ≠ Wg := h.neW (.inr (.inl rfl))
  obtain ⟨a₀, cap, rfl⟩ := own_form0 h.mem.seats
  have h1 : decide ((i : Int) < 0) = false := by simp
  have h2 : decide (svs.length ≤ i) = true := by simpa using hi
  have h3 : decide ((svs.length : Int) ≤ (i : Int)) = true := by simp; omega
  clear h hi
  repeat refine cps_seq O ?_
  (refine cps_region O ?_; simp only [List.size_toArray, List.length_cons, List.length_nil, Nat.reduceAdd, Nat.zero_add, List.range, List.range.loop])
  refine valR (.bool false) rfl rfl (fun _ => by simp [go_sem, *]) (fun _ => by go_simp; try (first | rfl | (simp [*]))) ?_; try walk_nrm
  refine cpsR_nil O ?_
  repeat refine cps_seq O ?_
  (refine cps_region O ?_; simp only [List.size_toArray, List.length_cons, List.length_nil, Nat.reduceAdd, Nat.zero_add, List.range, List.range.loop])
  refine valR (.int .i64 i) rfl rfl (fun _ => by simp [go_sem, *]) (fun _ => by go_simp; try (first | rfl | (simp [*]))) ?_; try walk_nrm
  refine valR (.bool false) rfl rfl (fun _ => by simp [go_sem, *]) (fun _ => by go_simp; try (first | rfl | (simp [*]))) ?_; try walk_nrm
  refine valR (.bool false) rfl rfl (fun _ => by simp [go_sem, *]) (fun _ => by go_simp; try (first | rfl | (simp [*]))) ?_; try walk_nrm
  refine valR (.int .i64 i) rfl rfl (fun _ => by simp [go_sem, *]) (fun _ => by go_simp; try (first | rfl | (simp [*]))) ?_; try walk_nrm
  refine valR (.pointer (some ⟨pb, 0, none⟩)) rfl rfl (fun _ => by simp [go_sem, *]) (fun _ => by go_simp; try (first | rfl | (simp [*]))) ?_; try walk_nrm
  refine valR (.pointer (some ⟨pb, 0, none⟩)) rfl rfl (fun _ => by simp [go_sem, *]) (fun _ => by go_simp; try (first | rfl | (simp [*]))) ?_; try walk_nrm
  refine valR (.pointer (some ⟨pb, 0, none⟩)) rfl rfl (fun _ => by simp [go_sem, *]) (fun _ => by go_simp; try (first | rfl | (simp [*]))) ?_; try walk_nrm
  refine readR (ad := ⟨pb, 0, none⟩) (v := .slice a₀ svs.length cap) hpW hp0 rfl rfl (fun w₁ hc => by simp [go_sem, hc]) (fun w₁ hc => by go_simp) ?_; try walk_nrm
  refine valR (.int .i64 svs.length) rfl rfl (fun _ => by simp [go_sem, *]) (fun _ => by go_simp; try (first | rfl | (simp [*]))) ?_; try walk_nrm
  refine valR (.bool true) rfl rfl (fun _ => by simp [go_sem, *]) (fun _ => by go_simp; try (first | rfl | (simp [*]))) ?_; try walk_nrm
  refine valR (.bool true) rfl rfl (fun _ => by simp [go_sem, *]) (fun _ => by go_simp; try (first | rfl | (simp [*]))) ?_; try walk_nrm
  refine valR (.bool true) rfl rfl (fun _ => by simp [go_sem, *]) (fun _ => by go_simp; try (first | rfl | (simp [*]))) ?_; try walk_nrm
  refine cpsR_skip O rfl rfl ?_; try walk_nrm
  refine cpsR_skip O rfl rfl ?_; try walk_nrm
  refine cpsR_skip O rfl rfl ?_; try walk_nrm
  refine cpsR_skip O rfl rfl ?_; try walk_nrm
  refine cpsR_skip O rfl rfl ?_; try walk_nrm
  refine cpsR_skip O rfl rfl ?_; try walk_nrm
  refine cpsR_skip O rfl rfl ?_; try walk_nrm
  refine cpsR_skip O rfl rfl ?_; try walk_nrm
  refine cpsR_skip O rfl rfl ?_; try walk_nrm
  refine cpsR_skip O rfl rfl ?_; try walk_nrm
  refine cpsR_skip O rfl rfl ?_; try walk_nrm
  refine valR (.bool true) rfl rfl (fun _ => by simp [go_sem, *]) (fun _ => by go_simp; try (first | rfl | (simp [*]))) ?_; try walk_nrm
  refine valR (.bool true) rfl rfl (fun _ => by simp [go_sem, *]) (fun _ => by go_simp; try (first | rfl | (simp [*]))) ?_; try walk_nrm
  refine cpsR_skip O rfl rfl ?_; try walk_nrm
  refine cpsR_skip O rfl rfl ?_; try walk_nrm
  refine cpsR_skip O rfl rfl ?_; try walk_nrm
  refine cpsR_skip O rfl rfl ?_; try walk_nrm
  refine cpsR_skip O rfl rfl ?_; try walk_nrm
  refine cpsR_skip O rfl rfl ?_; try walk_nrm
  refine cpsR_skip O rfl rfl ?_; try walk_nrm
  refine valR (.bool true) rfl rfl (fun _ => by simp [go_sem, *]) (fun _ => by go_simp; try (first | rfl | (simp [*]))) ?_; try walk_nrm
  refine cpsR_nil O ?_
  refine cps_cond O (v := true) rfl ?_
  simp only [if_true]
  refine cps_seq O ?_
  (refine cps_region O ?_; simp only [List.size_toArray, List.length_cons, List.length_nil, Nat.reduceAdd, Nat.zero_add, List.range, List.range.loop])
  refine valR (.bool false) rfl rfl (fun _ => by simp [go_sem, *]) (fun _ => by go_simp; try (first | rfl | (simp [*]))) ?_; try walk_nrm
  refine cpsR_nil O ?_
  refine cps_ret O (hQ _ _ _ _ ⟨.inr rfl, .bool false, fun w₁ _ => ⟨#[], ?_, O.still _ _⟩, hq⟩)
  rw [show (envM W Y.spec Wg).P = Try.prog from rfl, Sem.runT_eq, results_tmp (t := 4) rfl, events_results_tmp (t := 4) rfl]
  rfl
set_option maxRecDepth 100000 in
set_option maxHeartbeats 2000000 in
/-- A turn for one that has ended. -/
theorem take_over (h : PK Y Wg B0 pb o₀ A.θ a svs tr vs vt w) (i : Nat) (hA : A.Ok Wg) {s : SV} {x y : Value} (hi : svs[i]? = some s) (hm : List.Mem (s, x, y, .bool true) A.θ) (hl : svs.length < 1000000) {Q : MI Y.spec → Value → World → Prop} (hq : Q A (.bool false) w) :
    cpsC (envM W Y.spec Wg) 69 #[.pointer (some ⟨pb, 0, none⟩), .int .i64 i] Q A w := by
  have O := envM_ok (W := W) (X := Y.spec) (Wg := Wg)
  refine cpsC_body O Try.func69 rfl ?_
  simp only [Try.ntmps69]
  refine cps_opaque fun Q' hQ => ?_
  walk_nrm
  obtain ⟨hp0, hp1, _⟩ := h.pcell
  have hpW : pb ≠ Wg := h.neW (.inr (.inl rfl))
  obtain ⟨g, cap, rfl, hgi, hgW⟩ := h.seatAt hi
  have hil : i < svs.length := (List.getElem?_eq_some_iff.1 hi).1
  obtain ⟨_, hsy, hx, hy, hz⟩ := LT.cells h.wd.lt hm
  have hsW : s.blk ≠ Wg := (hA.off s ⟨_, hm⟩).1
  have h1 : decide ((i : Int) < 0) = false := by simp
  have h2 : decide (svs.length ≤ i) = false := by simpa using hil
  have h3 : decide ((svs.length : Int) ≤ (i : Int)) = false := by simp; omega
  have h4 : decide (i < svs.length) = true := by simpa using hil
  have h5 : decide ((i : Int) < (svs.length : Int)) = true := by simp; omega
  have h6 : ¬ (i : Int) < 0 := by omega
  have h7 : i < svs.length := hil
  have h8 : (i : Int) < svs.length := by omega
  have h9 : (0 : Int) ≤ (i : Int) := by omega
  clear h6 h9
  repeat refine cps_seq O ?_
  (refine cps_region O ?_; simp only [List.size_toArray, List.length_cons, List.length_nil, Nat.reduceAdd, Nat.zero_add, List.range, List.range.loop])
  refine valR (.bool false) rfl rfl (fun _ => by simp [go_sem, *]) (fun _ => by go_simp; try (first | rfl | (simp [*]))) ?_; try walk_nrm
  refine cpsR_nil O ?_
  repeat refine cps_seq O ?_
  (refine cps_region O ?_; simp only [List.size_toArray, List.length_cons, List.length_nil, Nat.reduceAdd, Nat.zero_add, List.range, List.range.loop])
  refine valR (.int .i64 i) rfl rfl (fun _ => by simp [go_sem, *]) (fun _ => by go_simp; try (first | rfl | (simp [*]))) ?_; try walk_nrm
  refine valR (.bool false) rfl rfl (fun _ => by simp [go_sem, *]) (fun _ => by go_simp; try (first | rfl | (simp [*]))) ?_; try walk_nrm
  refine valR (.bool false) rfl rfl (fun _ => by simp [go_sem, *]) (fun _ => by go_simp; try (first | rfl | (simp [*]))) ?_; try walk_nrm
  refine valR (.int .i64 i) rfl rfl (fun _ => by simp [go_sem, *]) (fun _ => by go_simp; try (first | rfl | (simp [*]))) ?_; try walk_nrm
  refine valR (.pointer (some ⟨pb, 0, none⟩)) rfl rfl (fun _ => by simp [go_sem, *]) (fun _ => by go_simp; try (first | rfl | (simp [*]))) ?_; try walk_nrm
  refine valR (.pointer (some ⟨pb, 0, none⟩)) rfl rfl (fun _ => by simp [go_sem, *]) (fun _ => by go_simp; try (first | rfl | (simp [*]))) ?_; try walk_nrm
  refine valR (.pointer (some ⟨pb, 0, none⟩)) rfl rfl (fun _ => by simp [go_sem, *]) (fun _ => by go_simp; try (first | rfl | (simp [*]))) ?_; try walk_nrm
  refine readR (ad := ⟨pb, 0, none⟩) (v := .slice (some ⟨g, 0, none⟩) svs.length cap) hpW hp0 rfl rfl (fun w₁ hc => by simp [go_sem, hc]) (fun w₁ hc => by go_simp) ?_; try walk_nrm
  refine valR (.int .i64 svs.length) rfl rfl (fun _ => by simp [go_sem, *]) (fun _ => by go_simp; try (first | rfl | (simp [*]))) ?_; try walk_nrm
  refine valR (.bool false) rfl rfl (fun _ => by simp [go_sem, *]) (fun _ => by go_simp; try (first | rfl | (simp [*]))) ?_; try walk_nrm
  refine valR (.bool false) rfl rfl (fun _ => by simp [go_sem, *]) (fun _ => by go_simp; try (first | rfl | (simp [*]))) ?_; try walk_nrm
  refine valR (.bool false) rfl rfl (fun _ => by simp [go_sem, *]) (fun _ => by go_simp; try (first | rfl | (simp [*]))) ?_; try walk_nrm
  refine valR (.pointer (some ⟨pb, 0, none⟩)) rfl rfl (fun _ => by simp [go_sem, *]) (fun _ => by go_simp; try (first | rfl | (simp [*]))) ?_; try walk_nrm
  refine valR (.pointer (some ⟨pb, 0, none⟩)) rfl rfl (fun _ => by simp [go_sem, *]) (fun _ => by go_simp; try (first | rfl | (simp [*]))) ?_; try walk_nrm
  refine valR (.pointer (some ⟨pb, 0, none⟩)) rfl rfl (fun _ => by simp [go_sem, *]) (fun _ => by go_simp; try (first | rfl | (simp [*]))) ?_; try walk_nrm
  refine readR (ad := ⟨pb, 0, none⟩) (v := .slice (some ⟨g, 0, none⟩) svs.length cap) hpW hp0 rfl rfl (fun w₁ hc => by simp [go_sem, hc]) (fun w₁ hc => by go_simp) ?_; try walk_nrm
  refine valR (.int .i64 i) rfl rfl (fun _ => by simp [go_sem, *]) (fun _ => by go_simp; try (first | rfl | (simp [*]))) ?_; try walk_nrm
  refine valR (.pointer (some ⟨g, i, none⟩)) rfl rfl (fun _ => by simp [go_sem, *]) (fun _ => by go_simp; try (first | rfl | (simp [*]))) ?_; try walk_nrm
  refine readR (ad := ⟨g, i, none⟩) (v := .pointer (some ⟨s.blk, 0, none⟩)) hgW hgi rfl rfl (fun w₁ hc => by simp [go_sem, hc]) (fun w₁ hc => by go_simp) ?_; try walk_nrm
  refine valR (.pointer (some ⟨s.blk, 0, none⟩)) rfl rfl (fun _ => by simp [go_sem, *]) (fun _ => by go_simp; try (first | rfl | (simp [*]))) ?_; try walk_nrm
  refine valR (.pointer (some ⟨s.blk, 3, none⟩)) rfl rfl (fun _ => by simp [go_sem, *]) (fun _ => by go_simp; try (first | rfl | (simp [*]))) ?_; try walk_nrm
  refine valR (.pointer (some ⟨s.blk, 5, none⟩)) rfl rfl (fun _ => by simp [go_sem, *]) (fun _ => by go_simp; try (first | rfl | (simp [*]))) ?_; try walk_nrm
  refine readR (ad := ⟨s.blk, 5, none⟩) (v := .bool true) hsW hz rfl rfl (fun w₁ hc => by simp [go_sem, hc]) (fun w₁ hc => by go_simp) ?_; try walk_nrm
  refine valR (.bool true) rfl rfl (fun _ => by simp [go_sem, *]) (fun _ => by go_simp; try (first | rfl | (simp [*]))) ?_; try walk_nrm
  refine valR (.bool true) rfl rfl (fun _ => by simp [go_sem, *]) (fun _ => by go_simp; try (first | rfl | (simp [*]))) ?_; try walk_nrm
  refine cpsR_skip O rfl rfl ?_; try walk_nrm
  refine cpsR_skip O rfl rfl ?_; try walk_nrm
  refine cpsR_skip O rfl rfl ?_; try walk_nrm
  refine cpsR_skip O rfl rfl ?_; try walk_nrm
  refine cpsR_skip O rfl rfl ?_; try walk_nrm
  refine cpsR_skip O rfl rfl ?_; try walk_nrm
  refine cpsR_skip O rfl rfl ?_; try walk_nrm
  refine valR (.bool true) rfl rfl (fun _ => by simp [go_sem, *]) (fun _ => by go_simp; try (first | rfl | (simp [*]))) ?_; try walk_nrm
  refine cpsR_nil O ?_
  refine cps_cond O (v := true) rfl ?_
  simp only [if_true]
  refine cps_seq O ?_
  (refine cps_region O ?_; simp only [List.size_toArray, List.length_cons, List.length_nil, Nat.reduceAdd, Nat.zero_add, List.range, List.range.loop])
  refine valR (.bool false) rfl rfl (fun _ => by simp [go_sem, *]) (fun _ => by go_simp; try (first | rfl | (simp [*]))) ?_; try walk_nrm
  refine cpsR_nil O ?_
  refine cps_ret O (hQ _ _ _ _ ⟨.inr rfl, .bool false, fun w₁ _ => ⟨#[], ?_, O.still _ _⟩, hq⟩)
  rw [show (envM W Y.spec Wg).P = Try.prog from rfl, Sem.runT_eq, results_tmp (t := 4) rfl, events_results_tmp (t := 4) rfl]
  rfl
set_option maxRecDepth 100000 in
set_option maxHeartbeats 2000000 in
/-- No turns are left. -/
theorem take_full (h : PK Y Wg B0 pb o₀ A.θ a svs tr vs vt w) (i : Nat) (hA : A.Ok Wg) {s : SV} {x y : Value} (hi : svs[i]? = some s) (hm : List.Mem (s, x, y, .bool false) A.θ) (hl : svs.length < 1000000) (ht : tr.length = 16384) {Q : MI Y.spec → Value → World → Prop} (hq : Q A (.bool false) w) :
    cpsC (envM W Y.spec Wg) 69 #[.pointer (some ⟨pb, 0, none⟩), .int .i64 i] Q A w := by
  have O := envM_ok (W := W) (X := Y.spec) (Wg := Wg)
  refine cpsC_body O Try.func69 rfl ?_
  simp only [Try.ntmps69]
  refine cps_opaque fun Q' hQ => ?_
  walk_nrm
  obtain ⟨hp0, hp1, _⟩ := h.pcell
  have hpW : pb ≠ Wg := h.neW (.inr (.inl rfl))
  obtain ⟨g, cap, rfl, hgi, hgW⟩ := h.seatAt hi
  have hil : i < svs.length := (List.getElem?_eq_some_iff.1 hi).1
  obtain ⟨_, hsy, hx, hy, hz⟩ := LT.cells h.wd.lt hm
  have hsW : s.blk ≠ Wg := (hA.off s ⟨_, hm⟩).1
  have h1 : decide ((i : Int) < 0) = false := by simp
  have h2 : decide (svs.length ≤ i) = false := by simpa using hil
  have h3 : decide ((svs.length : Int) ≤ (i : Int)) = false := by simp; omega
  have h4 : decide (i < svs.length) = true := by simpa using hil
  have h5 : decide ((i : Int) < (svs.length : Int)) = true := by simp; omega
  have h6 : ¬ (i : Int) < 0 := by omega
  have h7 : i < svs.length := hil
  have h8 : (i : Int) < svs.length := by omega
  have h9 : (0 : Int) ≤ (i : Int) := by omega
  obtain ⟨a₁, cap₁, rfl⟩ := own_form0 h.mem.trace
  have h10 : ((tr.length : Int) == 16384) = true := by simp; omega
  have h11 : decide ((tr.length : Int) = 16384) = true := by simp; omega
  clear h6 h9 ht
  repeat refine cps_seq O ?_
  (refine cps_region O ?_; simp only [List.size_toArray, List.length_cons, List.length_nil, Nat.reduceAdd, Nat.zero_add, List.range, List.range.loop])
  refine valR (.bool false) rfl rfl (fun _ => by simp [go_sem, *]) (fun _ => by go_simp; try (first | rfl | (simp [*]))) ?_; try walk_nrm
  refine cpsR_nil O ?_
  repeat refine cps_seq O ?_
  (refine cps_region O ?_; simp only [List.size_toArray, List.length_cons, List.length_nil, Nat.reduceAdd, Nat.zero_add, List.range, List.range.loop])
  refine valR (.int .i64 i) rfl rfl (fun _ => by simp [go_sem, *]) (fun _ => by go_simp; try (first | rfl | (simp [*]))) ?_; try walk_nrm
  refine valR (.bool false) rfl rfl (fun _ => by simp [go_sem, *]) (fun _ => by go_simp; try (first | rfl | (simp [*]))) ?_; try walk_nrm
  refine valR (.bool false) rfl rfl (fun _ => by simp [go_sem, *]) (fun _ => by go_simp; try (first | rfl | (simp [*]))) ?_; try walk_nrm
  refine valR (.int .i64 i) rfl rfl (fun _ => by simp [go_sem, *]) (fun _ => by go_simp; try (first | rfl | (simp [*]))) ?_; try walk_nrm
  refine valR (.pointer (some ⟨pb, 0, none⟩)) rfl rfl (fun _ => by simp [go_sem, *]) (fun _ => by go_simp; try (first | rfl | (simp [*]))) ?_; try walk_nrm
  refine valR (.pointer (some ⟨pb, 0, none⟩)) rfl rfl (fun _ => by simp [go_sem, *]) (fun _ => by go_simp; try (first | rfl | (simp [*]))) ?_; try walk_nrm
  refine valR (.pointer (some ⟨pb, 0, none⟩)) rfl rfl (fun _ => by simp [go_sem, *]) (fun _ => by go_simp; try (first | rfl | (simp [*]))) ?_; try walk_nrm
  refine readR (ad := ⟨pb, 0, none⟩) (v := .slice (some ⟨g, 0, none⟩) svs.length cap) hpW hp0 rfl rfl (fun w₁ hc => by simp [go_sem, hc]) (fun w₁ hc => by go_simp) ?_; try walk_nrm
  refine valR (.int .i64 svs.length) rfl rfl (fun _ => by simp [go_sem, *]) (fun _ => by go_simp; try (first | rfl | (simp [*]))) ?_; try walk_nrm
  refine valR (.bool false) rfl rfl (fun _ => by simp [go_sem, *]) (fun _ => by go_simp; try (first | rfl | (simp [*]))) ?_; try walk_nrm
  refine valR (.bool false) rfl rfl (fun _ => by simp [go_sem, *]) (fun _ => by go_simp; try (first | rfl | (simp [*]))) ?_; try walk_nrm
  refine valR (.bool false) rfl rfl (fun _ => by simp [go_sem, *]) (fun _ => by go_simp; try (first | rfl | (simp [*]))) ?_; try walk_nrm
  refine valR (.pointer (some ⟨pb, 0, none⟩)) rfl rfl (fun _ => by simp [go_sem, *]) (fun _ => by go_simp; try (first | rfl | (simp [*]))) ?_; try walk_nrm
  refine valR (.pointer (some ⟨pb, 0, none⟩)) rfl rfl (fun _ => by simp [go_sem, *]) (fun _ => by go_simp; try (first | rfl | (simp [*]))) ?_; try walk_nrm
  refine valR (.pointer (some ⟨pb, 0, none⟩)) rfl rfl (fun _ => by simp [go_sem, *]) (fun _ => by go_simp; try (first | rfl | (simp [*]))) ?_; try walk_nrm
  refine readR (ad := ⟨pb, 0, none⟩) (v := .slice (some ⟨g, 0, none⟩) svs.length cap) hpW hp0 rfl rfl (fun w₁ hc => by simp [go_sem, hc]) (fun w₁ hc => by go_simp) ?_; try walk_nrm
  refine valR (.int .i64 i) rfl rfl (fun _ => by simp [go_sem, *]) (fun _ => by go_simp; try (first | rfl | (simp [*]))) ?_; try walk_nrm
  refine valR (.pointer (some ⟨g, i, none⟩)) rfl rfl (fun _ => by simp [go_sem, *]) (fun _ => by go_simp; try (first | rfl | (simp [*]))) ?_; try walk_nrm
  refine readR (ad := ⟨g, i, none⟩) (v := .pointer (some ⟨s.blk, 0, none⟩)) hgW hgi rfl rfl (fun w₁ hc => by simp [go_sem, hc]) (fun w₁ hc => by go_simp) ?_; try walk_nrm
  refine valR (.pointer (some ⟨s.blk, 0, none⟩)) rfl rfl (fun _ => by simp [go_sem, *]) (fun _ => by go_simp; try (first | rfl | (simp [*]))) ?_; try walk_nrm
  refine valR (.pointer (some ⟨s.blk, 3, none⟩)) rfl rfl (fun _ => by simp [go_sem, *]) (fun _ => by go_simp; try (first | rfl | (simp [*]))) ?_; try walk_nrm
  refine valR (.pointer (some ⟨s.blk, 5, none⟩)) rfl rfl (fun _ => by simp [go_sem, *]) (fun _ => by go_simp; try (first | rfl | (simp [*]))) ?_; try walk_nrm
  refine readR (ad := ⟨s.blk, 5, none⟩) (v := .bool false) hsW hz rfl rfl (fun w₁ hc => by simp [go_sem, hc]) (fun w₁ hc => by go_simp) ?_; try walk_nrm
  refine valR (.bool false) rfl rfl (fun _ => by simp [go_sem, *]) (fun _ => by go_simp; try (first | rfl | (simp [*]))) ?_; try walk_nrm
  refine valR (.bool false) rfl rfl (fun _ => by simp [go_sem, *]) (fun _ => by go_simp; try (first | rfl | (simp [*]))) ?_; try walk_nrm
  refine valR (.pointer (some ⟨pb, 0, none⟩)) rfl rfl (fun _ => by simp [go_sem, *]) (fun _ => by go_simp; try (first | rfl | (simp [*]))) ?_; try walk_nrm
  refine valR (.pointer (some ⟨pb, 0, none⟩)) rfl rfl (fun _ => by simp [go_sem, *]) (fun _ => by go_simp; try (first | rfl | (simp [*]))) ?_; try walk_nrm
  refine valR (.pointer (some ⟨pb, 1, none⟩)) rfl rfl (fun _ => by simp [go_sem, *]) (fun _ => by go_simp; try (first | rfl | (simp [*]))) ?_; try walk_nrm
  refine valR (.pointer (some ⟨pb, 1, none⟩)) rfl rfl (fun _ => by simp [go_sem, *]) (fun _ => by go_simp; try (first | rfl | (simp [*]))) ?_; try walk_nrm
  refine readR (ad := ⟨pb, 1, none⟩) (v := .slice a₁ tr.length cap₁) hpW hp1 rfl rfl (fun w₁ hc => by simp [go_sem, hc]) (fun w₁ hc => by go_simp) ?_; try walk_nrm
  refine valR (.int .i64 tr.length) rfl rfl (fun _ => by simp [go_sem, *]) (fun _ => by go_simp; try (first | rfl | (simp [*]))) ?_; try walk_nrm
  refine valR (.bool true) rfl rfl (fun _ => by simp [go_sem, *]) (fun _ => by go_simp; try (first | rfl | (simp [*]))) ?_; try walk_nrm
  refine valR (.bool true) rfl rfl (fun _ => by simp [go_sem, *]) (fun _ => by go_simp; try (first | rfl | (simp [*]))) ?_; try walk_nrm
  refine cpsR_nil O ?_
  refine cps_cond O (v := true) rfl ?_
  simp only [if_true]
  refine cps_seq O ?_
  (refine cps_region O ?_; simp only [List.size_toArray, List.length_cons, List.length_nil, Nat.reduceAdd, Nat.zero_add, List.range, List.range.loop])
  refine valR (.bool false) rfl rfl (fun _ => by simp [go_sem, *]) (fun _ => by go_simp; try (first | rfl | (simp [*]))) ?_; try walk_nrm
  refine cpsR_nil O ?_
  refine cps_ret O (hQ _ _ _ _ ⟨.inr rfl, .bool false, fun w₁ _ => ⟨#[], ?_, O.still _ _⟩, hq⟩)
  rw [show (envM W Y.spec Wg).P = Try.prog from rfl, Sem.runT_eq, results_tmp (t := 4) rfl, events_results_tmp (t := 4) rfl]
  rfl
end
end Go.Proofs.Ytdedmmjmiakidaa
/- Plain words: main gives a thread a turn: the turn is written down. No condition. -/
namespace Go.Proofs.Ytdedmmjmiakidaa
open Go.Conc Go.RowKit
open Go.ConcR (KK wgBlock WgAt stA smA rd wr mk)
theorem listed_none {P : Program} {fn : FuncId} {a : Act} {o : Oper} {w : World} (h : (execOp a.eval o).events P w #[] = #[]) : Go.Conc.listed P fn a o w = #[] := by
  unfold Go.Conc.listed; rw [h, seen_none]
section
variable {Y : Core} {W : Machine → Trace → Prop} {Wg B0 pb : Nat} {o₀ : Own} {A : MI Y.spec} {w : World} {a : Y.Full} {svs : List SV} {tr : List Turned} {vs vt : Value} {θ : Tab}
/-- A read of one cell that the others leave alone. -/
theorem opC_read {ops : Array Oper} {fn : FuncId} {X : Spec} {A : MI X} {i : Nat} {o : Oper} {a : Act} {K : Act → World → Prop} {ad : Addr} {v : Value} (hn : ad.block ≠ Wg) (hc : w.cell? ad = some v) (ho : ops[i]? = some o) (hw : Region.wanted o (yielded ops a.tmps) = true)
    (he : ∀ w₁, w₁.cell? ad = some v → (execOp a.eval o).events Try.prog w₁ #[] = #[⟨.cell ad, false, false⟩]) (hr : ∀ w₁, w₁.cell? ad = some v → (execOp a.eval o).run Try.prog w₁ = .ok (.value v) w₁)
    (h : ∀ w₁, RWg tWg Wg w w₁ → K (a.put o.dst v) w₁) : OpC Try.prog (RWg tWg Wg) (DH Wg (WgL Wg) (KT A.θ) A.still (isCh A.θ)) fn ops i K a w := by
  unfold OpC
  simp only [ho, hw, if_true]
  intro w₁ hR
  have hc1 := rwg_cell hn hc hR
  rw [hr w₁ hc1]
  refine ⟨dh_reads fun e hel => ?_, h w₁ hR⟩
  have hel := seen_sub _ _ _ e hel
  rw [he w₁ hc1] at hel
  simp only [List.mem_toArray, List.mem_cons, List.not_mem_nil, or_false] at hel
  refine ⟨ad, hel, fun ⟨a, e, hb⟩ => hn ?_, size_of_cell hc1⟩
  have e := Loc.cell.inj e
  subst e
  exact hb
theorem PK.alloc {u : World} {ob : Obj} {w' : World} (ho : Off Wg θ) (h : PK Y Wg B0 pb o₀ θ a svs tr vs vt w) (hu : Ps0 Try.prog (sig Wg θ) w u) (hu' : Ps0 Try.prog (sig Wg θ) w' (u.alloc ob)) (hk : KR Wg θ w w') :
    PK Y Wg B0 pb o₀ θ a svs tr vs vt w' ∧ w'.heap[u.heap.size]? = some ob ∧ ¬ mineB o₀ pb vs vt u.heap.size ∧ ¬ inF Wg θ u.heap.size := by
  have hF : ¬ inF Wg θ u.heap.size := fun hb => by
    obtain ⟨c, hc⟩ := real_of ho h.wd.kt h.wd.wg _ hb
    have := (Array.getElem?_eq_some_iff.1 hc).1
    rw [hu.size] at this
    omega
  have hm : ¬ mineB o₀ pb vs vt u.heap.size := fun hb => by
    obtain ⟨ob, hob⟩ := mine_lt h hb
    have := (Array.getElem?_eq_some_iff.1 hob).1
    rw [hu.size] at this
    omega
  have ht : Tm (inF Wg θ) (fun _ => False) w w' := Tm.of_lone hu hu' ((Sm.refl _ _).alloc ob)
  refine ⟨h.move ho (h.wd.kr hk) (ht.mono fun _ _ => False.elim) (h.mem.of_same (o₀ := o₀) fun b hb => ?_) (.inl rfl) (.inl rfl) h.ne3, ?_, hm, hF⟩
  · obtain ⟨ob, hob⟩ := mine_lt h hb
    exact ht.block b (Array.getElem?_eq_some_iff.1 hob).1 (fun x => x) (h.notF b hb)
  · rw [← hu'.heap _ hF]
    exact (alloc_old u ob).2.2
theorem own_base {w : World} {base : Nat} {e : TypeId} {size : Nat} {v : Value} {n : Nat} {xs : List Value} (h : w.ownsRow base e size v n xs) {b : Nat} (hb : v.ownBlock = some b) : base ≤ b ∧ ∃ c, w.heap[b]? = some (.cells c e (0, 0)) := by
  obtain ⟨_, h2⟩ := h
  rcases h2 with ⟨rfl, _⟩ | ⟨g, cap, cur, rfl, hg, hh, _⟩
  · simp [Value.ownBlock] at hb
  · simp only [Value.ownBlock, Option.some.injEq] at hb
    subst hb
    exact ⟨hg, _, hh⟩
theorem info_turned : (Try.prog.info? tTurned).map (fun i => (i.zero, i.size, i.bytes)) = some (some (.agg #[.int .i64 0, .int .u8 0, .int .i64 0]), 3, 24) := by kernel_rfl
theorem und_turns : Try.prog.underlying 95 = some (.slice tTurned) := by kernel_rfl
theorem flat_len (l : List Turned) : (l.flatMap turnCells).length = l.length * 3 := by
  induction l with
  | nil => rfl
  | cons x l ih => rw [List.flatMap_cons, List.length_append, ih, List.length_cons]; simp [turnCells]; omega
/-- The region in which the turn is written down. -/
noncomputable def r4ops : Array Oper := match (Try.f69.body.getD .skip) with
  | .seq _ (.seq _ (.seq _ (.seq (.region _ ops _) _))) => ops
  | _ => #[]
set_option maxRecDepth 100000 in
set_option maxHeartbeats 4000000 in
theorem take_trace (h : PK Y Wg B0 pb o₀ A.θ a svs tr vs vt w) (hA : A.Ok Wg) (hst : A.still = StT A.θ) {i : Nat} {s : SV} {op wd : Int} {z : Value} (hm : List.Mem (s, .int .u8 op, .int .i64 wd, z) A.θ) (hi : i < 1000000) (ht : tr.length < 16384)
    {x6 x7 x8 x9 x10 x11 x12 x13 x14 x15 x16 x17 x18 x19 x20 x21 x22 x23 x24 x25 x26 x27 x28 x29 x30 x31 x32 x33 x34 x35 x36 x37 x38 x39 x40 x41 x42 x43 x44 x45 v2 v3 v4 : Value} {Q : MI Y.spec → Exit → Array Value → World → Prop}
    (hq : ∀ vt' w' y46 y47 y48 y49 y50 y51 y52 y53 y54 y55 y56 y57 y58 y59 y60 y61 y62 y63, PK Y Wg B0 pb o₀ A.θ a svs (tr ++ [(i, op, wd)]) vs vt' w' → Q A .normal #[.pointer (some ⟨pb, 0, none⟩), .int .i64 i, v2, v3, v4, .pointer (some ⟨s.blk, 0, none⟩), x6, x7, x8, x9, x10, x11, x12, x13, x14, x15, x16, x17, x18, x19, x20, x21, x22, x23, x24, x25, x26, x27, x28, x29, x30, x31, x32, x33, x34, x35, x36, x37, x38, x39, x40, x41, x42, x43, x44, x45, y46, y47, y48, y49, y50, y51, y52, y53, y54, y55, y56, y57, y58, y59, y60, y61, y62, y63, undef, undef, undef, undef, undef, undef, undef, undef, undef, undef, undef, undef, undef] w') :
    cps (envM W Y.spec Wg) (.region 4 r4ops true) Q A #[.pointer (some ⟨pb, 0, none⟩), .int .i64 i, v2, v3, v4, .pointer (some ⟨s.blk, 0, none⟩), x6, x7, x8, x9, x10, x11, x12, x13, x14, x15, x16, x17, x18, x19, x20, x21, x22, x23, x24, x25, x26, x27, x28, x29, x30, x31, x32, x33, x34, x35, x36, x37, x38, x39, x40, x41, x42, x43, x44, x45, undef, undef, undef, undef, undef, undef, undef, undef, undef, undef, undef, undef, undef, undef, undef, undef, undef, undef, undef, undef, undef, undef, undef, undef, undef, undef, undef, undef, undef, undef, undef] w := by
  have O := envM_ok (W := W) (X := Y.spec) (Wg := Wg)
  simp only [r4ops, Try.f69, Option.getD_some]
  refine cps_drawn O (fun w => LT A.θ w) (by kernel_rfl) fun fn w₁ hR => ?_
  have T : Go.Conc.Terms (RWg tWg Wg) (DH Wg (WgL Wg) (KT A.θ) A.still (isCh A.θ)) := Env.Ok.terms (E := envM W Y.spec Wg) (n := A) O
  have hSR : ∀ x y, LT A.θ x → RWg tWg Wg x y → LT A.θ y := fun x y hx hr => (rwg_kr hA.off hr).lt hx
  have hQR : ∀ (a : Act) x y, (a.defers = [] ∧ Exit.normal = Exit.normal ∧ ∀ w', RWg tWg Wg x w' → Q A .normal a.tmps w') → RWg tWg Wg x y → (a.defers = [] ∧ Exit.normal = Exit.normal ∧ ∀ w', RWg tWg Wg y w' → Q A .normal a.tmps w') := fun a x y q r => ⟨q.1, q.2.1, fun w' hw => q.2.2 w' (O.rtrans _ _ _ r hw)⟩
  have h0 := h.rwg hA.off (RWg.trans _ _ _ hR (RWg.at w₁ (w₁.drawn + 1)))
  obtain ⟨w0, hw0⟩ : ∃ w0 : World, w0 = { w₁ with drawn := w₁.drawn + 1 } := ⟨_, rfl⟩
  rw [← hw0]
  replace h0 : PK Y Wg B0 pb o₀ A.θ a svs tr vs vt w0 := by rw [hw0]; exact h0
  clear hw0 hR h
  have hS := h0.wd.lt
  change AnyCH Try.prog (RWg tWg Wg) (DH Wg (WgL Wg) (KT A.θ) A.still (isCh A.θ)) fn .any _ _ _ _ _ _ _
  walk_nrm
  dsimp only at hq
  have hpW : pb ≠ Wg := h0.neW (.inr (.inl rfl))
  have hsW : s.blk ≠ Wg := (hA.off s ⟨_, hm⟩).1
  refine anyCH_take T hSR hQR (i := 0) rfl (by kernel_rfl) (by kernel_rfl) (by kernel_rfl) (v := .pointer (some ⟨pb, 0, none⟩)) (.inl ⟨rfl, fun w hS => ⟨by go_simp; try (first | rfl | (simp [*])), by rw [listed_none (by simp [go_sem, *])]; exact T.idle _⟩⟩) hS ?_; try walk_nrm
  refine anyCH_take T hSR hQR (i := 1) rfl (by kernel_rfl) (by kernel_rfl) (by kernel_rfl) (v := .pointer (some ⟨pb, 0, none⟩)) (.inl ⟨rfl, fun w hS => ⟨by go_simp; try (first | rfl | (simp [*])), by rw [listed_none (by simp [go_sem, *])]; exact T.idle _⟩⟩) hS ?_; try walk_nrm
  refine anyCH_take T hSR hQR (i := 2) rfl (by kernel_rfl) (by kernel_rfl) (by kernel_rfl) (v := .pointer (some ⟨pb, 0, none⟩)) (.inl ⟨rfl, fun w hS => ⟨by go_simp; try (first | rfl | (simp [*])), by rw [listed_none (by simp [go_sem, *])]; exact T.idle _⟩⟩) hS ?_; try walk_nrm
  refine anyCH_take T hSR hQR (i := 3) rfl (by kernel_rfl) (by kernel_rfl) (by kernel_rfl) (v := .pointer (some ⟨pb, 1, none⟩)) (.inl ⟨rfl, fun w hS => ⟨by go_simp; try (first | rfl | (simp [*])), by rw [listed_none (by simp [go_sem, *])]; exact T.idle _⟩⟩) hS ?_; try walk_nrm
  refine anyCH_take T hSR hQR (i := 4) rfl (by kernel_rfl) (by kernel_rfl) (by kernel_rfl) (v := .pointer (some ⟨pb, 1, none⟩)) (.inl ⟨rfl, fun w hS => ⟨by go_simp; try (first | rfl | (simp [*])), by rw [listed_none (by simp [go_sem, *])]; exact T.idle _⟩⟩) hS ?_; try walk_nrm
  refine anyCH_take T hSR hQR (i := 6) rfl (by kernel_rfl) (by kernel_rfl) (by kernel_rfl) (v := .int .i64 i) (.inl ⟨rfl, fun w hS => ⟨by go_simp; try (first | rfl | (simp [*])), by rw [listed_none (by simp [go_sem, *])]; exact T.idle _⟩⟩) hS ?_; try walk_nrm
  refine anyCH_take T hSR hQR (i := 7) rfl (by kernel_rfl) (by kernel_rfl) (by kernel_rfl) (v := .pointer (some ⟨s.blk, 0, none⟩)) (.inl ⟨rfl, fun w hS => ⟨by go_simp; try (first | rfl | (simp [*])), by rw [listed_none (by simp [go_sem, *])]; exact T.idle _⟩⟩) hS ?_; try walk_nrm
  refine anyCH_take T hSR hQR (i := 8) rfl (by kernel_rfl) (by kernel_rfl) (by kernel_rfl) (v := .pointer (some ⟨s.blk, 0, none⟩)) (.inl ⟨rfl, fun w hS => ⟨by go_simp; try (first | rfl | (simp [*])), by rw [listed_none (by simp [go_sem, *])]; exact T.idle _⟩⟩) hS ?_; try walk_nrm
  refine anyCH_take T hSR hQR (i := 9) rfl (by kernel_rfl) (by kernel_rfl) (by kernel_rfl) (v := .pointer (some ⟨s.blk, 3, none⟩)) (.inl ⟨rfl, fun w hS => ⟨by go_simp; try (first | rfl | (simp [*])), by rw [listed_none (by simp [go_sem, *])]; exact T.idle _⟩⟩) hS ?_; try walk_nrm
  refine anyCH_take T hSR hQR (i := 10) rfl (by kernel_rfl) (by kernel_rfl) (by kernel_rfl) (v := .pointer (some ⟨s.blk, 3, none⟩)) (.inl ⟨rfl, fun w hS => ⟨by go_simp; try (first | rfl | (simp [*])), by rw [listed_none (by simp [go_sem, *])]; exact T.idle _⟩⟩) hS ?_; try walk_nrm
  refine anyCH_take T hSR hQR (i := 11) rfl (by kernel_rfl) (by kernel_rfl) (by kernel_rfl) (v := .agg #[.int .u8 op, .int .i64 wd]) (.inl ⟨rfl, fun w hS => ⟨?_, ?_⟩⟩) hS ?_
  · obtain ⟨_, hsy, hx, hy, hz⟩ := LT.cells hS hm
    go_simp
  · obtain ⟨_, hsy, hx, hy, hz⟩ := LT.cells hS hm
    have hbl := size_of_cell hx
    refine dh_reads fun e he => ?_
    have he := seen_sub _ _ _ e he
    simp [go_sem, hx, hy] at he
    rcases he with rfl | rfl <;> exact ⟨_, rfl, fun ⟨a, e, hb⟩ => (by have e := Loc.cell.inj e; subst e; exact hsW hb), hbl⟩
  try walk_nrm
  refine anyCH_take T hSR hQR (i := 12) rfl (by kernel_rfl) (by kernel_rfl) (by kernel_rfl) (v := .agg #[.int .i64 i, .int .u8 op, .int .i64 wd]) (.inl ⟨rfl, fun w hS => ⟨by go_simp; try (first | rfl | (simp [*])), by rw [listed_none (by simp [go_sem, *])]; exact T.idle _⟩⟩) hS ?_; try walk_nrm
  have U : Suits Try.prog (sig Wg A.θ) (RWg tWg Wg) (DH Wg (WgL Wg) (KT A.θ) A.still (isCh A.θ)) (KR Wg A.θ) := by rw [hst]; exact suits hA.off fun l hl => by obtain ⟨a, e, q⟩ := hl; exact ⟨a, e, .inl q⟩
  obtain ⟨hp0, hp1, _⟩ := h0.pcell
  have fin : ∀ (w4 : World) (nb : Nat), PK Y Wg B0 pb o₀ A.θ a svs tr vs vt w4 → w4.heap[nb]? = some (.cells #[.int .i64 i, .int .u8 op, .int .i64 wd] tTurned (0, 0)) → ¬ mineB o₀ pb vs vt nb → ¬ inF Wg A.θ nb →
      AnyCH Try.prog (RWg tWg Wg) (DH Wg (WgL Wg) (KT A.θ) A.still (isCh A.θ)) fn .any r4ops (fun e a w => a.defers = [] ∧ e = .normal ∧ ∀ w', RWg tWg Wg w w' → Q A .normal a.tmps w') (fun w => LT A.θ w) 5 #[true, true, true, true, true, true, true, true, true, true, true, true, true, true, false, false, false, false, false]
        ⟨#[.pointer (some ⟨pb, 0, none⟩), .int .i64 i, v2, v3, v4, .pointer (some ⟨s.blk, 0, none⟩), x6, x7, x8, x9, x10, x11, x12, x13, x14, x15, x16, x17, x18, x19, x20, x21, x22, x23, x24, x25] ++ #[x26, x27, x28, x29, x30, x31, x32, x33, x34, x35, x36, x37, x38, x39, x40, x41, x42, x43, x44, x45] ++ #[.pointer (some ⟨pb, 0, none⟩), .pointer (some ⟨pb, 0, none⟩), .pointer (some ⟨pb, 0, none⟩), .pointer (some ⟨pb, 1, none⟩), .pointer (some ⟨pb, 1, none⟩), vt, .int .i64 i, .pointer (some ⟨s.blk, 0, none⟩), .pointer (some ⟨s.blk, 0, none⟩), .pointer (some ⟨s.blk, 3, none⟩), .pointer (some ⟨s.blk, 3, none⟩), .agg #[.int .u8 op, .int .i64 wd], .agg #[.int .i64 i, .int .u8 op, .int .i64 wd], .slice (some ⟨nb, 0, none⟩) 1 1, undef, undef, undef, undef] ++ #[undef, undef, undef, undef, undef, undef, undef, undef, undef, undef, undef, undef, undef], []⟩ w4 := by
    intro w4 nb h4 hnb hnm hnF
    have hS4 := h4.wd.lt
    simp only [r4ops, Try.f69, Option.getD_some]
    walk_nrm
    clear hst
    refine anyCH_all (rs := [14]) (by kernel_rfl) (by simp) fun j hj => ?_
    simp only [List.mem_cons, List.not_mem_nil, or_false] at hj
    subst hj
    have real4 := real_of hA.off h4.wd.kt h4.wd.wg
    refine opC_lone (σ := sig Wg A.θ) (K := KR Wg A.θ) (thr_fit _) U real4 rfl (by kernel_rfl) rfl (fun _ => rfl) fun u hu => ?_
    obtain ⟨i0, hi0, hz0, hz1, hz2⟩ := info_parts info_turned
    have hvtF : ∀ b, vt.ownBlock = some b → ¬ inF Wg A.θ b := fun b hb => h4.notF b (.inr (.inr (.inr hb)))
    have hown : u.ownsRow B0 tTurned 3 vt tr.length (tr.flatMap turnCells) := ownsRow_of h4.mem.trace fun b hb => hu.heap b (hvtF b hb)
    have hunb : u.heap[nb]? = some (.cells #[.int .i64 i, .int .u8 op, .int .i64 wd] tTurned (0, 0)) := (hu.heap nb hnF).trans hnb
    have hpl : pb < u.heap.size := by rw [hu.size]; exact (Array.getElem?_eq_some_iff.1 h4.mem.row).1
    obtain ⟨v', u', hrun, ho', hg', _, hat⟩ := run_append_own_at (P := Try.prog) u B0 95 95 tTurned i0 _ 3 24 und_turns hi0 hz0 hz1 hz2 rfl (by decide) vt tr.length (tr.flatMap turnCells) hown ⟨nb, 0, none⟩ 1 1 (turnCells (i, op, wd)) rfl
      (fun j x hx => by
        have e : ((⟨nb, 0, none⟩ : Addr).add j) = ⟨nb, j, none⟩ := by
          unfold Addr.add
          split <;> simp_all
        rw [e]
        simp only [World.cell?, hunb]
        simpa [turnCells] using hx) (fun x hx => by simp [turnCells] at hx; rcases hx with rfl | rfl | rfl <;> rfl) (by unfold maxLen; omega) (by omega) (by have := h4.base; omega)
    refine ⟨?_, fun f args w' => ?_⟩
    · unfold Oper.wp
      simp [execOp, resolve, invoke, builtin, Act.eval, hrun, Result.andThen]
      intro w' hu' hk
      have hsz := hu.size
      have h5 := h4.wd.kr hk
      have ht5 : Tm (inF Wg A.θ) (fun b => vt.ownBlock = some b) w4 w' := Tm.of_lone hu hu' (sm_grown hg' fun k e => e)
      have hF' : ∀ b, inF Wg A.θ b → b < w4.heap.size := fun b hb => by
        obtain ⟨c, hc⟩ := real4 b hb
        exact (Array.getElem?_eq_some_iff.1 hc).1
      have hv'F : ∀ b, v'.ownBlock = some b → ¬ inF Wg A.θ b := fun b hb hF => by
        rcases hat with e | e
        · exact hvtF b (e ▸ hb) hF
        · rw [e] at hb; obtain rfl := Option.some.inj hb; have := hF' _ hF; omega
      have htr : w'.ownsRow B0 tTurned 3 v' (tr ++ [(i, op, wd)]).length ((tr ++ [(i, op, wd)]).flatMap turnCells) := by
        have := ownsRow_of (w' := w') ho' fun b hb => (hu'.heap b (hv'F b hb)).symm
        simpa using this
      have hatw : v'.ownBlock = vt.ownBlock ∨ ∃ b, v'.ownBlock = some b ∧ w4.heap.size ≤ b := hat.imp id fun e => ⟨_, e, by omega⟩
      have hvs : w'.ownsRow B0 tSeatP 1 vs svs.length (svs.map fun s => .pointer (some ⟨s.blk, 0, none⟩)) := ownsRow_of h4.mem.seats fun b hb => by
        obtain ⟨ob, hob⟩ := mine_lt h4 (.inr (.inr (.inl hb)))
        exact ht5.block b (Array.getElem?_eq_some_iff.1 hob).1 (fun e => h4.ne3 b hb e) (h4.notF b (.inr (.inr (.inl hb))))
      have hrow : w'.heap[pb]? = some (.cells #[vs, vt, .slice none 0 0] tPlay (0, 0)) := by
        rw [ht5.block pb (by omega) h4.ne2 (h4.notF pb (.inr (.inl rfl)))]
        exact h4.mem.row
      refine ⟨h5.lt, ?_⟩
      clear hrun ho' hg' hat hu' hu hown hunb hk
      try walk_nrm
      have hS := h5.lt
      refine anyCH_take T hSR hQR (i := 15) rfl (by kernel_rfl) (by kernel_rfl) (by kernel_rfl) (v := .pointer (some ⟨pb, 0, none⟩)) (.inl ⟨rfl, fun w hS => ⟨by go_simp; try (first | rfl | (simp [*])), by rw [listed_none (by simp [go_sem, *])]; exact T.idle _⟩⟩) hS ?_; try walk_nrm
      refine anyCH_take T hSR hQR (i := 16) rfl (by kernel_rfl) (by kernel_rfl) (by kernel_rfl) (v := .pointer (some ⟨pb, 1, none⟩)) (.inl ⟨rfl, fun w hS => ⟨by go_simp; try (first | rfl | (simp [*])), by rw [listed_none (by simp [go_sem, *])]; exact T.idle _⟩⟩) hS ?_; try walk_nrm
      refine anyCH_take T hSR hQR (i := 17) rfl (by kernel_rfl) (by kernel_rfl) (by kernel_rfl) (v := .pointer (some ⟨pb, 1, none⟩)) (.inl ⟨rfl, fun w hS => ⟨by go_simp; try (first | rfl | (simp [*])), by rw [listed_none (by simp [go_sem, *])]; exact T.idle _⟩⟩) hS ?_; try walk_nrm
      refine anyCH_all (rs := [18]) (by kernel_rfl) (by simp) fun j hj => ?_
      simp only [List.mem_cons, List.not_mem_nil, or_false] at hj
      subst hj
      refine opC_lone (σ := sig Wg A.θ) (K := KR Wg A.θ) (thr_fit _) U (real_of hA.off h5.kt h5.wg) rfl (by kernel_rfl) rfl (fun _ => rfl) fun u2 hu2 => ?_
      have hpF := h4.notF pb (.inr (.inl rfl))
      have hr2 : u2.heap[pb]? = some (.cells #[vs, vt, .slice none 0 0] tPlay (0, 0)) := (hu2.heap pb hpF).trans hrow
      have hc1 : u2.cell? ⟨pb, 1, none⟩ = some vt := by simp [World.cell?, hr2]
      have hf1 : u2.frozen? ⟨pb, 1, none⟩ = false := by simp [World.frozen?, hr2]
      obtain ⟨av, cv, hav⟩ := own_form0 htr
      refine ⟨?_, fun f args w' => ?_⟩
      · unfold Oper.wp
        rw [hav]
        go_simp
        intro w6 hu6 hk6
        refine ⟨hk6.lt h5.lt, anyCH_done (by kernel_rfl) ⟨rfl, rfl, fun w7 hR7 => ?_⟩ 0⟩
        have hwd6 := h5.kr hk6
        have ht6 : Tm (inF Wg A.θ) (fun b => b = pb) w' w6 := Tm.of_lone hu2 hu6 (Sm.setCell (F := fun b => b = pb) (Sm.refl _ _) rfl _)
        have hsz2 := hu2.size
        have hon : ∀ b, B0 ≤ b → o₀ b = none := fun b hb => by
          cases e : o₀ b with
          | none => rfl
          | some ob => have := (h4.old b ob e).2; omega
        have hsz5 := ht5.size
        have htt : Tm (inF Wg A.θ) (fun b => mineB o₀ pb vs vt b ∧ o₀ b = none) w4 w6 :=
          (ht5.mono fun b _ hb => ⟨.inr (.inr (.inr hb)), hon b (own_base h4.mem.trace hb).1⟩).trans (ht6.mono fun b _ hb => by subst hb; exact ⟨.inr (.inl rfl), hon _ h4.base⟩) |> fun x => x
        have hv'pb : v'.ownBlock ≠ some pb := by
          rcases hatw with e | ⟨b, e, hb⟩
          · rw [e]; exact h4.ne2
          · rw [e]; intro e; have := Option.some.inj e; omega
        have hb6 : ∀ b, b < w'.heap.size → b ≠ pb → ¬ inF Wg A.θ b → w6.heap[b]? = w'.heap[b]? := fun b hb hne hF => ht6.block b hb hne hF
        have hm6 : PMem B0 pb svs (tr ++ [(i, op, wd)]) vs v' w6 := by
          refine ⟨?_, ownsRow_of hvs fun b hb => ?_, ownsRow_of htr fun b hb => ?_⟩
          · rw [← hu6.heap pb hpF, hav]
            have := Row.set hr2 1 (.slice av (tr.length + 1) cv)
            simpa [Row] using this
          · obtain ⟨_, c, hc⟩ := own_base hvs hb
            exact hb6 b (Array.getElem?_eq_some_iff.1 hc).1 (fun e => h4.ne1 (e ▸ hb)) (h4.notF b (.inr (.inr (.inl hb))))
          · obtain ⟨_, c, hc⟩ := own_base htr hb
            exact hb6 b (Array.getElem?_eq_some_iff.1 hc).1 (fun e => hv'pb (e ▸ hb)) (hv'F b hb)
        have hne3 : ∀ b, vs.ownBlock = some b → v'.ownBlock ≠ some b := fun b hb => by
          rcases hatw with e | ⟨b', e, hl⟩
          · rw [e]; exact h4.ne3 b hb
          · rw [e]; intro e
            obtain rfl := Option.some.inj e
            obtain ⟨ob, hob⟩ := mine_lt h4 (.inr (.inr (.inl hb)))
            have := (Array.getElem?_eq_some_iff.1 hob).1
            omega
        exact hq v' w7 _ _ _ _ _ _ _ _ _ _ _ _ _ _ _ _ _ _ ((h4.move hA.off hwd6 htt hm6 (.inl rfl) hatw hne3).rwg hA.off hR7)
      · rw [hav]
        simp [go_sem, hc1, hf1]
    · simp [execOp, resolve, invoke, builtin, Act.eval, hrun, Result.andThen]
  clear hst
  refine anyCH_all (rs := [5, 13]) (by kernel_rfl) (by simp) fun j hj => ?_
  simp only [List.mem_cons, List.not_mem_nil, or_false] at hj
  rcases hj with rfl | rfl
  · refine opC_read (ad := ⟨pb, 1, none⟩) (v := vt) hpW hp1 rfl rfl (fun w hc => by simp [go_sem, hc]) (fun w hc => by go_simp) fun w2 hR2 => ⟨hSR _ _ hS hR2, ?_⟩
    have h2 := h0.rwg hA.off hR2
    walk_nrm
    refine anyCH_all (rs := [13]) (by kernel_rfl) (by simp) fun j hj => ?_
    simp only [List.mem_cons, List.not_mem_nil, or_false] at hj
    subst hj
    refine opC_lone (σ := sig Wg A.θ) (K := KR Wg A.θ) (thr_fit _) U (real_of hA.off h2.wd.kt h2.wd.wg) rfl (by kernel_rfl) rfl (fun _ => rfl) fun u hu => ⟨?_, fun f args w' => ?_⟩
    · unfold Oper.wp
      go_simp
      intro w' hu' hk
      obtain ⟨h5, hnb, hnm, hnF⟩ := h2.alloc hA.off hu hu' hk
      refine ⟨h5.wd.lt, ?_⟩
      try walk_nrm
      have := fin w' _ h5 hnb hnm hnF
      simp only [r4ops, Try.f69, Option.getD_some] at this
      simp only [List.append_toArray, List.cons_append, List.nil_append] at this
      exact this
    · simp [go_sem]
  · refine opC_lone (σ := sig Wg A.θ) (K := KR Wg A.θ) (thr_fit _) U (real_of hA.off h0.wd.kt h0.wd.wg) rfl (by kernel_rfl) rfl (fun _ => rfl) fun u hu => ⟨?_, fun f args w' => ?_⟩
    · unfold Oper.wp
      go_simp
      intro w' hu' hk
      obtain ⟨h5, hnb, hnm, hnF⟩ := h0.alloc hA.off hu hu' hk
      refine ⟨h5.wd.lt, ?_⟩
      try walk_nrm
      refine anyCH_all (rs := [5]) (by kernel_rfl) (by simp) fun j hj => ?_
      simp only [List.mem_cons, List.not_mem_nil, or_false] at hj
      subst hj
      refine opC_read (ad := ⟨pb, 1, none⟩) (v := vt) hpW h5.pcell.2.1 rfl rfl (fun w hc => by simp [go_sem, hc]) (fun w hc => by go_simp) fun w2 hR2 => ⟨hSR _ _ h5.wd.lt hR2, ?_⟩
      have h6 := h5.rwg hA.off hR2
      have hnW : u.heap.size ≠ Wg := fun e => hnF (.inl e)
      have := fin w2 _ h6 ((hR2.block _ hnW).trans hnb) hnm hnF
      simp only [r4ops, Try.f69, Option.getD_some] at this
      try walk_nrm
      simp only [Act.put, Act.eval, List.append_toArray, List.cons_append, List.nil_append] at this
      exact this
    · simp [go_sem]
end
end Go.Proofs.Ytdedmmjmiakidaa
