/- Plain words: a machine in which goroutine 0 waits for a group, all others only leaving. No condition. -/
import Derived.Test.YtdedmmjmiakidaaFwAC
import Derived.Conc.LeavingOf
import Derived.Test.YtdedmmjmiakidaaFwAD
import Derived.Conc.WgGenN2
set_option linter.unusedVariables false
set_option linter.unusedSimpArgs false
/- Plain words: a machine in which goroutine 0 waits for a group, all others only leaving. No condition. -/
namespace Go.Proofs.Ytdedmmjmiakidaa
open Go.Conc
open Go.ConcN (sumTo upd sumTo_upd upd_ne upd_same)
open Go.ConcR (KK wgBlock WgAt stA smA rd wr mk)

/-- How many are counted. -/
def cnt4 (ph : Nat → Nat) (i : Nat) : Nat := if ph i = 4 then 1 else 0
/-- The group's state beside the phases; whether goroutine 0 has said that it waits. -/
inductive WMode (N : Nat) (ph : Nat → Nat) : Bool → Int → Int → Prop
  | opn (h : ∀ i, ph i = 0 ∨ ph i = 4) : WMode N ph false (((sumTo N (cnt4 ph) : Nat) : Int) * KK) 0
  | reg (h : ∀ i, ph i = 0 ∨ ph i = 4) (hV : 1 ≤ sumTo N (cnt4 ph)) : WMode N ph true (((sumTo N (cnt4 ph) : Nat) : Int) * KK + 1) 0
  | last (l : Nat) (hl : l < N) (h2 : ph l = 3 ∨ ph l = 2) (h : ∀ i, i ≠ l → ph i = 0) : WMode N ph true 1 0
  | rel (l : Nat) (hl : l < N) (h2 : ph l = 1) (h : ∀ i, i ≠ l → ph i = 0) : WMode N ph true 0 0
  | semd (h : ∀ i, ph i = 0) : WMode N ph true 0 1

/-- The frame. -/
structure WB (P : Program) (ty : TypeId) (Wg : Nat) (Sh : Loc → Prop) (m d : Nat) (b : Bool) (N : Nat) (ph : Nat → Nat) (gs : Array Goroutine) (T : Trace) (w : World) (q : Nat → Nat) : Prop where
  size : gs.size = N
  idle : ∀ i g, 0 < i → gs[i]? = some g → Lv P ty Wg (q i) (Deaf T i) (ph i) g
  above : ∀ j, N ≤ j → Deaf T j = 0 ∧ ph j = 0
  zero : ph 0 = 0
  past : PastW (fun _ => False) Sh (WgL Wg) (fun g => g = 0) (fun g => g = 0 ∧ d = 0) (fun _ => False) w.heap.size 0 T
  deaf : Deaf T 0 = d
  wg : ∃ st sm, WgAt ty Wg w st sm ∧ WMode N ph b st sm
  few : sumTo N (cnt4 ph) ≤ m

section
variable {P : Program} {W : Machine → Trace → Prop} {ty : TypeId} {Wg : Nat} {Sh : Loc → Prop} {m d : Nat} {b : Bool} {N : Nat} {ph : Nat → Nat} {gs : Array Goroutine} {T : Trace} {w : World} {q : Nat → Nat}

theorem WB.at (B : WB P ty Wg Sh m d b N ph gs T w q) (n : Nat) : WB P ty Wg Sh m d b N ph gs T (w.at n) q := ⟨B.size, B.idle, B.above, B.zero, B.past, B.deaf, B.wg, B.few⟩
theorem WB.again (B : WB P ty Wg Sh m d b N ph gs T w q) {i : Nat} {g : Goroutine} (hi : 0 < i) (hg : gs[i]? = some g) (w' : World) : g.again w' = g := again_of_running (B.idle i g hi hg).status w'
theorem WB.awake (B : WB P ty Wg Sh m d b N ph gs T w q) {i : Nat} {g : Goroutine} (hi : 0 < i) (hg : gs[i]? = some g) : awake g := awake_of ((B.idle i g hi hg).status.elim .inl fun z => .inr (.inr z))

theorem cnt4_upd {ph : Nat → Nat} {i N p : Nat} (hi : i < N) (h4 : ph i = 4) (hp : p ≠ 4) : sumTo N (cnt4 (upd ph i p)) + 1 = sumTo N (cnt4 ph) := by
  have h : sumTo N (fun a => upd (cnt4 ph) i 0 a) + cnt4 ph i = sumTo N (fun a => cnt4 ph a) + 0 := sumTo_upd (cnt4 ph) 0 (fun x : Nat => x) hi
  have e : sumTo N (fun a => upd (cnt4 ph) i 0 a) = sumTo N (cnt4 (upd ph i p)) := Go.ConcN.sumTo_congr fun a _ => by
    by_cases ea : a = i
    · subst ea; simp [upd, cnt4, hp]
    · simp [upd, cnt4, ea]
  have e2 : cnt4 ph i = 1 := by simp [cnt4, h4]
  have e4 : sumTo N (fun a => cnt4 ph a) = sumTo N (cnt4 ph) := rfl
  rw [e, e2, e4] at h
  omega
theorem cnt4_zero {ph : Nat → Nat} : ∀ {N : Nat}, sumTo N (cnt4 ph) = 0 → ∀ i, i < N → ph i ≠ 4
  | N + 1, h, i, hi => by
    have h' : sumTo N (cnt4 ph) + cnt4 ph N = 0 := h
    by_cases e : i = N
    · subst e; intro h4; simp [cnt4, h4] at h'
    · exact cnt4_zero (N := N) (by omega) i (by omega)

theorem cnt4_none : ∀ N : Nat, sumTo N (cnt4 fun _ => 0) = 0
  | 0 => rfl
  | N + 1 => by
    show sumTo N (cnt4 fun _ => 0) + cnt4 (fun _ => 0) N = 0
    rw [cnt4_none N]; rfl
theorem cnt4_pos {ph : Nat → Nat} : ∀ {N : Nat}, 0 < sumTo N (cnt4 ph) → ∃ i, ph i = 4
  | N + 1, h => by
    have h' : 0 < sumTo N (cnt4 ph) + cnt4 ph N := h
    by_cases e : ph N = 4
    · exact ⟨N, e⟩
    · have : cnt4 ph N = 0 := by simp [cnt4, e]
      exact cnt4_pos (N := N) (by omega)

/-- One leaver's record is laid anew. -/
theorem WB.put (B : WB P ty Wg Sh m d b N ph gs T w q) {i n' p : Nat} {g' : Goroutine} {ops : Array MemOp} {gs' : Array Goroutine} {w' : World} (hpos : 0 < i) (hlt : i < N) (hsz : gs'.size = gs.size) (hother : ∀ x, 0 < x → x ≠ i → gs'[x]? = gs[x]?) (hself : gs'[i]? = some g')
    (hops : ∀ op ∈ ops, op.g = i) (hidle : Lv P ty Wg n' (Deaf (T ++ ops) i) p g')
    (hpast : PastW (fun _ => False) Sh (WgL Wg) (fun g => g = 0) (fun g => g = 0 ∧ d = 0) (fun _ => False) w'.heap.size 0 (T ++ ops)) {b' : Bool} (hwg : ∃ st sm, WgAt ty Wg w' st sm ∧ WMode N (upd ph i p) b' st sm) (hfew : sumTo N (cnt4 (upd ph i p)) ≤ m) :
    WB P ty Wg Sh m d b' N (upd ph i p) gs' (T ++ ops) w' (upd q i n') := by
  refine ⟨by rw [hsz, B.size], fun x y hx hy => ?_, fun j hj => ?_, by rw [upd_ne ph p (by omega)]; exact B.zero, hpast, by rw [Deaf_other T (g' := i) (by omega) ops hops]; exact B.deaf, hwg, hfew⟩
  · by_cases e : x = i
    · subst e
      rw [hself] at hy
      obtain rfl := Option.some.inj hy
      rw [upd_same, upd_same]; exact hidle
    · rw [hother x hx e] at hy
      rw [upd_ne q n' e, upd_ne ph p e, Deaf_other T (fun z => e z.symm) ops hops]
      exact B.idle x y hx hy
  · rw [Deaf_other T (g' := i) (by omega) ops hops, upd_ne ph p (by omega)]
    exact B.above j hj

theorem deaf_semEvents {i : Nat} {fn : FuncId} {pos : String} {a : Addr} (hd : 0 < Deaf T i) : ∀ k, k ≤ (MemOp.ofEvents i fn pos (semEvents a)).size → 0 < (T ++ MemOp.ofEvents i fn pos (semEvents a)).deaf i (T.size + k) := by
  have hof : MemOp.ofEvents i fn pos (semEvents a) = #[{ g := i, fn, pos, act := .mark .disable }, { g := i, fn, pos, act := .access ⟨.cell a, false, true⟩ }, { g := i, fn, pos, act := .access ⟨.cell a, true, true⟩ }, { g := i, fn, pos, act := .mark .enable }] := by
    simp [MemOp.ofEvents, semEvents, MemAct.ofEvent]
  rw [hof]
  generalize hu : (#[{ g := i, fn, pos, act := .mark .disable }, { g := i, fn, pos, act := .access ⟨.cell a, false, true⟩ }, { g := i, fn, pos, act := .access ⟨.cell a, true, true⟩ }, { g := i, fn, pos, act := .mark .enable }] : Trace) = u
  have hus : u.size = 4 := by rw [← hu]; rfl
  have hg : ∀ k x, u[k]? = some x → (T ++ u)[T.size + k]? = some x := fun k x h => by rw [at_new]; exact h
  have h0 : (T ++ u).deaf i T.size = Deaf T i := deaf_old (Nat.le_refl _)
  have g0 : (T ++ u)[T.size]? = some { g := i, fn, pos, act := .mark .disable } := hg 0 _ (by rw [← hu]; rfl)
  have g1 : (T ++ u)[T.size + 1]? = some { g := i, fn, pos, act := .access ⟨.cell a, false, true⟩ } := hg 1 _ (by rw [← hu]; rfl)
  have g2 : (T ++ u)[T.size + 1 + 1]? = some { g := i, fn, pos, act := .access ⟨.cell a, true, true⟩ } := hg 2 _ (by rw [← hu]; rfl)
  have g3 : (T ++ u)[T.size + 1 + 1 + 1]? = some { g := i, fn, pos, act := .mark .enable } := hg 3 _ (by rw [← hu]; rfl)
  have s1 : (T ++ u).deaf i (T.size + 1) = Deaf T i + 1 := by
    rw [deaf_succ g0, h0]; simp [deafStep]
  have s2 : (T ++ u).deaf i (T.size + 1 + 1) = Deaf T i + 1 := by
    rw [deaf_succ g1, s1]; simp [deafStep]
  have s3 : (T ++ u).deaf i (T.size + 1 + 1 + 1) = Deaf T i + 1 := by
    rw [deaf_succ g2, s2]; simp [deafStep]
  have s4 : (T ++ u).deaf i (T.size + 1 + 1 + 1 + 1) = Deaf T i := by
    rw [deaf_succ g3, s3]; simp [deafStep]
  intro k hk
  rw [hus] at hk
  rcases k with _ | _ | _ | _ | _ | k
  · rw [Nat.add_zero, h0]; exact hd
  · rw [show T.size + (0 + 1) = T.size + 1 from rfl, s1]; omega
  · rw [show T.size + (0 + 1 + 1) = T.size + 1 + 1 from rfl, s2]; omega
  · rw [show T.size + (0 + 1 + 1 + 1) = T.size + 1 + 1 + 1 from rfl, s3]; omega
  · rw [show T.size + (0 + 1 + 1 + 1 + 1) = T.size + 1 + 1 + 1 + 1 from rfl, s4]; exact hd
  · omega

/-- What goroutine 0's record is behind another's step. -/
def Woke (a a' : Goroutine) : Prop := a' = a ∨ (a.status = .blocked ∧ a' = { a with status := .running })
theorem woke_again {a : Goroutine} {w : World} (ha : a.status = .running ∨ a.status = .blocked ∧ a.offers = none) : Woke a (a.again w) := by
  rcases ha with ha | ⟨ha, ho⟩
  · exact .inl (again_of_running (.inl ha) w)
  · refine .inr ⟨ha, ?_⟩
    simp [Goroutine.again, ha, ho]

/-- ████ A LEAVER's STEP. ████ -/
theorem WB.by_step (hm : m < 2147483647) (hSh : ∀ l, WgL Wg l → Sh l) (B : WB P ty Wg Sh m d b N ph gs T w q) {i : Nat} {g a : Goroutine} {sl : Option (Nat × Nat)} (hpos : 0 < i) (hi : gs[i]? = some g) (hrun : g.status = .running) (h0 : gs[0]? = some a) (ha : a.status = .running ∨ a.status = .blocked ∧ a.offers = none) (hbl : b = true → a.status = .blocked → ∃ x, 0 < ph x) :
    ∃ (gs' : Array Goroutine) (w' : World) (ops : Array MemOp) (ph' q' : Nat → Nat) (a' : Goroutine), runT P (crowd gs w sl) i = (.next (crowd gs' w' sl), ops) ∧ gs'[0]? = some a' ∧ Woke a a' ∧ RWg ty Wg w w' ∧
      WB P ty Wg Sh m d b N ph' gs' (T ++ ops) w' q' ∧ sumTo N q' < sumTo N q ∧ (b = true → a'.status = .blocked → ∃ x, 0 < ph' x) := by
  have hlt : i < gs.size := (Array.getElem?_eq_some_iff.1 hi).1
  have hltN : i < N := by rw [← B.size]; exact hlt
  have hi0 : (i == 0) = false := by simp; omega
  obtain ⟨st, sm, hwg, hmode⟩ := B.wg
  have hWg : Wg < w.heap.size := (Array.getElem?_eq_some_iff.1 hwg).1
  have harr : ∀ (a' g' : Goroutine) (w' : World) (x : Nat), 0 < x → x ≠ i → ((gs.map (woken P g a' w')).setIfInBounds i g')[x]? = gs[x]? := by
    intro a' g' w' x hx0 hx
    rw [Array.getElem?_setIfInBounds_ne (fun z => hx z.symm), Array.getElem?_map]
    cases e : gs[x]? with
    | none => rfl
    | some y => simp [woken_of_again (P := P) (x := g) (x' := a') (B.again hx0 e w')]
  have hself : ∀ (a' g' : Goroutine) (w' : World), ((gs.map (woken P g a' w')).setIfInBounds i g')[i]? = some g' := by
    intro a' g' w'
    rw [Array.getElem?_setIfInBounds_self_of_lt (by simpa using hlt)]
  have hmain : ∀ (x g' : Goroutine) (w' : World), ∃ a', ((gs.map (woken P g x w')).setIfInBounds i g')[0]? = some a' ∧ Woke a a' ∧ a' = woken P g x w' a := by
    intro x g' w'
    refine ⟨woken P g x w' a, ?_, ?_, rfl⟩
    · rw [Array.getElem?_setIfInBounds_ne (by omega), Array.getElem?_map, h0]; rfl
    · unfold woken
      split
      · exact woke_again ha
      · exact .inl rfl
  have hless : ∀ n', n' < q i → sumTo N (upd q i n') < sumTo N q := by
    intro n' hn
    have h3 : sumTo N (fun a => upd q i n' a) + q i = sumTo N (fun a => q a) + n' := sumTo_upd q n' (fun x : Nat => x) hltN
    have h4 : sumTo N (fun a => upd q i n' a) = sumTo N (upd q i n') := rfl
    have h5 : sumTo N (fun a => q a) = sumTo N q := rfl
    omega
  have hhear : ∀ (u : Array MemOp), (∀ op ∈ u, op.g = i) → ∀ g'', (g'' = 0 ∧ d = 0) → Deaf (T ++ u) g'' = 0 := by
    intro u hu g'' hg''
    rw [Deaf_other T (g' := i) (by omega) _ hu]; exact B.past.hears _ hg''
  have hS0 : ∀ l : Loc, (fun _ : Loc => False) l → ¬ WgL Wg l := fun _ h => h.elim
  have hupd : upd ph i (ph i) = ph := funext fun x => by unfold upd; split <;> simp_all
  have hlv := B.idle i g hpos hi
  -- a quiet step
  have quiet : ∀ (g' : Goroutine) (es : Array Event) (n' : Nat), n' < q i → stepG P false g w = .go g' w es → (∀ e ∈ es, EvM Wg e) → Lv P ty Wg n' (deafBehind (Deaf T i) es) (ph i) g' →
      ∃ (gs' : Array Goroutine) (w' : World) (ops : Array MemOp) (ph' q' : Nat → Nat) (a' : Goroutine), runT P (crowd gs w sl) i = (.next (crowd gs' w' sl), ops) ∧ gs'[0]? = some a' ∧ Woke a a' ∧ RWg ty Wg w w' ∧
        WB P ty Wg Sh m d b N ph' gs' (T ++ ops) w' q' ∧ sumTo N q' < sumTo N q ∧ (b = true → a'.status = .blocked → ∃ x, 0 < ph' x) := by
    intro g' es n' hn' hst hes hl
    have hrt := runT_crowd_go (P := P) (sl := sl) (i := i) hi (by rw [hi0]; exact hst)
    obtain ⟨o1, o2, o3⟩ := evM_ops (i := i) (fn := g.frame.fn) (pos := g.frame.place) hWg hes
    obtain ⟨a', h1, h2, h3⟩ := hmain g' g' w
    have hput := B.put (p := ph i) (n' := n') (b' := b) (w' := w) hpos hltN (by simp) (harr g' g' w) (hself g' g' w) o1 (by rw [Deaf_own]; exact hl) (B.past.app hSh hS0 o1 (fun op hop b hb => by rw [o2 op hop] at hb; cases hb) (.inr (.inr fun op hop => .inl (o2 op hop))) (hhear _ o1) o3) (by rw [hupd]; exact ⟨st, sm, hwg, hmode⟩) (by rw [hupd]; exact B.few)
    refine ⟨_, w, _, _, _, a', hrt, h1, h2, RWg.refl w, hput, hless n' hn', fun hb hs => ?_⟩
    rw [hupd]
    refine hbl hb ?_
    rcases h2 with rfl | ⟨z, _⟩
    · exact hs
    · exact z
  -- an access to the group, deaf
  have touch : ∀ (g' : Goroutine) (w' : World) (es : Array Event) (n' p : Nat), n' < q i → 0 < Deaf T i → stepG P false g w = .go g' w' es → (∀ x, x ≠ Wg → w'.heap[x]? = w.heap[x]?) → w'.heap.size = w.heap.size → w'.tape = w.tape → w'.os = w.os → w'.output = w.output →
      (∀ op ∈ MemOp.ofEvents i g.frame.fn g.frame.place es, ∀ b, op.act.touch? = some b → ∃ a : Addr, a.block = Wg ∧ b.loc = .cell a ∧ b.kind = .atomic) → (∀ op ∈ MemOp.ofEvents i g.frame.fn g.frame.place es, op.act.low w.heap.size) →
      (∀ k, k ≤ (MemOp.ofEvents i g.frame.fn g.frame.place es).size → 0 < (T ++ MemOp.ofEvents i g.frame.fn g.frame.place es).deaf i (T.size + k)) → deafBehind (Deaf T i) es = Deaf T i → Lv P ty Wg n' (Deaf T i) p g' →
      (∃ st sm, WgAt ty Wg w' st sm ∧ WMode N (upd ph i p) b st sm) → sumTo N (cnt4 (upd ph i p)) ≤ m → (b = true → (woken P g g' w' a).status = .blocked → ∃ x, 0 < upd ph i p x) →
      ∃ (gs' : Array Goroutine) (w' : World) (ops : Array MemOp) (ph' q' : Nat → Nat) (a' : Goroutine), runT P (crowd gs w sl) i = (.next (crowd gs' w' sl), ops) ∧ gs'[0]? = some a' ∧ Woke a a' ∧ RWg ty Wg w w' ∧
        WB P ty Wg Sh m d b N ph' gs' (T ++ ops) w' q' ∧ sumTo N q' < sumTo N q ∧ (b = true → a'.status = .blocked → ∃ x, 0 < ph' x) := by
    intro g' w' es n' p hn' hd hst hblk hsz ht hos hout o2 o3 o4 hdb hl hmode' hfew hbl'
    have hrt := runT_crowd_go (P := P) (sl := sl) (i := i) hi (by rw [hi0]; exact hst)
    have o1 : ∀ op ∈ MemOp.ofEvents i g.frame.fn g.frame.place es, op.g = i := fun op hop => by obtain ⟨e, _, rfl⟩ := Go.Conc.mem_ofEvents hop; rfl
    obtain ⟨a', h1, h2, h3⟩ := hmain g' g' w'
    have hput := B.put (p := p) (n' := n') (b' := b) (w' := w') hpos hltN (by simp) (harr g' g' w') (hself g' g' w') o1 (by rw [Deaf_own, hdb]; exact hl) (by
      rw [hsz]
      exact B.past.app hSh hS0 o1 (fun op hop b hb => by obtain ⟨a, h1, h2, h3⟩ := o2 op hop b hb; exact .inr (.inr ⟨⟨a, h2, h1⟩, h3, hd⟩)) (.inr (.inl o4)) (hhear _ o1) o3) hmode' hfew
    refine ⟨_, w', _, _, _, a', hrt, h1, h2, ⟨hblk, fun _ => ?_, fun _ _ => ?_, hsz, ht, hos, hout⟩, hput, hless n' hn', fun hb hs => hbl' hb (h3 ▸ hs)⟩
    · obtain ⟨st', sm', h, _⟩ := hmode'
      exact ⟨st', sm', h⟩
    · obtain ⟨st', sm', h, _⟩ := hmode'
      exact ⟨_, h⟩
  have hset : ∀ (a : Addr) (v : Value) (u : World), a.block = Wg → (∀ x, x ≠ Wg → (u.setCell a v).heap[x]? = u.heap[x]?) ∧ (u.setCell a v).heap.size = u.heap.size := fun a v u ha => by
    refine ⟨fun x hx => (aside_setCell u a v).block x (by rw [ha]; exact hx), (aside_setCell u a v).size⟩
  have hrdwr : ∀ (es : Array Event), (∀ e ∈ es, ∃ (a : Addr) (wr : Bool), a.block = Wg ∧ e = ⟨.cell a, wr, true⟩) →
      (∀ op ∈ MemOp.ofEvents i g.frame.fn g.frame.place es, ∀ b, op.act.touch? = some b → ∃ a : Addr, a.block = Wg ∧ b.loc = .cell a ∧ b.kind = .atomic) ∧ (∀ op ∈ MemOp.ofEvents i g.frame.fn g.frame.place es, op.act.low w.heap.size) ∧ (∀ op ∈ MemOp.ofEvents i g.frame.fn g.frame.place es, ∀ d, deafStep i d op = d) := by
    intro es hes
    refine ⟨fun op hop b hb => ?_, fun op hop => ?_, fun op hop d => ?_⟩
    · obtain ⟨e, he, rfl⟩ := Go.Conc.mem_ofEvents hop
      obtain ⟨a, wr, ha, rfl⟩ := hes e he
      simp [MemAct.ofEvent, MemAct.touch?] at hb
      subst hb
      exact ⟨a, ha, rfl, rfl⟩
    · obtain ⟨e, he, rfl⟩ := Go.Conc.mem_ofEvents hop
      obtain ⟨a, wr, ha, rfl⟩ := hes e he
      show a.block < _
      omega
    · obtain ⟨e, he, rfl⟩ := Go.Conc.mem_ofEvents hop
      obtain ⟨a, wr, ha, rfl⟩ := hes e he
      rfl
  have hstill : ∀ (es : Array Event), (∀ e ∈ es, ∃ (a : Addr) (wr : Bool), a.block = Wg ∧ e = ⟨.cell a, wr, true⟩) → deafBehind (Deaf T i) es = Deaf T i := fun es hes =>
    deafBehind_still (fun e he => by obtain ⟨a, wr, _, rfl⟩ := hes e he; exact ⟨by simp, by simp⟩) _
  cases hp : ph i with
  | zero =>
    rw [hp] at hlv
    have hlv' : QuitsD P (q i) (Deaf T i) g := by cases hqi : q i <;> (rw [hqi] at hlv; exact hlv)
    cases hqi : q i with
    | zero => rw [hqi] at hlv'; rw [hlv'.1] at hrun; cases hrun
    | succ n =>
      rw [hqi] at hlv'
      rcases hlv' with ⟨hf, _⟩ | ⟨_, g', es, hm, hst, hl⟩
      · rw [hf] at hrun; cases hrun
      · refine quiet g' es n (by omega) (hst w) (fun e he => .inl (hm e he)) ?_
        rw [hp]
        cases n <;> exact hl
  | succ p =>
    rw [hp] at hlv
    cases hqi : q i with
    | zero => rw [hqi] at hlv; exact hlv.elim
    | succ n =>
      rw [hqi] at hlv
      obtain ⟨_, hquiet | ⟨hd, hsp⟩⟩ := hlv
      · obtain ⟨g', es, hst, hes, hl⟩ := hquiet w _ _ hwg
        exact quiet g' es n (by omega) hst hes (by rw [hp]; exact hl)
      · rcases hsp with ⟨rfl, hdec⟩ | ⟨rfl, hchk⟩ | ⟨rfl, hsto⟩ | ⟨rfl, hmw, hsem⟩
        · -- it counts the group down
          have e2 : ∀ e ∈ #[rd (stA Wg), wr (stA Wg)], ∃ (a : Addr) (wr : Bool), a.block = Wg ∧ e = ⟨.cell a, wr, true⟩ := fun e he => by
            simp only [List.mem_toArray, List.mem_cons, List.not_mem_nil, or_false] at he
            rcases he with rfl | rfl <;> exact ⟨stA Wg, _, rfl, rfl⟩
          obtain ⟨o2, o3, o4⟩ := hrdwr _ e2
          have hgo : ∀ (v wt : Nat), wt ≤ 1 → v + 1 = sumTo N (cnt4 ph) → st = ((v + 1 : Nat) : Int) * KK + wt → sm = 0 → (∀ p', (p' = if v = 0 ∧ wt = 1 then 3 else 0) → WMode N (upd ph i p') b ((v : Int) * KK + wt) 0 ∧ (b = true → ∃ x, 0 < upd ph i p' x)) →
              ∃ (gs' : Array Goroutine) (w' : World) (ops : Array MemOp) (ph' q' : Nat → Nat) (a' : Goroutine), runT P (crowd gs w sl) i = (.next (crowd gs' w' sl), ops) ∧ gs'[0]? = some a' ∧ Woke a a' ∧ RWg ty Wg w w' ∧
                WB P ty Wg Sh m d b N ph' gs' (T ++ ops) w' q' ∧ sumTo N q' < sumTo N q ∧ (b = true → a'.status = .blocked → ∃ x, 0 < ph' x) := by
            intro v wt hwt hv hst' hsm' hmd
            have hfew := B.few
            subst hst' hsm'
            obtain ⟨g', hst, hl⟩ := hdec w v wt hwt (by omega) hwg
            obtain ⟨h1, h2⟩ := hset (stA Wg) (.int .u64 ((v : Int) * KK + wt)) w rfl
            refine touch g' _ _ n (if v = 0 ∧ wt = 1 then 3 else 0) (by omega) hd hst h1 h2 rfl rfl rfl o2 o3 (fun k hk => by rw [deaf_quiet o4 k hk]; exact hd) (hstill _ e2) hl ⟨_, _, hwg.setSt _, (hmd _ rfl).1⟩ ?_ (fun hb _ => (hmd _ rfl).2 hb)
            have := cnt4_upd (p := if v = 0 ∧ wt = 1 then 3 else 0) hltN hp (by split <;> decide)
            omega
          have hV : ∀ p', p' ≠ 4 → sumTo N (cnt4 (upd ph i p')) + 1 = sumTo N (cnt4 ph) := fun p' h => cnt4_upd hltN hp h
          have h04 : ∀ x, (ph x = 0 ∨ ph x = 4) → (upd ph i 0 x = 0 ∨ upd ph i 0 x = 4) := fun x hx => by
            by_cases e : x = i
            · subst e; exact .inl (upd_same ph x 0)
            · rw [upd_ne ph 0 e]; exact hx
          cases hmode with
          | opn h =>
            have h1 := hV 0 (by decide)
            refine hgo (sumTo N (cnt4 (upd ph i 0))) 0 (by omega) h1 (by rw [h1]; simp) rfl fun p' hp' => ?_
            rw [if_neg (by simp)] at hp'
            subst hp'
            have := WMode.opn (N := N) (ph := upd ph i 0) fun x => h04 x (h x)
            exact ⟨by simpa using this, fun z => by cases z⟩
          | reg h hV1 =>
            have h1 := hV 0 (by decide)
            refine hgo (sumTo N (cnt4 (upd ph i 0))) 1 (by omega) h1 (by rw [h1]; simp) rfl fun p' hp' => ?_
            by_cases e0 : sumTo N (cnt4 (upd ph i 0)) = 0
            · rw [if_pos ⟨e0, rfl⟩] at hp'
              subst hp'
              have := WMode.last (N := N) (ph := upd ph i 3) i hltN (.inl (upd_same ph i 3)) fun x hx => by
                rw [upd_ne ph 3 hx]
                rcases h x with z | z
                · exact z
                · exfalso
                  by_cases hxN : x < N
                  · have := cnt4_zero e0 x hxN
                    rw [upd_ne ph 0 hx] at this
                    exact this z
                  · have := (B.above x (by omega)).2; omega
              rw [e0]
              exact ⟨by simpa using this, fun _ => ⟨i, by rw [upd_same]; omega⟩⟩
            · rw [if_neg (by simp [e0])] at hp'
              subst hp'
              have := WMode.reg (N := N) (ph := upd ph i 0) (fun x => h04 x (h x)) (by omega)
              exact ⟨by simpa using this, fun _ => by
                obtain ⟨x, hx⟩ := cnt4_pos (Nat.pos_of_ne_zero e0)
                exact ⟨x, by omega⟩⟩
          | last l hl h2 h =>
            by_cases e : i = l
            · subst e; omega
            · rw [h i e] at hp; cases hp
          | rel l hl h2 h =>
            by_cases e : i = l
            · subst e; omega
            · rw [h i e] at hp; cases hp
          | semd h => rw [h i] at hp; cases hp
        · -- the last one looks
          have hmd : st = 1 ∧ sm = 0 ∧ ∀ x, x ≠ i → ph x = 0 := by
            cases hmode with
            | opn h => rcases h i with z | z <;> (rw [hp] at z; cases z)
            | reg h => rcases h i with z | z <;> (rw [hp] at z; cases z)
            | last l hl h2 h =>
              by_cases e : i = l
              · subst e; exact ⟨rfl, rfl, h⟩
              · rw [h i e] at hp; cases hp
            | rel l hl h2 h =>
              by_cases e : i = l
              · subst e; omega
              · rw [h i e] at hp; cases hp
            | semd h => rw [h i] at hp; cases hp
          have hb : b = true := by cases hmode <;> first | rfl | (rename_i h; rcases h i with z | z <;> (rw [hp] at z; cases z))
          obtain ⟨rfl, rfl, hoth⟩ := hmd
          have e2 : ∀ e ∈ #[rd (stA Wg)], ∃ (a : Addr) (wr : Bool), a.block = Wg ∧ e = ⟨.cell a, wr, true⟩ := fun e he => by
            simp only [List.mem_toArray, List.mem_cons, List.not_mem_nil, or_false] at he
            rcases he with rfl; exact ⟨stA Wg, _, rfl, rfl⟩
          obtain ⟨o2, o3, o4⟩ := hrdwr _ e2
          obtain ⟨g', hst, hl⟩ := hchk w hwg
          refine touch g' _ _ n 2 (by omega) hd hst (fun _ _ => rfl) rfl rfl rfl rfl o2 o3 (fun k hk => by rw [deaf_quiet o4 k hk]; exact hd) (hstill _ e2) hl ⟨_, _, hwg, ?_⟩ ?_ (fun _ _ => ⟨i, by rw [upd_same]; omega⟩)
          · rw [hb]
            exact WMode.last (N := N) (ph := upd ph i 2) i hltN (.inr (upd_same ph i 2)) fun x hx => by rw [upd_ne ph 2 hx]; exact hoth x hx
          · rw [show sumTo N (cnt4 (upd ph i 2)) = sumTo N (cnt4 ph) from Go.ConcN.sumTo_congr fun x _ => by
              by_cases e : x = i
              · subst e; simp [cnt4, upd, hp]
              · simp [cnt4, upd, e]]
            exact B.few
        · -- it clears the state
          have hmd : st = 1 ∧ sm = 0 ∧ ∀ x, x ≠ i → ph x = 0 := by
            cases hmode with
            | opn h => rcases h i with z | z <;> (rw [hp] at z; cases z)
            | reg h => rcases h i with z | z <;> (rw [hp] at z; cases z)
            | last l hl h2 h =>
              by_cases e : i = l
              · subst e; exact ⟨rfl, rfl, h⟩
              · rw [h i e] at hp; cases hp
            | rel l hl h2 h =>
              by_cases e : i = l
              · subst e; omega
              · rw [h i e] at hp; cases hp
            | semd h => rw [h i] at hp; cases hp
          have hb : b = true := by cases hmode <;> first | rfl | (rename_i h; rcases h i with z | z <;> (rw [hp] at z; cases z))
          obtain ⟨rfl, rfl, hoth⟩ := hmd
          have e2 : ∀ e ∈ #[wr (stA Wg)], ∃ (a : Addr) (wr : Bool), a.block = Wg ∧ e = ⟨.cell a, wr, true⟩ := fun e he => by
            simp only [List.mem_toArray, List.mem_cons, List.not_mem_nil, or_false] at he
            rcases he with rfl; exact ⟨stA Wg, _, rfl, rfl⟩
          obtain ⟨o2, o3, o4⟩ := hrdwr _ e2
          obtain ⟨g', hst, hl⟩ := hsto w hwg
          obtain ⟨h1, h2⟩ := hset (stA Wg) (.int .u64 0) w rfl
          refine touch g' _ _ n 1 (by omega) hd hst h1 h2 rfl rfl rfl o2 o3 (fun k hk => by rw [deaf_quiet o4 k hk]; exact hd) (hstill _ e2) hl ⟨_, _, hwg.setSt 0, ?_⟩ ?_ (fun _ _ => ⟨i, by rw [upd_same]; omega⟩)
          · rw [hb]
            exact WMode.rel (N := N) (ph := upd ph i 1) i hltN (upd_same ph i 1) fun x hx => by rw [upd_ne ph 1 hx]; exact hoth x hx
          · rw [show sumTo N (cnt4 (upd ph i 1)) = sumTo N (cnt4 ph) from Go.ConcN.sumTo_congr fun x _ => by
              by_cases e : x = i
              · subst e; simp [cnt4, upd, hp]
              · simp [cnt4, upd, e]]
            exact B.few
        · -- it wakes who waits
          have hmd : st = 0 ∧ sm = 0 ∧ ∀ x, x ≠ i → ph x = 0 := by
            cases hmode with
            | opn h => rcases h i with z | z <;> (rw [hp] at z; cases z)
            | reg h => rcases h i with z | z <;> (rw [hp] at z; cases z)
            | last l hl h2 h =>
              by_cases e : i = l
              · subst e; omega
              · rw [h i e] at hp; cases hp
            | rel l hl h2 h =>
              by_cases e : i = l
              · subst e; exact ⟨rfl, rfl, h⟩
              · rw [h i e] at hp; cases hp
            | semd h => rw [h i] at hp; cases hp
          have hb : b = true := by cases hmode <;> first | rfl | (rename_i h; rcases h i with z | z <;> (rw [hp] at z; cases z))
          obtain ⟨rfl, rfl, hoth⟩ := hmd
          obtain ⟨g', hst, hl⟩ := hsem w hwg
          obtain ⟨h1, h2⟩ := hset (smA Wg) (.int .u32 1) w rfl
          have hwg' : WgAt ty Wg (w.setCell (smA Wg) (.int .u32 1)) 0 1 := hwg.setSm 1
          refine touch g' _ _ n 0 (by omega) hd hst h1 h2 rfl rfl rfl (fun op hop b' hb' => ?_) (fun op hop => ?_) (deaf_semEvents hd) ?_ hl ⟨_, _, hwg', ?_⟩ ?_ (fun _ hs => ?_)
          · obtain ⟨e, he, rfl⟩ := Go.Conc.mem_ofEvents hop
            simp only [semEvents, List.mem_toArray, List.mem_cons, List.not_mem_nil, or_false] at he
            rcases he with rfl | rfl | rfl | rfl
            · simp [MemAct.ofEvent, MemAct.touch?] at hb'
            · simp [MemAct.ofEvent, MemAct.touch?] at hb'; subst hb'; exact ⟨smA Wg, rfl, rfl, rfl⟩
            · simp [MemAct.ofEvent, MemAct.touch?] at hb'; subst hb'; exact ⟨smA Wg, rfl, rfl, rfl⟩
            · simp [MemAct.ofEvent, MemAct.touch?] at hb'
          · obtain ⟨e, he, rfl⟩ := Go.Conc.mem_ofEvents hop
            simp only [semEvents, List.mem_toArray, List.mem_cons, List.not_mem_nil, or_false] at he
            rcases he with rfl | rfl | rfl | rfl
            · trivial
            · exact hWg
            · exact hWg
            · trivial
          · simp [semEvents, deafBehind]
          · rw [hb]
            refine WMode.semd (N := N) (ph := upd ph i 0) fun x => ?_
            by_cases e : x = i
            · subst e; exact upd_same ph x 0
            · rw [upd_ne ph 0 e]; exact hoth x e
          · rw [show sumTo N (cnt4 (upd ph i 0)) = sumTo N (cnt4 ph) from Go.ConcN.sumTo_congr fun x _ => by
              by_cases e : x = i
              · subst e; simp [cnt4, upd, hp]
              · simp [cnt4, upd, e]]
            exact B.few
          · exfalso
            have hg's : g'.status ≠ .blocked ∧ g'.status ≠ .waiting := by
              have := Lv.status (ty := ty) (Wg := Wg) hl
              rcases this with z | z <;> rw [z] <;> exact ⟨by simp, by simp⟩
            have hw2 : woken P g g' (w.setCell (smA Wg) (.int .u32 1)) a = a.again (w.setCell (smA Wg) (.int .u32 1)) := by
              unfold woken
              rw [if_pos]
              simp [hmw, hg's.1, hg's.2]
            rw [hw2] at hs
            rcases ha with ha | ⟨ha, ho⟩
            · rw [again_of_running (.inl ha)] at hs; rw [ha] at hs; cases hs
            · simp [Goroutine.again, ha, ho] at hs

/-- The leavers go their ways till goroutine 0 is picked. -/
theorem wpicked (hm : m < 2147483647) (hW : Back P W) (hSh : ∀ l, WgL Wg l → Sh l) {a : Goroutine} (hr : a.status = .running)
    (k : ∀ ph gs T w₁ q sl, RWg ty Wg w w₁ → WB P ty Wg Sh m d b N ph gs T w₁ q → gs[0]? = some a → ∃ M' ops, runT P (crowd gs w₁ sl) 0 = (.next M', ops) ∧ W M' (T ++ ops)) :
    ∀ (M : Nat) (ph : Nat → Nat) (gs : Array Goroutine) (T : Trace) (w₁ : World) (q : Nat → Nat), RWg ty Wg w w₁ → sumTo N q ≤ M → WB P ty Wg Sh m d b N ph gs T w₁ q → gs[0]? = some a → Win W gs w₁ T := by
  intro M
  induction M using Nat.strongRecOn with
  | _ M ihM =>
    intro ph gs T w₁ q hR hM B ha sl
    have haw : ∀ g ∈ gs, awake g := by
      intro y hy
      obtain ⟨i, hi, rfl⟩ := Array.mem_iff_getElem.1 hy
      rcases Nat.eq_zero_or_pos i with rfl | hpos
      · rw [Array.getElem?_eq_getElem hi] at ha
        rw [Option.some.inj ha]
        exact awake_of (.inl hr)
      · exact B.awake hpos (Array.getElem?_eq_getElem hi)
    obtain ⟨i, x, n, sl', hix, hrun, hst⟩ := crowd_pick (P := P) (w := w₁) (sl := sl) haw ⟨0, a, ha, hr⟩
    have B' := B.at n
    have hR' : RWg ty Wg w (w₁.at n) := RWg.trans _ _ _ hR (RWg.at w₁ n)
    rcases Nat.eq_zero_or_pos i with rfl | hpos
    · obtain ⟨M', ops, h1, h2⟩ := k ph gs T (w₁.at n) q sl' hR' B' ha
      exact hW _ _ _ _ (hst.trans h1) h2
    · obtain ⟨gs', w', ops, ph', q', a', hrt, h0, hwk, hR2, B2, hsum, _⟩ := B'.by_step (sl := sl') hm hSh hpos hix hrun ha (.inl hr) (fun _ hs => by rw [hr] at hs; cases hs)
      refine hW _ _ _ _ (hst.trans hrt) ?_
      have ea : a' = a := hwk.elim id fun z => by rw [hr] at z; cases z.1
      subst ea
      exact ihM (sumTo N q') (by omega) ph' gs' _ w' q' (RWg.trans _ _ _ hR' hR2) (Nat.le_refl _) B2 h0 sl'

/-- Goroutine 0 waits at the semaphore: it comes behind it. -/
theorem wblocked (hm : m < 2147483647) (hW : Back P W) (hSh : ∀ l, WgL Wg l → Sh l) {a a' : Goroutine} (hoff : a.offers = none) (hrun : a.status = .running)
    (hwait : ∀ w₁ st, RWg ty Wg w w₁ → WgAt ty Wg w₁ st 0 → stepG P true a w₁ = .go { a with status := .blocked } w₁ #[])
    (hgo : ∀ w₁, RWg ty Wg w w₁ → WgAt ty Wg w₁ 0 1 → stepG P true a w₁ = .go a' (w₁.setCell (smA Wg) (.int .u32 0)) (semEvents (smA Wg)))
    (k : ∀ gs T w₁ q, RWg ty Wg w w₁ → WB P ty Wg Sh m d false N (fun _ => 0) gs T w₁ q → gs[0]? = some a' → Win W gs w₁ T) :
    ∀ (M : Nat) (r : Bool) (ph : Nat → Nat) (gs : Array Goroutine) (T : Trace) (w₁ : World) (q : Nat → Nat), RWg ty Wg w w₁ → 2 * sumTo N q + (if r then 1 else 0) ≤ M → (r = false → ∃ x, 0 < ph x) → WB P ty Wg Sh m d true N ph gs T w₁ q → gs[0]? = some (if r then a else { a with status := .blocked }) → Win W gs w₁ T := by
  intro M
  induction M using Nat.strongRecOn with
  | _ M ihM =>
    intro r ph gs T w₁ q hR hM hex B ha sl
    obtain ⟨ga, hga⟩ : ∃ ga, ga = if r then a else { a with status := .blocked } := ⟨_, rfl⟩
    rw [← hga] at ha
    have hga2 : ga.status = .running ∨ ga.status = .blocked ∧ ga.offers = none := by
      rw [hga]; cases r
      · exact .inr ⟨rfl, hoff⟩
      · exact .inl hrun
    have haw : ∀ g ∈ gs, awake g := by
      intro y hy
      obtain ⟨i, hi, rfl⟩ := Array.mem_iff_getElem.1 hy
      rcases Nat.eq_zero_or_pos i with rfl | hpos
      · rw [Array.getElem?_eq_getElem hi] at ha
        rw [Option.some.inj ha]
        exact awake_of (hga2.elim .inl fun z => .inr (.inl z.1))
      · exact B.awake hpos (Array.getElem?_eq_getElem hi)
    have some1 : ∃ (i : Nat) (g : Goroutine), gs[i]? = some g ∧ g.status = .running := by
      cases r with
      | true => exact ⟨0, ga, ha, by rw [hga]; exact hrun⟩
      | false =>
        obtain ⟨x, hx⟩ := hex rfl
        have hxN : x < N := by
          by_cases h : x < N
          · exact h
          · have := (B.above x (by omega)).2; omega
        have hx0 : 0 < x := by
          rcases Nat.eq_zero_or_pos x with rfl | h
          · rw [B.zero] at hx; omega
          · exact h
        obtain ⟨g, hg⟩ : ∃ g, gs[x]? = some g := ⟨_, Array.getElem?_eq_getElem (by rw [B.size]; exact hxN)⟩
        have hl := B.idle x g hx0 hg
        refine ⟨x, g, hg, ?_⟩
        obtain ⟨p, hp⟩ : ∃ p, ph x = p + 1 := ⟨ph x - 1, by omega⟩
        rw [hp] at hl
        cases hq : q x with
        | zero => rw [hq] at hl; exact hl.elim
        | succ n => rw [hq] at hl; exact hl.1
    obtain ⟨i, x, n, sl', hix, hxr, hst⟩ := crowd_pick (P := P) (w := w₁) (sl := sl) haw some1
    have B' := B.at n
    have hR' : RWg ty Wg w (w₁.at n) := RWg.trans _ _ _ hR (RWg.at w₁ n)
    rcases Nat.eq_zero_or_pos i with rfl | hpos
    · obtain rfl : ga = x := by rw [ha] at hix; exact Option.some.inj hix
      cases r with
      | false => rw [hga] at hxr; cases hxr
      | true =>
        simp only [if_true] at hga
        subst hga
        obtain ⟨st, sm, hwg, hmode⟩ := B'.wg
        have hlt0 : 0 < gs.size := (Array.getElem?_eq_some_iff.1 ha).1
        have hwaits : sm = 0 → (∃ x, 0 < ph x) → W (crowd gs w₁ sl) T := by
          intro hsm hx
          subst hsm
          have hrt := runT_crowd_go (P := P) (sl := sl') hix (hwait _ st hR' hwg)
          refine hW _ _ _ _ (hst.trans hrt) ?_
          have hmap : ∀ y, 0 < y → ((gs.map (woken P ga { ga with status := .blocked } (w₁.at n))).setIfInBounds 0 { ga with status := .blocked })[y]? = gs[y]? := by
            intro y hy
            rw [Array.getElem?_setIfInBounds_ne (by omega), Array.getElem?_map]
            cases e : gs[y]? with
            | none => rfl
            | some z => simp [woken_of_again (P := P) (x := ga) (x' := { ga with status := .blocked }) (B.again hy e (w₁.at n))]
          have hemp : MemOp.ofEvents 0 ga.frame.fn ga.frame.place #[] = #[] := by simp [MemOp.ofEvents]
          rw [hemp, Array.append_empty]
          refine ihM (2 * sumTo N q) (by simp at hM; omega) false ph _ T (w₁.at n) q hR' (by simp) (fun _ => hx) ?_ (by simp [hlt0]) sl'
          exact ⟨by simpa using B'.size, fun y z hy hz => by rw [hmap y hy] at hz; exact B'.idle y z hy hz, B'.above, B'.zero, B'.past, B'.deaf, B'.wg, B'.few⟩
        cases hmode with
        | reg h hV =>
          obtain ⟨x, hx⟩ := cnt4_pos (by omega : 0 < sumTo N (cnt4 ph))
          exact hwaits rfl ⟨x, by omega⟩
        | last l hl h2 h => exact hwaits rfl ⟨l, by omega⟩
        | rel l hl h2 h => exact hwaits rfl ⟨l, by omega⟩
        | semd h =>
          have hrt := runT_crowd_go (P := P) (sl := sl') hix (hgo _ hR' hwg)
          refine hW _ _ _ _ (hst.trans hrt) ?_
          have hph : ph = fun _ => 0 := funext h
          have hmap : ∀ y, 0 < y → ((gs.map (woken P ga a' ((w₁.at n).setCell (smA Wg) (.int .u32 0)))).setIfInBounds 0 a')[y]? = gs[y]? := by
            intro y hy
            rw [Array.getElem?_setIfInBounds_ne (by omega), Array.getElem?_map]
            cases e : gs[y]? with
            | none => rfl
            | some z => simp [woken_of_again (P := P) (x := ga) (x' := a') (B.again hy e ((w₁.at n).setCell (smA Wg) (.int .u32 0)))]
          have hWg : Wg < w₁.heap.size := (Array.getElem?_eq_some_iff.1 hwg).1
          have hsz : ((w₁.at n).setCell (smA Wg) (.int .u32 0)).heap.size = w₁.heap.size := (aside_setCell (w₁.at n) (smA Wg) _).size
          have hwg2 : WgAt ty Wg ((w₁.at n).setCell (smA Wg) (.int .u32 0)) 0 0 := hwg.setSm 0
          have o1 : ∀ op ∈ MemOp.ofEvents 0 ga.frame.fn ga.frame.place (semEvents (smA Wg)), op.g = 0 := fun op hop => by obtain ⟨e, _, rfl⟩ := Go.Conc.mem_ofEvents hop; rfl
          have hdf : Deaf (T ++ MemOp.ofEvents 0 ga.frame.fn ga.frame.place (semEvents (smA Wg))) 0 = d := by
            rw [Deaf_own, B.deaf]; simp [semEvents, deafBehind]
          refine k _ _ _ q (RWg.trans _ _ _ hR' ⟨fun x hx => (aside_setCell (w₁.at n) (smA Wg) _).block x hx, fun _ => ⟨_, _, hwg2⟩, fun _ _ => ⟨_, hwg2⟩, hsz, rfl, rfl, rfl⟩) ?_ (by simp [hlt0]) sl'
          refine ⟨by simpa using B'.size, fun y z hy hz => ?_, fun j hj => ?_, rfl, ?_, hdf, ⟨0, 0, hwg2, ?_⟩, ?_⟩
          · rw [hmap y hy] at hz
            rw [Deaf_other T (g' := 0) (by omega) _ o1]
            have := B'.idle y z hy hz
            rw [hph] at this
            exact this
          · rw [Deaf_other T (g' := 0) (by have := B.size; omega) _ o1]
            exact ⟨(B.above j hj).1, rfl⟩
          · rw [hsz]
            refine B.past.app hSh (fun _ h => h.elim) o1 (fun op hop b' hb' => .inl ⟨rfl, fun h => h.elim, fun _ => ?_⟩) (.inl rfl) (fun g hg => ?_) (fun op hop => ?_)
            · obtain ⟨e, he, rfl⟩ := Go.Conc.mem_ofEvents hop
              simp only [semEvents, List.mem_toArray, List.mem_cons, List.not_mem_nil, or_false] at he
              rcases he with rfl | rfl | rfl | rfl <;> simp [MemAct.ofEvent, MemAct.touch?] at hb' <;> (subst hb'; simp)
            · rw [hg.1, hdf]; exact hg.2
            · obtain ⟨e, he, rfl⟩ := Go.Conc.mem_ofEvents hop
              simp only [semEvents, List.mem_toArray, List.mem_cons, List.not_mem_nil, or_false] at he
              rcases he with rfl | rfl | rfl | rfl
              · trivial
              · exact hWg
              · exact hWg
              · trivial
          · have h0 : sumTo N (cnt4 fun _ => 0) = 0 := cnt4_none N
            have := WMode.opn (N := N) (ph := fun _ => 0) fun _ => .inl rfl
            rw [h0] at this
            simpa using this
          · rw [hph] at B; exact B.few
    · obtain ⟨gs', w', ops, ph', q', a'', hrt, h0, hwk, hR2, B2, hsum, hbl⟩ := B'.by_step (sl := sl') hm hSh hpos hix hxr ha hga2 (fun _ hs => by
        cases r with
        | false => exact hex rfl
        | true => rw [hga] at hs; simp only [if_true] at hs; rw [hrun] at hs; cases hs)
      refine hW _ _ _ _ (hst.trans hrt) ?_
      have ea : ∃ r', a'' = (if r' then a else { a with status := .blocked }) ∧ (r' = false → a''.status = .blocked) := by
        rcases hwk with rfl | ⟨z, rfl⟩
        · exact ⟨r, hga, fun hr => by rw [hga, hr]; rfl⟩
        · refine ⟨true, ?_, fun h => by cases h⟩
          rw [hga] at z ⊢
          cases r with
          | true => simp only [if_true] at z; rw [hrun] at z; cases z
          | false =>
            simp only [Bool.false_eq_true, if_false, if_true]
            cases a
            simp only at hrun
            subst hrun
            rfl
      obtain ⟨r', ea, hr'⟩ := ea
      refine ihM (2 * sumTo N q' + (if r' then 1 else 0)) ?_ r' ph' gs' _ w' q' (RWg.trans _ _ _ hR' hR2) (Nat.le_refl _) (fun h => hbl rfl (hr' h)) B2 (by rw [h0, ea]) sl'
      split <;> omega

theorem WB.own (hSh : ∀ l, WgL Wg l → Sh l) (B : WB P ty Wg Sh m d b N ph gs T w q) {gs' : Array Goroutine} {w' : World} {ops : Array MemOp} {d' : Nat} {b' : Bool} (hsz : gs'.size = gs.size) (hother : ∀ x, 0 < x → gs'[x]? = gs[x]?)
    (o1 : ∀ op ∈ ops, op.g = 0) (o2 : ∀ op ∈ ops, ∀ b, op.act.touch? = some b → Sh b.loc → b.kind ≠ .plain) (o3 : ∀ op ∈ ops, op.act.low w'.heap.size) (o4 : Deaf (T ++ ops) 0 = d') (hsize : w.heap.size ≤ w'.heap.size)
    (hwg : ∃ st sm, WgAt ty Wg w' st sm ∧ WMode N ph b' st sm) (hN : 0 < N) : WB P ty Wg Sh m d' b' N ph gs' (T ++ ops) w' q := by
  refine ⟨hsz.trans B.size, fun x y hx hy => ?_, fun j hj => ?_, B.zero, ?_, o4, hwg, B.few⟩
  · rw [hother x hx] at hy
    rw [Deaf_other T (g' := 0) (by omega) ops o1]
    exact B.idle x y hx hy
  · rw [Deaf_other T (g' := 0) (by omega) ops o1]
    exact B.above j hj
  · refine (B.past.mono hsize (Hear' := fun g => g = 0 ∧ d = 0) (fun _ h => h) (fun _ h => h)).app hSh (fun _ h => h.elim) o1 (fun op hop b hb => .inl ⟨rfl, fun h => h.elim, o2 op hop b hb⟩) (.inl rfl) (fun g hg => ?_) o3
    rw [hg.1, o4]; exact hg.2

/-- A step of goroutine 0's while it waits. -/
theorem wop (hm : m < 2147483647) (hW : Back P W) (hSh : ∀ l, WgL Wg l → Sh l) {a : Goroutine} (hr : a.status = .running) (ha : gs[0]? = some a) (B : WB P ty Wg Sh m d b N ph gs T w q)
    (k : ∀ w₁ ph₁ st sm, RWg ty Wg w w₁ → WgAt ty Wg w₁ st sm → WMode N ph₁ b st sm → sumTo N (cnt4 ph₁) ≤ m → ∃ a' w' es d' b', stepG P true a w₁ = .go a' w' es ∧ w₁.heap.size ≤ w'.heap.size ∧ (∃ st sm, WgAt ty Wg w' st sm ∧ WMode N ph₁ b' st sm) ∧ deafBehind d es = d' ∧
      (∀ e ∈ es, (∀ x, (MemAct.ofEvent e).touch? = some x → Sh x.loc → x.kind ≠ .plain) ∧ (MemAct.ofEvent e).low w'.heap.size) ∧
      ∀ gs' T' q', WB P ty Wg Sh m d' b' N ph₁ gs' T' w' q' → gs'[0]? = some a' → Win W gs' w' T') : Win W gs w T := by
  refine wpicked hm hW hSh hr (fun ph₁ gs₁ T w₁ q sl hR B ha => ?_) _ ph gs T w q (RWg.refl w) (Nat.le_refl _) B ha
  have hlt : 0 < gs₁.size := (Array.getElem?_eq_some_iff.1 ha).1
  obtain ⟨st, sm, hwg, hmode⟩ := B.wg
  obtain ⟨a', w', es, d', b', hst, hsz, hwg', hdf, hev, hk⟩ := k w₁ ph₁ st sm hR hwg hmode B.few
  have hrt := runT_crowd_go (P := P) (sl := sl) ha hst
  refine ⟨_, _, hrt, ?_⟩
  have o1 : ∀ op ∈ MemOp.ofEvents 0 a.frame.fn a.frame.place es, op.g = 0 := fun op hop => by obtain ⟨e, _, rfl⟩ := Go.Conc.mem_ofEvents hop; rfl
  refine hk _ _ q (B.own hSh (by simp) (fun x hx => ?_) o1 (fun op hop b hb => ?_) (fun op hop => ?_) ?_ hsz hwg' (by rw [← B.size]; exact hlt)) (by simp [hlt]) sl
  · rw [Array.getElem?_setIfInBounds_ne (by omega), Array.getElem?_map]
    cases e : gs₁[x]? with
    | none => rfl
    | some y => simp [woken_of_again (P := P) (x := a) (x' := a') (B.again hx e w')]
  · obtain ⟨e, he, rfl⟩ := Go.Conc.mem_ofEvents hop
    exact (hev e he).1 b hb
  · obtain ⟨e, he, rfl⟩ := Go.Conc.mem_ofEvents hop
    exact (hev e he).2
  · rw [Deaf_own, B.deaf]; exact hdf

/-- Goroutine 0's walk while the others leave. -/
theorem whold_walk {K : World → Prop} {Still : Loc → Prop} {Ch : Nat → Prop} (hm : m < 2147483647) (hW : Back P W) (hSh : ∀ l, WgL Wg l → Sh l) {Stop : Goroutine → World → Prop} {a : Goroutine} (hG : GoesI P true (RWg ty Wg) (DH Wg Sh K Still Ch) Stop a w) :
    ∀ (ph : Nat → Nat) (gs : Array Goroutine) (T : Trace) (w₁ : World) (q : Nat → Nat), RWg ty Wg w w₁ → WB P ty Wg Sh m d b N ph gs T w₁ q → gs[0]? = some a →
      (∀ ph gs' a' w' T' q', Stop a' w' → WB P ty Wg Sh m d b N ph gs' T' w' q' → gs'[0]? = some a' → Win W gs' w' T') → Win W gs w₁ T := by
  induction hG with
  | @stop g w hs =>
    intro ph gs T w₁ q hR B ha k
    exact k ph gs g w₁ T q (hs w₁ hR) B ha
  | @step g w ng nw ne hr hs hd _ ih =>
    intro ph gs T w₁ q hR B ha k
    refine wop hm hW hSh hr ha B fun w₂ ph₁ st sm hR2 hwg hmode _ => ?_
    have hRR := RWg.trans _ _ _ hR hR2
    have hD := hd w₂ hRR
    refine ⟨_, _, _, d, b, hs w₂ hRR, hD.size, ⟨st, sm, by rw [WgAt, hD.wg]; exact hwg, hmode⟩, deafBehind_still (fun e he => ⟨(hD.ev e he).2.1, (hD.ev e he).2.2.1⟩) _, fun e he => ⟨fun x hx hS => ((hD.ev e he).1 x hx).2 hS, (hD.ev e he).2.2.2⟩, fun gs' T' q' B' ha' => ?_⟩
    exact ih w₂ hRR ph₁ gs' T' _ q' (RWg.refl _) B' ha' k
end
end Go.Proofs.Ytdedmmjmiakidaa
/- Plain words: goroutine 0 beside others that only leave; into the play and out of it. No condition. -/
namespace Go.Proofs.Ytdedmmjmiakidaa
open Go.Conc
open Go.ConcN (sumTo upd sumTo_upd upd_ne upd_same)
open Go.ConcR (KK wgBlock WgAt stA smA rd wr mk)

/-- A good end of the run. -/
def GoodEnd (P : Program) (Post : Value → World → Prop) (m : Machine) (t : Trace) : Prop :=
  ∃ N last o w' t', runNT P (N + 1) m t = (.ended o w', t') ∧ runN P N m = .next last ∧ step P last = .ended o w' ∧ Conc.Good P Post last o w' t'
theorem back_goodEnd {P : Program} {Post : Value → World → Prop} : Back P (GoodEnd P Post) := by
  rintro m t m' ops hst ⟨N, last, o, w', t', h1, h2, h3, h4⟩
  refine ⟨N + 1, last, o, w', t', ?_, ?_, h3, h4⟩
  · rw [runNT, hst]; exact h1
  · have : step P m = .next m' := by rw [step, hst]
    simp only [runN, this]
    exact h2

/-- What it may do. -/
structure DL (Sh : Loc → Prop) (w w' : World) (es : Array Event) : Prop where
  size : w.heap.size ≤ w'.heap.size
  ev : ∀ e ∈ es, EvL Sh w'.heap.size e

section
variable {P : Program} {W : Machine → Trace → Prop} {Sh : Loc → Prop} {gs : Array Goroutine} {T : Trace} {w : World} {q : Nat → Nat}

theorem lpicked (hW : Back P W) {a : Goroutine} (hr : a.status = .running) {N : Nat}
    (k : ∀ gs T w₁ q sl, gs.size = N → AtRel w w₁ → Leavers P T gs q → Past Sh w₁.heap.size T → gs[0]? = some a → ∃ M' ops, runT P (crowd gs w₁ sl) 0 = (.next M', ops) ∧ W M' (T ++ ops)) :
    ∀ (M : Nat) (gs : Array Goroutine) (T : Trace) (w₁ : World) (q : Nat → Nat), gs.size = N → AtRel w w₁ → sumTo gs.size q ≤ M → Leavers P T gs q → Past Sh w₁.heap.size T → gs[0]? = some a → Win W gs w₁ T := by
  intro M
  induction M using Nat.strongRecOn with
  | _ M ihM =>
    intro gs T w₁ q hN hR hM L hP ha sl
    have haw : ∀ g ∈ gs, awake g := by
      intro y hy
      obtain ⟨i, hi, rfl⟩ := Array.mem_iff_getElem.1 hy
      rcases Nat.eq_zero_or_pos i with rfl | hpos
      · rw [Array.getElem?_eq_getElem hi] at ha
        rw [Option.some.inj ha]
        exact awake_of (.inl hr)
      · exact awake_of ((L.old i _ hpos (Array.getElem?_eq_getElem hi)).status.elim .inl fun x => .inr (.inr x))
    obtain ⟨i, x, n, sl', hix, hrun, hst⟩ := crowd_pick (P := P) (w := w₁) (sl := sl) haw ⟨0, a, ha, hr⟩
    have hR' : AtRel w (w₁.at n) := atRel_trans _ _ _ hR ⟨n, rfl⟩
    rcases Nat.eq_zero_or_pos i with rfl | hpos
    · obtain ⟨M', ops, h1, h2⟩ := k gs T (w₁.at n) q sl' hN hR' L hP ha
      exact hW _ _ _ _ (hst.trans h1) h2
    · have hq := L.old i x hpos hix
      have hi0 : (i == 0) = false := by simp; omega
      have hlt : i < gs.size := (Array.getElem?_eq_some_iff.1 hix).1
      cases hqi : q i with
      | zero => rw [hqi] at hq; rw [hq.1] at hrun; cases hrun
      | succ m =>
        rw [hqi] at hq
        rcases hq with ⟨hf, _⟩ | ⟨_, g', es, hm, hstp, hq'⟩
        · rw [hf] at hrun; cases hrun
        have hrt := runT_crowd_go (P := P) (sl := sl') (i := i) hix (by rw [hi0]; exact hstp (w₁.at n))
        refine hW _ _ _ _ (hst.trans hrt) ?_
        have hsz : ((gs.map (woken P x g' (w₁.at n))).setIfInBounds i g').size = gs.size := by simp
        have hsum : sumTo gs.size (upd q i m) + (m + 1) = sumTo gs.size q + m := by
          have := sumTo_upd q m id hlt
          simpa [hqi] using this
        refine ihM (sumTo gs.size (upd q i m)) (by omega) _ _ (w₁.at n) (upd q i m) (hsz.trans hN) hR' (by rw [hsz]; exact Nat.le_refl _) ⟨fun j y hj hy => ?_, fun j hj => by
          rw [Deaf_other T (g' := i) (by simp at hj; omega) _ (fun op hop => by obtain ⟨e, _, rfl⟩ := Go.Conc.mem_ofEvents hop; rfl)]
          exact L.above j (by simpa using hj)⟩ (hP.mute (by omega) hm) ?_ sl'
        · by_cases hji : i = j
          · subst hji
            rw [Array.getElem?_setIfInBounds_self_of_lt (by simpa using hlt)] at hy
            obtain rfl := Option.some.inj hy
            rw [upd_same, Deaf_own]
            exact hq'
          · rw [Array.getElem?_setIfInBounds_ne hji, Array.getElem?_map] at hy
            obtain ⟨z, hz, rfl⟩ := Option.map_eq_some_iff.1 hy
            have hqj := L.old j z hj hz
            rw [woken_quitsD hqj, upd_ne q m (Ne.symm hji), Deaf_other T hji _ (fun op hop => by obtain ⟨e, _, rfl⟩ := Go.Conc.mem_ofEvents hop; rfl)]
            exact hqj
        · rw [Array.getElem?_setIfInBounds_ne (by omega), Array.getElem?_map, ha]
          simp [woken_run hr]

/-- A step of goroutine 0's. -/
theorem lop (hW : Back P W) {a : Goroutine} (hr : a.status = .running) (ha : gs[0]? = some a) (L : Leavers P T gs q) (hP : Past Sh w.heap.size T)
    (k : ∀ w₁, AtRel w w₁ → ∃ a' w' es, stepG P true a w₁ = .go a' w' es ∧ DL Sh w₁ w' es ∧
      ∀ gs' T₀ q' fn pos, gs'.size = gs.size → Leavers P (T₀ ++ MemOp.ofEvents 0 fn pos es) gs' q' → Past Sh w'.heap.size (T₀ ++ MemOp.ofEvents 0 fn pos es) → gs'[0]? = some a' → (∀ op ∈ T₀, op.act.low w₁.heap.size) → Win W gs' w' (T₀ ++ MemOp.ofEvents 0 fn pos es)) : Win W gs w T := by
  refine lpicked (N := gs.size) hW hr (fun gs₁ T w₁ q sl hN hR L hP ha => ?_) _ gs T w q rfl (atRel_refl w) (Nat.le_refl _) L hP ha
  have hlt : 0 < gs₁.size := (Array.getElem?_eq_some_iff.1 ha).1
  obtain ⟨a', w', es, hst, hD, hk⟩ := k w₁ hR
  have hrt := runT_crowd_go (P := P) (sl := sl) ha hst
  refine ⟨_, _, hrt, ?_⟩
  refine hk _ T q _ _ (by simpa using hN) ⟨fun j y hj hy => ?_, fun j hj => by
    rw [Deaf_other T (g' := 0) (by simp at hj; omega) _ (fun op hop => by obtain ⟨e, _, rfl⟩ := Go.Conc.mem_ofEvents hop; rfl)]
    exact L.above j (by simpa using hj)⟩ ((hP.mono hD.size).own hD.ev) (by simp [hlt]) hP.seen sl
  have hne : 0 ≠ j := by omega
  rw [Array.getElem?_setIfInBounds_ne hne, Array.getElem?_map] at hy
  obtain ⟨z, hz, rfl⟩ := Option.map_eq_some_iff.1 hy
  have hqj := L.old j z hj hz
  rw [woken_quitsD hqj, Deaf_other T (by omega) _ (fun op hop => by obtain ⟨e, _, rfl⟩ := Go.Conc.mem_ofEvents hop; rfl)]
  exact hqj

/-- Its walk. -/
theorem lwalk (hW : Back P W) {Stop : Goroutine → World → Prop} {a : Goroutine} (hG : GoesI P true AtRel (DL Sh) Stop a w) :
    ∀ (gs : Array Goroutine) (T : Trace) (w₁ : World) (q : Nat → Nat), AtRel w w₁ → Leavers P T gs q → Past Sh w₁.heap.size T → gs[0]? = some a →
      (∀ gs' a' w' T' q', gs'.size = gs.size → Stop a' w' → Leavers P T' gs' q' → Past Sh w'.heap.size T' → gs'[0]? = some a' → Win W gs' w' T') → Win W gs w₁ T := by
  induction hG with
  | @stop g w hs =>
    intro gs T w₁ q hR L hP ha k
    exact k gs g w₁ T q rfl (hs w₁ hR) L hP ha
  | @step g w ng nw ne hr hs hd _ ih =>
    intro gs T w₁ q hR L hP ha k
    refine lop hW hr ha L hP fun w₂ hR2 => ?_
    have hRR := atRel_trans _ _ _ hR hR2
    exact ⟨_, _, _, hs w₂ hRR, hd w₂ hRR, fun gs' T₀ q' fn pos hN' L' hP' ha' _ => ih w₂ hRR gs' _ _ q' (atRel_refl _) L' hP' ha' fun gs'' a' w' T' q'' hN'' => k gs'' a' w' T' q'' (hN''.trans hN')⟩

/-- The end. -/
theorem lend {Post : Value → World → Prop} {a : Goroutine} (h0 : gs[0]? = some a) (L : Leavers P T gs q) (hP : Past Sh w.heap.size T) (h : ∀ w₁, AtRel w w₁ → AtEnd P Sh w.heap.size Post a w₁) : Win (GoodEnd P Post) gs w T := fun sl =>
  beside_ends (D := fun _ _ _ => False) (n := 0) (fun _ _ _ h => h.elim) h0 L hP h
end

section
variable {P : Program} {W : Machine → Trace → Prop} {ty : TypeId} {Wg : Nat} {Sh : Loc → Prop} {gs : Array Goroutine} {T : Trace} {w : World} {q : Nat → Nat}
theorem sumTo_none : ∀ N : Nat, sumTo N (fun _ => 0) = 0
  | 0 => rfl
  | N + 1 => by show sumTo N (fun _ => 0) + 0 = 0; rw [sumTo_none N]
/-- Into the play. -/
theorem Base.ofL {Shun : Loc → Prop} (L : Leavers P T gs q) (hP : Past Shun w.heap.size T) (hSh : ∀ l, Shun l → Sh l) (hWg : ∀ i a, touchAt T i = some a → ¬ WgL Wg a.loc) (hw : WgAt ty Wg w 0 0) :
    Base P ty Wg Sh (fun _ => True) (fun _ => False) (fun _ => False) (fun _ => none) 0 (fun x => x = 0) 0 0 (fun _ => 0) gs T w q := by
  refine ⟨fun i g hi hg => ?_, fun c hc => hc.elim, (fun i s e => by cases e), (fun i i' s s' c e => by cases e), fun j hj => ⟨L.above j hj, rfl, rfl⟩, ?_, hP.hears, trivial, fun l hl => hl.elim, ?_, ?_, ?_, ?_⟩
  · have := L.old i g (Nat.pos_of_ne_zero hi) hg
    refine ⟨Nat.pos_of_ne_zero hi, ?_⟩
    rw [if_neg (by simp)]
    show Lv P ty Wg (q i) (Deaf T i) 0 g
    cases hq : q i <;> (rw [hq] at this; exact this)
  · exact ((PastW.ofPast (Still := fun _ => False) (Sh := Sh) (Wg := WgL Wg) hP hSh (fun _ _ _ h => h) hWg).fewer (fun g hg => hg.elim id fun z => absurd rfl z)).mono (Nat.le_refl _) (fun g hg => hg.elim (·.1) fun z => absurd rfl z.2) (fun g hg => hg.elim)
  · rw [sumTo_none]; simpa using hw
  · rw [sumTo_none]; omega
  · exact fun i => ⟨Nat.zero_le _, fun _ => rfl⟩
  · exact fun i hi h => h.elim (fun e => absurd e (by omega)) fun z => absurd rfl z
/-- All seats are empty: it may wait. -/
theorem WB.ofBase {K : World → Prop} {Still : Loc → Prop} {Ch : Nat → Prop} {d : Nat} {ct : Nat → Nat} (B : Base P ty Wg Sh K Still Ch (fun _ => none) 0 (fun x => x = 0) 0 d ct gs T w q) (hct : ∀ i, ct i = 0 ∨ ct i = 1) (h0 : ct 0 = 0) :
    WB P ty Wg Sh (sumTo gs.size ct) d false gs.size (fun i => if ct i = 1 then 4 else 0) gs T w q := by
  have hs : sumTo gs.size (cnt4 fun i => if ct i = 1 then 4 else 0) = sumTo gs.size ct := Go.ConcN.sumTo_congr fun i _ => by
    rcases hct i with h | h <;> simp [cnt4, h]
  refine ⟨rfl, fun i g hi hg => ?_, fun j hj => ⟨(B.above j hj).1, by rw [(B.above j hj).2.1]; rfl⟩, by simp [h0], ?_, B.deaf, ?_, by rw [hs]; exact Nat.le_refl _⟩
  · exact (B.idle i g (by omega) hg).2
  · refine ⟨B.past.clean, fun i a ha hm => ?_, fun i a _ _ h => h.elim, fun g hg => B.past.hears g (.inl hg), B.past.shut, B.past.seen⟩
    rcases B.past.known i a ha hm with h | ⟨_, _, g, _, hl⟩ | h
    · exact .inl h
    · exact absurd rfl hl.2
    · exact .inr (.inr h)
  · refine ⟨_, 0, B.wg, ?_⟩
    have := WMode.opn (N := gs.size) (ph := fun i => if ct i = 1 then 4 else 0) fun i => by
      rcases hct i with h | h <;> simp [h]
    rw [hs] at this
    simpa using this
/-- All have left the group. -/
theorem WB.toL {m N : Nat} (B : WB P ty Wg Sh m 0 false N (fun _ => 0) gs T w q) : Leavers P T gs q ∧ Past Sh w.heap.size T := by
  refine ⟨⟨fun i g hi hg => ?_, fun j hj => (B.above j (by rw [← B.size]; exact hj)).1⟩, B.past.toPast ⟨rfl, rfl⟩ fun _ h => h⟩
  have : Lv P ty Wg (q i) (Deaf T i) 0 g := B.idle i g hi hg
  cases hq : q i <;> (rw [hq] at this; exact this)
end
end Go.Proofs.Ytdedmmjmiakidaa
/- Plain words: main, in the play: where it stands, and its walk. No condition. -/
namespace Go.Proofs.Ytdedmmjmiakidaa
open Go.Conc Go.RowKit
open Go.ConcN (sumTo upd sumTo_upd upd_ne upd_same)
open Go.ConcR (KK wgBlock WgAt stA smA rd wr mk)

/-- Where main stands: the seats there are; the goroutines started, with their seats, and where each waits, and for how many turns at most; how many goroutines there were; how many are counted ahead of their start; how deaf it is; what stands. -/
structure MI (X : Spec) where
  θ : Tab
  thr : List (SV × Option (X.Pc × Nat))
  off : Nat
  cr : Nat
  d : Nat
  still : Loc → Prop
section
variable {X : Spec} {W : Machine → Trace → Prop} {Wg : Nat} {A A' : MI X} {w : World}
/-- The seats of the goroutines. -/
def MI.seat (A : MI X) (Wg : Nat) (i : Nat) : Option Seat :=
  if i < A.off then none else match A.thr[i - A.off]? with
    | some (s, some (pc, n)) => some (thrSeat s (AtPc X Wg (WgL Wg) s n pc))
    | _ => none
/-- It may stand so. -/
structure MI.Ok (A : MI X) (Wg : Nat) : Prop where
  pos : 0 < A.off
  off : Off Wg A.θ
  chan : ∀ s ∈ A.θ, ¬ isCh A.θ s.blk ∧ ¬ isCh A.θ s.box
  still : ∀ l, A.still l → ¬ WgL Wg l
/-- From here all is well. -/
def StM (W : Machine → Trace → Prop) (X : Spec) (Wg : Nat) (A : MI X) (g : Goroutine) (w : World) : Prop :=
  ∀ ct gs T q, Base Try.prog tWg Wg (WgL Wg) (KT A.θ) A.still (isCh A.θ) (A.seat Wg) 0 (fun x => x = 0) A.cr A.d ct gs T w q → gs.size = A.off + A.thr.length → gs[0]? = some g → Win W gs w T
noncomputable def envM (W : Machine → Trace → Prop) (X : Spec) (Wg : Nat) : Env where
  P := Try.prog
  main := true
  R := RWg tWg Wg
  ι := MI X
  D := fun A => DH Wg (WgL Wg) (KT A.θ) A.still (isCh A.θ)
  le := fun _ _ => True
  St := fun A => StM W X Wg A
  cs := fun _ => True
theorem envM_ok : (envM W X Wg).Ok where
  rrefl := RWg.refl
  rtrans := RWg.trans
  lrefl := fun _ => trivial
  ltrans := fun _ _ _ _ _ => trivial
  still := fun n w => ⟨fun _ _ _ h => h, rfl, id, Nat.le_refl _, by simp⟩
  draw := fun n w => ⟨fun _ _ _ h => h, rfl, fun hk => hk.of_keep fun _ _ => rfl, Nat.le_refl _, by simp⟩
  rdraw := fun w w₁ h => RWg.trans _ _ _ h (RWg.at w₁ _)
  sub := fun n w w' es es' h hs => ⟨h.ch, h.wg, h.keep, h.size, fun e he => h.ev e (hs e he)⟩
  push := fun _ _ _ _ _ _ _ => trivial
theorem MI.Ok.keeps (hA : A.Ok Wg) (w w' : World) (h : KT A.θ w) (hk : ∀ b, b ≠ Wg → ¬ isCh A.θ b → w'.heap[b]? = w.heap[b]?) : KT A.θ w' := h.of_keep fun b hb => by
  obtain ⟨s, hs, rfl | rfl⟩ := hb
  · exact hk _ (hA.off s hs).1 (hA.chan s hs).1
  · exact hk _ (hA.off s hs).2.1 (hA.chan s hs).2
theorem shOk (h : Off Wg A.θ) : ShOk (WgL Wg) Wg A.θ := fun l hl => by
  obtain ⟨a, rfl, ha⟩ := hl
  exact ⟨a, rfl, .inl ha, fun s hs => ⟨fun e => (h s hs).1 (e.symm.trans ha), fun e => (h s hs).2.1 (e.symm.trans ha)⟩⟩
/-- What goes well in the play's company goes well in the machine. -/
theorem winM (hW : Back Try.prog W) (hA : A.Ok Wg) {g : Goroutine} (h : (envM W X Wg).Go A g w) : StM W X Wg A g w := fun ct gs T q B hsz hg =>
  hold_walk (h := 0) hW (fun _ h => h) hA.keeps h _ ct gs T w q (RWg.refl w) (Nat.le_refl _) B hg fun ct' gs' a' w' T' q' hst B' hsz' ha' => hst ct' gs' T' q' B' (hsz'.trans hsz) ha'
theorem goM {g : Goroutine} (h : ∀ w₁, RWg tWg Wg w w₁ → StM W X Wg A g w₁) : (envM W X Wg).Go A g w := GoesI.stop h
/-- A step of main's that touches the group, or makes it deaf or hearing. -/
theorem opM (hW : Back Try.prog W) (hA : A.Ok Wg) {a : Goroutine} (hr : a.status = .running) {d' cr' : Nat}
    (k : ∀ w₁ (V : Nat), RWg tWg Wg w w₁ → V ≤ A.off + A.thr.length → A.cr + V < 2147483647 → WgAt tWg Wg w₁ (((A.cr + V : Nat) : Int) * KK) 0 → KT A.θ w₁ → ∃ a' w' es, stepG Try.prog true a w₁ = .go a' w' es ∧ (∀ b, b ≠ Wg → w'.heap[b]? = w₁.heap[b]?) ∧ w₁.heap.size = w'.heap.size ∧
      WgAt tWg Wg w' (((cr' + V : Nat) : Int) * KK) 0 ∧ cr' + V < 2147483647 ∧ deafBehind A.d es = d' ∧
      (∀ e ∈ es, (∀ x, (MemAct.ofEvent e).touch? = some x → (A.still x.loc → x.write = false) ∧ (WgL Wg x.loc → x.kind ≠ .plain)) ∧ (MemAct.ofEvent e).low w'.heap.size) ∧
      (envM W X Wg).Go { A with cr := cr', d := d' } a' w') : (envM W X Wg).Go A a w := goM fun w0 hR0 ct gs T q B hsz hg => by
  refine hold_op (h := 0) hW (fun _ h => h) hA.keeps hr (d' := d') (cr' := cr') hg B fun w₁ V hR hV hf hwg hk hch => ?_
  obtain ⟨a', w', es, hst, hblk, hs, hwg', hf', hd, hev, hG⟩ := k w₁ V (RWg.trans _ _ _ hR0 hR) (by rw [← hsz]; exact hV) hf hwg hk
  have hcW : ∀ c, isCh A.θ c → c ≠ Wg := fun c hc e => by
    obtain ⟨n, hn⟩ := hch c hc
    rw [e, hwg] at hn
    cases hn
  refine ⟨a', w', es, hst, fun c hc => hblk c (hcW c hc), hA.keeps _ _ hk fun b hb _ => hblk b hb, Nat.le_of_eq hs, hwg', hf', hd, hev, fun ct gs' T₀ q' fn pos B' ha' hsz' _ => ?_⟩
  exact winM (A := { A with cr := cr', d := d' }) hW ⟨hA.pos, hA.off, hA.chan, hA.still⟩ hG ct gs' _ q' B' (hsz'.trans hsz) ha'
end
end Go.Proofs.Ytdedmmjmiakidaa
/- Plain words: main counts one more. No condition. -/
namespace Go.Proofs.Ytdedmmjmiakidaa
open Go.Conc Go.RowKit Go.Conc.Lib Go.ConcR.Gen Go.ConcN.Gen
open Go.ConcN (sumTo upd sumTo_upd upd_ne upd_same)
open Go.ConcR (KK wgBlock WgAt stA smA rd wr mk)
section
variable {X : Spec} {W : Machine → Trace → Prop} {Wg : Nat} {A : MI X} {w : World}
theorem goI_pureM {b : Frame} {a : Act} {k : List Item} {cs : List Frame} {ops : Array Oper} {i : Nat} {l : List Nat} {o : Oper} (ho : ops[i]? = some o) (hw : Region.wanted o (yielded ops a.tmps) = true) (hke : b.kind ≠ .early) (he : ∀ w₁, (execOp a.eval o).events Try.prog w₁ #[] = #[])
    (h : ∀ w₁, ∀ K' : Act → Prop, (∀ a', (envM W X Wg).Go A (G (b.at a' (.inRegion ops l :: k)) cs) w → K' a') → uponK o a (fun a' w' => w' = w₁ ∧ K' a') ((execOp a.eval o).run Try.prog w₁)) : (envM W X Wg).Go A (G (b.at a (.inRegion ops (i :: l) :: k)) cs) w :=
  goI_pure envM_ok ho hw hke he h
theorem goI_valM {b : Frame} {a : Act} {k : List Item} {cs : List Frame} {ops : Array Oper} {i : Nat} {l : List Nat} {o : Oper} (v : Value) (ho : ops[i]? = some o) (hw : Region.wanted o (yielded ops a.tmps) = true) (hke : b.kind ≠ .early) (he : ∀ w₁, (execOp a.eval o).events Try.prog w₁ #[] = #[])
    (hr : ∀ w₁, (execOp a.eval o).run Try.prog w₁ = .ok (.value v) w₁) (h : (envM W X Wg).Go A (G (b.at (a.put o.dst v) (.inRegion ops l :: k)) cs) w) : (envM W X Wg).Go A (G (b.at a (.inRegion ops (i :: l) :: k)) cs) w := by
  refine envM_ok.step1 rfl (fun v => ?_) h
  show stepG Try.prog true _ v = _
  rw [stepG_value ho hw hke (hr v)]
  unfold Go.Conc.listed
  rw [he v, seen_none]
theorem rwg_set {st : Int} {sm : Int} {v : Int} {w : World} (h : WgAt tWg Wg w st sm) : RWg tWg Wg w (w.setCell (stA Wg) (.int .u64 v)) := by
  have ha := aside_setCell w (stA Wg) (.int .u64 v)
  exact ⟨fun b hb => ha.block b hb, fun _ => ⟨_, _, h.setSt _⟩, fun _ _ => ⟨_, h.setSt _⟩, ha.size, rfl, rfl, rfl⟩
theorem callM {b : Frame} {a : Act} {k : List Item} {cs : List Frame} {ops : Array Oper} {i : Nat} {rest : List Nat} {o : Oper} {f : FuncId} {fn : Func} {c : Code} {args : Array Operand} {ats : Array TypeId}
    (ho : ops[i]? = some o) (hw : Region.wanted o (yielded ops a.tmps) = true) (hk : b.kind ≠ .early) (hop : o.op = .call { callee := .value (.func f), args, argTypes := ats })
    (hf : Try.prog.funcs[f]? = some fn) (hname : (fn.name == "runtime.NumGoroutine") = false) (hb : fn.body = some c)
    (h : (envM W X Wg).Go A (G ((base f).at { tmps := args.map a.eval ++ Array.replicate (fn.ntmps - (args.map a.eval).size) undef, defers := [] } [.code c]) (b.at a (.inRegion ops (i :: rest) :: k) :: cs)) w) : (envM W X Wg).Go A (G (b.at a (.inRegion ops (i :: rest) :: k)) cs) w := by
  refine envM_ok.step1 rfl (fun v => ?_) h
  have hg : (stepG Try.prog true (G (b.at a (.inRegion ops (i :: rest) :: k)) cs) v).goes (fun g' w' es => g' = G ((base f).at { tmps := args.map a.eval ++ Array.replicate (fn.ntmps - (args.map a.eval).size) undef, defers := [] } [.code c]) (b.at a (.inRegion ops (i :: rest) :: k) :: cs) ∧ w' = v ∧ es = #[]) :=
    goes_call ho hw hk hop hf hname hb ⟨rfl, rfl, rfl⟩
  show stepG Try.prog true _ v = _
  generalize stepG Try.prog true (G (b.at a (.inRegion ops (i :: rest) :: k)) cs) v = st at hg ⊢
  cases st with
  | go g' w' ev =>
    have hg : _ ∧ _ ∧ _ := hg
    obtain ⟨h1, h2, h3⟩ := hg
    rw [h1, h2, h3]
  | _ => exact hg.elim
theorem ev_read {Still : Loc → Prop} {n : Nat} (hn : Wg < n) : ∀ e ∈ #[mk (.read ⟨Wg, 1, none⟩)], (∀ x, (MemAct.ofEvent e).touch? = some x → (Still x.loc → x.write = false) ∧ (WgL Wg x.loc → x.kind ≠ .plain)) ∧ (MemAct.ofEvent e).low n := by
  intro e he
  simp only [List.mem_toArray, List.mem_cons, List.not_mem_nil, or_false] at he
  subst he
  refine ⟨fun x hx => ?_, ?_⟩
  · simp [mk, MemAct.ofEvent, MemAct.touch?] at hx
    try subst hx
    exact ⟨fun _ => rfl, fun _ => by simp⟩
  · first | exact hn | trivial
theorem ev_add {Still : Loc → Prop} {n : Nat} (hs : ∀ l, Still l → ¬ WgL Wg l) (hn : Wg < n) : ∀ e ∈ #[rd (stA Wg), wr (stA Wg)], (∀ x, (MemAct.ofEvent e).touch? = some x → (Still x.loc → x.write = false) ∧ (WgL Wg x.loc → x.kind ≠ .plain)) ∧ (MemAct.ofEvent e).low n := by
  intro e he
  simp only [List.mem_toArray, List.mem_cons, List.not_mem_nil, or_false] at he
  rcases he with rfl | rfl
  · refine ⟨fun x hx => ?_, hn⟩
    simp [rd, MemAct.ofEvent, MemAct.touch?] at hx
    subst hx
    exact ⟨fun _ => rfl, fun _ => by simp⟩
  · refine ⟨fun x hx => ?_, hn⟩
    simp [wr, MemAct.ofEvent, MemAct.touch?] at hx
    subst hx
    exact ⟨fun h => absurd ⟨stA Wg, rfl, rfl⟩ (hs _ h), fun _ => by simp⟩
theorem leave1M {b b₀ : Frame} {a a₀ : Act} {todo : List Item} {k : List Item} {cs : List Frame} {ops : Array Oper} {i : Nat} {rest : List Nat} {fn : Func} {t : Tmp} (hn : b.kind = .normal) (hd : a.defers = []) (hf : Try.prog.funcs[b.fn]? = some fn) (hr : fn.results = #[.tmp t])
    (h : (envM W X Wg).Go A (G (b₀.at (a₀.put ((ops[i]?).bind (·.dst)) (a.tmps.getD t undef)) (.inRegion ops rest :: k)) cs) w) : (envM W X Wg).Go A (G { b.at a todo with mode := .returning } (b₀.at a₀ (.inRegion ops (i :: rest) :: k) :: cs)) w := by
  refine envM_ok.step1 rfl (fun w => ?_) h
  show stepG Try.prog true _ w = _
  rw [stepG_leave hn hd hf (results_tmp hr _ _ w) (events_results_tmp hr _ _), Frame.finish_at]
theorem goI_wg {st sm : Int} (hwg : WgAt tWg Wg w st sm) {b : Frame} {a : Act} {k : List Item} {cs : List Frame} {ops : Array Oper} {i : Nat} {l : List Nat} {o : Oper} {v : Value} (ho : ops[i]? = some o) (hw : Region.wanted o (yielded ops a.tmps) = true) (hke : b.kind ≠ .early)
    (he : ∀ w₁ st sm, WgAt tWg Wg w₁ st sm → (execOp a.eval o).events Try.prog w₁ #[] = #[]) (hr : ∀ w₁ st sm, WgAt tWg Wg w₁ st sm → (execOp a.eval o).run Try.prog w₁ = .ok (.value v) w₁)
    (h : (envM W X Wg).Go A (G (b.at (a.put o.dst v) (.inRegion ops l :: k)) cs) w) : (envM W X Wg).Go A (G (b.at a (.inRegion ops (i :: l) :: k)) cs) w := by
  refine GoesI.one rfl fun w₁ hR => ?_
  obtain ⟨st1, sm1, hw1⟩ := (show RWg tWg Wg w w₁ from hR).wg ⟨st, sm, hwg⟩
  refine ⟨_, w₁, _, stepG_value ho hw hke (hr w₁ st1 sm1 hw1), ?_, GoesI.rely envM_ok.rtrans h hR⟩
  have : Go.Conc.listed Try.prog b.fn a o w₁ = #[] := by unfold Go.Conc.listed; rw [he w₁ st1 sm1 hw1, seen_none]
  show (envM W X Wg).D A w₁ w₁ (Go.Conc.listed Try.prog b.fn a o w₁)
  rw [this]
  exact envM_ok.still _ _
theorem ev_mark {Still : Loc → Prop} {n : Nat} {m : Mark} (hm : (MemAct.ofEvent (mk m)).touch? = none) (hl : (MemAct.ofEvent (mk m)).low n) : ∀ e ∈ #[mk m], (∀ x, (MemAct.ofEvent e).touch? = some x → (Still x.loc → x.write = false) ∧ (WgL Wg x.loc → x.kind ≠ .plain)) ∧ (MemAct.ofEvent e).low n := by
  intro e he
  simp only [List.mem_toArray, List.mem_cons, List.not_mem_nil, or_false] at he
  subst he
  exact ⟨fun x hx => (by rw [hm] at hx; cases hx), hl⟩
set_option maxRecDepth 100000 in
set_option maxHeartbeats 8000000 in
theorem addM (hW : Back Try.prog W) (hA : A.Ok Wg) (hd : A.d = 0) (hN : A.off + A.thr.length + A.cr < 100000) (hwg : ∃ st sm, WgAt tWg Wg w st sm) {b₀ : Frame} {a₀ : Act} {ops₀ : Array Oper} {i₀ : Nat} {rest₀ : List Nat} {k₀ : List Item} {cs : List Frame}
    (hk : ∀ w', RWg tWg Wg w w' → (envM W X Wg).Go { A with cr := A.cr + 1, d := 0 } (G (b₀.at (a₀.put ((ops₀[i₀]?).bind (·.dst)) (.tuple #[])) (.inRegion ops₀ rest₀ :: k₀)) cs) w') :
    (envM W X Wg).Go A (G ((base wgLink.add).at ⟨#[.pointer (some ⟨Wg, 0, none⟩), .int .i64 1] ++ Array.replicate 115 undef, []⟩ [.code (body_add wgLink)]) (b₀.at a₀ (.inRegion ops₀ (i₀ :: rest₀) :: k₀) :: cs)) w := by
  have O := envM_ok (W := W) (X := X) (Wg := Wg)
  obtain ⟨L, hL⟩ : ∃ L, L = wgLink := ⟨_, rfl⟩
  have H : WgLib Try.prog L := hL ▸ wgLib
  have htw : L.tWg = tWg := by rw [hL]
  rw [← hL]
  clear hL
  lib_facts
  simp only [body_add, addFn, Option.getD_some]
  obtain ⟨w0, hw0⟩ : ∃ w0, w0 = w := ⟨_, rfl⟩
  have hRR : RWg tWg Wg w0 w := by rw [hw0]; exact RWg.refl _
  rw [← hw0] at hk
  clear hw0
  repeat (first | ((first | refine O.step1 rfl (fun _ => stepG_seq) ?_ | refine O.step1 rfl (fun _ => stepG_skip) ?_ | refine O.step1 rfl (fun _ => stepG_region_end) ?_ | refine O.step1 rfl (fun _ => stepG_region) ?_ | refine O.step1 rfl (fun _ => stepG_block) ?_ | refine O.step1 rfl (fun _ => stepG_inBlock) ?_ | refine O.step1 rfl (fun _ => stepG_ret') ?_ | refine O.step1 rfl (fun _ => stepG_end) ?_ | refine O.step1 rfl (fun _ => stepG_cond (t := true) rfl) ?_ | refine O.step1 rfl (fun _ => stepG_cond (t := false) rfl) ?_ | refine O.step1 rfl (fun _ => stepG_unwanted rfl rfl) ?_); try simp only [if_true, if_false, Bool.false_eq_true, ↓reduceIte, List.size_toArray, List.length_cons, List.length_nil, Nat.reduceAdd, Nat.zero_add, List.range, List.range.loop]; try walk_nrm) | ((refine goI_pureM rfl rfl (by k_ne) (fun _ => by simp [go_sem, *]) (fun w₁ K hK => ?_); go_simp; (first | refine ⟨rfl, hK _ ?_⟩ | refine hK _ ?_); clear hK K w₁; try walk_nrm)) | (refine O.step1 rfl (fun _ => stepG_defer rfl rfl (by k_ne) rfl) ?_; try walk_nrm) | (refine O.step1 rfl (fun _ => stepG_entry_pure (.bool false) rfl rfl (by k_ne) rfl H.f_inBubble (x_inBubble_n L) (x_inBubble_b L) (x_inBubble_x L) (x_inBubble_f L)) ?_; try walk_nrm))
  refine opM hW hA rfl (d' := 1) (cr' := A.cr) fun w₁ V hR hV hf hwg hkt => ⟨_, w₁, #[mk .disable], stepG_mark0 .disable (by simp) rfl rfl (by k_ne) rfl H.f_disable (x_disable_n L) (x_disable_b L) (x_disable_x L) (x_disable_f L), fun _ _ => rfl, rfl, hwg, hf, (by rw [hd]; rfl), ev_mark rfl trivial, ?_⟩
  have hRR := RWg.trans _ _ _ hRR hR
  clear hR hkt
  walk_nrm
  repeat (first | ((first | refine O.step1 rfl (fun _ => stepG_seq) ?_ | refine O.step1 rfl (fun _ => stepG_skip) ?_ | refine O.step1 rfl (fun _ => stepG_region_end) ?_ | refine O.step1 rfl (fun _ => stepG_region) ?_ | refine O.step1 rfl (fun _ => stepG_block) ?_ | refine O.step1 rfl (fun _ => stepG_inBlock) ?_ | refine O.step1 rfl (fun _ => stepG_ret') ?_ | refine O.step1 rfl (fun _ => stepG_end) ?_ | refine O.step1 rfl (fun _ => stepG_cond (t := true) rfl) ?_ | refine O.step1 rfl (fun _ => stepG_cond (t := false) rfl) ?_ | refine O.step1 rfl (fun _ => stepG_unwanted rfl rfl) ?_); try simp only [if_true, if_false, Bool.false_eq_true, ↓reduceIte, List.size_toArray, List.length_cons, List.length_nil, Nat.reduceAdd, Nat.zero_add, List.range, List.range.loop]; try walk_nrm) | ((refine goI_pureM rfl rfl (by k_ne) (fun _ => by simp [go_sem, *]) (fun w₁ K hK => ?_); go_simp; (first | refine ⟨rfl, hK _ ?_⟩ | refine hK _ ?_); clear hK K w₁; try walk_nrm)) | (refine O.step1 rfl (fun _ => stepG_defer rfl rfl (by k_ne) rfl) ?_; try walk_nrm) | (refine O.step1 rfl (fun _ => stepG_entry_pure (.bool false) rfl rfl (by k_ne) rfl H.f_inBubble (x_inBubble_n L) (x_inBubble_b L) (x_inBubble_x L) (x_inBubble_f L)) ?_; try walk_nrm))
  refine callM rfl rfl (by k_ne) rfl H.f_uAdd (nm_uAdd L) rfl ?_
  walk_nrmf uAddFn
  have e0 : IntKind.u64.wrap (IntKind.u64.wrap 1 * 4294967296) = 4294967296 := by decide
  simp only [e0]
  repeat (first | ((first | refine O.step1 rfl (fun _ => stepG_seq) ?_ | refine O.step1 rfl (fun _ => stepG_skip) ?_ | refine O.step1 rfl (fun _ => stepG_region_end) ?_ | refine O.step1 rfl (fun _ => stepG_region) ?_ | refine O.step1 rfl (fun _ => stepG_block) ?_ | refine O.step1 rfl (fun _ => stepG_inBlock) ?_ | refine O.step1 rfl (fun _ => stepG_ret') ?_ | refine O.step1 rfl (fun _ => stepG_end) ?_ | refine O.step1 rfl (fun _ => stepG_cond (t := true) rfl) ?_ | refine O.step1 rfl (fun _ => stepG_cond (t := false) rfl) ?_ | refine O.step1 rfl (fun _ => stepG_unwanted rfl rfl) ?_); try simp only [if_true, if_false, Bool.false_eq_true, ↓reduceIte, List.size_toArray, List.length_cons, List.length_nil, Nat.reduceAdd, Nat.zero_add, List.range, List.range.loop]; try walk_nrm) | ((refine goI_pureM rfl rfl (by k_ne) (fun _ => by simp [go_sem, *]) (fun w₁ K hK => ?_); go_simp; (first | refine ⟨rfl, hK _ ?_⟩ | refine hK _ ?_); clear hK K w₁; try walk_nrm)) | (refine O.step1 rfl (fun _ => stepG_defer rfl rfl (by k_ne) rfl) ?_; try walk_nrm) | (refine O.step1 rfl (fun _ => stepG_entry_pure (.bool false) rfl rfl (by k_ne) rfl H.f_inBubble (x_inBubble_n L) (x_inBubble_b L) (x_inBubble_x L) (x_inBubble_f L)) ?_; try walk_nrm))
  clear e0
  refine opM (A := { A with cr := A.cr, d := 1 }) hW ⟨hA.pos, hA.off, hA.chan, hA.still⟩ rfl (d' := 1) (cr' := A.cr + 1) fun w₁ V hR hV hf hwg hkt => ?_
  replace hV : V ≤ A.off + A.thr.length := hV
  replace hwg : WgAt tWg Wg w₁ (((A.cr + V : Nat) : Int) * KK) 0 := hwg
  have eS : IntKind.u64.wrap (((A.cr + V : Nat) : Int) * KK + 4294967296) = ((A.cr + 1 + V : Nat) : Int) * KK := by rw [IntKind.wrap_u64]; simp only [KK]; omega
  have hwg2 := hwg.setSt (((A.cr + 1 + V : Nat) : Int) * KK)
  refine ⟨_, w₁.setCell (stA Wg) (.int .u64 (((A.cr + 1 + V : Nat) : Int) * KK)), #[rd (stA Wg), wr (stA Wg)], (stepG_add_atomic rfl rfl (by k_ne) rfl H.f_addU64 (x_addU64_n L) (x_addU64_b L) (x_addU64_x L) .u64 (x_addU64_f L) rfl rfl hwg.cellSt (hwg.thaw 0)).trans (by rw [eS]; rfl), fun b hb => (aside_setCell w₁ (stA Wg) _).block b hb, (aside_setCell w₁ (stA Wg) _).size.symm, hwg2, (by omega), rfl, ev_add hA.still (Array.getElem?_eq_some_iff.1 hwg2).1, ?_⟩
  have hRR := RWg.trans _ _ _ (RWg.trans _ _ _ hRR hR) (rwg_set (v := ((A.cr + 1 + V : Nat) : Int) * KK) hwg)
  clear hR hkt eS hwg
  obtain ⟨V', hV'⟩ : ∃ V' : Int, V' = ((A.cr + 1 + V : Nat) : Int) := ⟨_, rfl⟩
  obtain ⟨S, hS⟩ : ∃ S : Int, S = V' * KK := ⟨_, rfl⟩
  have h0 : 0 < V' := by omega
  have h1 : V' < 2147483648 := by omega
  have b1 : bits .and .u64 S 2147483648 = 0 := by rw [hS, hV']; have := Go.ConcN.st_flag (A.cr + 1 + V) 0 (by omega) (by omega); simpa [KK] using this
  have b2 : bits .and .u64 S 2147483647 = 0 := by rw [hS, hV']; have := Go.ConcN.st_waiters (A.cr + 1 + V) 0 (by omega) (by omega); simpa [KK] using this
  rw [← hV', ← hS] at hwg2 hRR ⊢
  have a1 : S / 4294967296 = V' := by rw [hS]; simp only [KK]; omega
  clear hV' hS hV hf
  obtain ⟨w₂, hw₂⟩ : ∃ w₂, w₂ = w₁.setCell (stA Wg) (.int .u64 S) := ⟨_, rfl⟩
  rw [← hw₂] at hwg2 hRR ⊢
  clear hw₂
  have c1 : IntKind.i32.wrap V' = V' := by rw [IntKind.wrap_i32]; omega
  have q3 : decide (V' < 0) = false := decide_eq_false (by omega)
  have q4 : decide (0 < V') = true := decide_eq_true (by omega)
  have q5 : (V' == 0) = false := by simp; omega
  have q6 : decide (V' = 0) = false := decide_eq_false (by omega)
  change (envM W X Wg).Go { A with cr := A.cr + 1, d := 1 } _ w₂
  walk_nrm
  have hT : ∀ (b : Frame) (t : Array Value) (todo : List Item), b = base L.add → (envM W X Wg).Go { A with cr := A.cr + 1, d := 1 } (G { b.at ⟨t, [dcall L.enable #[]]⟩ todo with mode := .returning } (b₀.at a₀ (.inRegion ops₀ (i₀ :: rest₀) :: k₀) :: cs)) w₂ := by
    intro b t todo hb
    refine opM (A := { A with cr := A.cr + 1, d := 1 }) hW ⟨hA.pos, hA.off, hA.chan, hA.still⟩ rfl (d' := 0) (cr' := A.cr + 1) fun w₁ V hR hV hf hwg hkt => ⟨_, w₁, #[mk .enable], stepG_unwind_entry (v := .tuple #[]) (evs := #[mk .enable]) rfl H.f_enable (x_enable_n L) (x_enable_b L) (x_enable_x L) (x_enable_f L) (by simp [Extern.Race.none_]) (by simp [mk]) (by simp [mk]), fun _ _ => rfl, rfl, hwg, hf, rfl, ev_mark rfl trivial, ?_⟩
    subst hb
    refine O.step1 rfl (fun w => ?_) (hk w₁ (RWg.trans _ _ _ hRR hR))
    show stepG Try.prog true _ w = _
    rw [stepG_leave rfl rfl H.f_add (results_none rfl _ _ w) (events_results_none rfl _ _), Frame.finish_at]
  have k1 : IntKind.u32.wrap 0 = 0 := by decide
  have k2 : IntKind.i32.wrap 1 = 1 := by decide
  by_cases hone : V' = 1
  · have q1 : (V' == 1) = true := by simp [hone]
    have q2 : decide (V' = 1) = true := decide_eq_true hone
    clear hone h0 h1
    refine goI_valM (.int .u64 S) rfl rfl (by k_ne) (fun _ => by simp [go_sem, *]) (fun _ => by go_simp; try (first | rfl | (simp only [k1, k2]; rfl) | (simp [*]))) ?_; walk_nrm
    refine O.step1 rfl (fun _ => stepG_region_end) ?_
    refine O.step1 rfl (fun _ => stepG_ret') ?_
    refine leave1M rfl rfl H.f_uAdd rfl ?_
    walk_nrm
    refine goI_valM (.int .u64 S) rfl rfl (by k_ne) (fun _ => by simp [go_sem, *]) (fun _ => by go_simp; try (first | rfl | (simp only [k1, k2]; rfl) | (simp [*]))) ?_; walk_nrm
    refine O.step1 rfl (fun _ => stepG_region_end) ?_
    refine O.step1 rfl (fun _ => stepG_seq) ?_
    refine O.step1 rfl (fun _ => stepG_seq) ?_
    refine O.step1 rfl (fun _ => stepG_region) ?_; simp only [List.size_toArray, List.length_cons, List.length_nil, Nat.reduceAdd, Nat.zero_add, List.range, List.range.loop]
    refine goI_valM (.int .u64 S) rfl rfl (by k_ne) (fun _ => by simp [go_sem, *]) (fun _ => by go_simp; try (first | rfl | (simp only [k1, k2]; rfl) | (simp [*]))) ?_; walk_nrm
    refine goI_valM (.int .u64 0) rfl rfl (by k_ne) (fun _ => by simp [go_sem, *]) (fun _ => by go_simp; try (first | rfl | (simp only [k1, k2]; rfl) | (simp [*]))) ?_; walk_nrm
    refine goI_valM (.bool false) rfl rfl (by k_ne) (fun _ => by simp [go_sem, *]) (fun _ => by go_simp; try (first | rfl | (simp only [k1, k2]; rfl) | (simp [*]))) ?_; walk_nrm
    refine goI_valM (.bool false) rfl rfl (by k_ne) (fun _ => by simp [go_sem, *]) (fun _ => by go_simp; try (first | rfl | (simp only [k1, k2]; rfl) | (simp [*]))) ?_; walk_nrm
    refine O.step1 rfl (fun _ => stepG_unwanted rfl rfl) ?_; walk_nrm
    refine O.step1 rfl (fun _ => stepG_unwanted rfl rfl) ?_; walk_nrm
    refine goI_valM (.bool false) rfl rfl (by k_ne) (fun _ => by simp [go_sem, *]) (fun _ => by go_simp; try (first | rfl | (simp only [k1, k2]; rfl) | (simp [*]))) ?_; walk_nrm
    refine O.step1 rfl (fun _ => stepG_region_end) ?_
    refine O.step1 rfl (fun _ => stepG_cond (t := false) rfl) ?_; simp only [if_false, Bool.false_eq_true, ↓reduceIte]
    refine O.step1 rfl (fun _ => stepG_skip) ?_
    refine O.step1 rfl (fun _ => stepG_seq) ?_
    refine O.step1 rfl (fun _ => stepG_region) ?_; simp only [List.size_toArray, List.length_cons, List.length_nil, Nat.reduceAdd, Nat.zero_add, List.range, List.range.loop]
    refine goI_valM (.int .u64 S) rfl rfl (by k_ne) (fun _ => by simp [go_sem, *]) (fun _ => by go_simp; try (first | rfl | (simp only [k1, k2]; rfl) | (simp [*]))) ?_; walk_nrm
    refine goI_valM (.int .u64 V') rfl rfl (by k_ne) (fun _ => by simp [go_sem, *]) (fun _ => by go_simp; try (first | rfl | (simp only [k1, k2]; rfl) | (simp [*]))) ?_; walk_nrm
    refine goI_valM (.int .i32 V') rfl rfl (by k_ne) (fun _ => by simp [go_sem, *]) (fun _ => by go_simp; try (first | rfl | (simp only [k1, k2]; rfl) | (simp [*]))) ?_; walk_nrm
    refine goI_valM (.int .i32 V') rfl rfl (by k_ne) (fun _ => by simp [go_sem, *]) (fun _ => by go_simp; try (first | rfl | (simp only [k1, k2]; rfl) | (simp [*]))) ?_; walk_nrm
    refine O.step1 rfl (fun _ => stepG_region_end) ?_
    refine O.step1 rfl (fun _ => stepG_seq) ?_
    refine O.step1 rfl (fun _ => stepG_region) ?_; simp only [List.size_toArray, List.length_cons, List.length_nil, Nat.reduceAdd, Nat.zero_add, List.range, List.range.loop]
    refine goI_valM (.int .u64 S) rfl rfl (by k_ne) (fun _ => by simp [go_sem, *]) (fun _ => by go_simp; try (first | rfl | (simp only [k1, k2]; rfl) | (simp [*]))) ?_; walk_nrm
    refine goI_valM (.int .u64 0) rfl rfl (by k_ne) (fun _ => by simp [go_sem, *]) (fun _ => by go_simp; try (first | rfl | (simp only [k1, k2]; rfl) | (simp [*]))) ?_; walk_nrm
    refine goI_valM (.int .u32 0) rfl rfl (by k_ne) (fun _ => by simp [go_sem, *]) (fun _ => by go_simp; try (first | rfl | (simp only [k1, k2]; rfl) | (simp [*]))) ?_; walk_nrm
    refine goI_valM (.int .u32 0) rfl rfl (by k_ne) (fun _ => by simp [go_sem, *]) (fun _ => by go_simp; try (first | rfl | (simp only [k1, k2]; rfl) | (simp [*]))) ?_; walk_nrm
    refine O.step1 rfl (fun _ => stepG_region_end) ?_
    refine O.step1 rfl (fun _ => stepG_seq) ?_
    refine O.step1 rfl (fun _ => stepG_seq) ?_
    refine O.step1 rfl (fun _ => stepG_region) ?_; simp only [List.size_toArray, List.length_cons, List.length_nil, Nat.reduceAdd, Nat.zero_add, List.range, List.range.loop]
    refine goI_valM (.bool true) rfl rfl (by k_ne) (fun _ => by simp [go_sem, *]) (fun _ => by go_simp; try (first | rfl | (simp only [k1, k2]; rfl) | (simp [*]))) ?_; walk_nrm
    refine goI_valM (.int .i64 1) rfl rfl (by k_ne) (fun _ => by simp [go_sem, *]) (fun _ => by go_simp; try (first | rfl | (simp only [k1, k2]; rfl) | (simp [*]))) ?_; walk_nrm
    refine goI_valM (.bool true) rfl rfl (by k_ne) (fun _ => by simp [go_sem, *]) (fun _ => by go_simp; try (first | rfl | (simp only [k1, k2]; rfl) | (simp [*]))) ?_; walk_nrm
    refine goI_valM (.bool true) rfl rfl (by k_ne) (fun _ => by simp [go_sem, *]) (fun _ => by go_simp; try (first | rfl | (simp only [k1, k2]; rfl) | (simp [*]))) ?_; walk_nrm
    refine goI_valM (.bool true) rfl rfl (by k_ne) (fun _ => by simp [go_sem, *]) (fun _ => by go_simp; try (first | rfl | (simp only [k1, k2]; rfl) | (simp [*]))) ?_; walk_nrm
    refine goI_valM (.int .i32 V') rfl rfl (by k_ne) (fun _ => by simp [go_sem, *]) (fun _ => by go_simp; try (first | rfl | (simp only [k1, k2]; rfl) | (simp [*]))) ?_; walk_nrm
    refine goI_valM (.int .i64 1) rfl rfl (by k_ne) (fun _ => by simp [go_sem, *]) (fun _ => by go_simp; try (first | rfl | (simp only [k1, k2]; rfl) | (simp [*]))) ?_; walk_nrm
    refine goI_valM (.int .i32 1) rfl rfl (by k_ne) (fun _ => by simp [go_sem, *]) (fun _ => by go_simp; try (first | rfl | (simp only [k1, k2]; rfl) | (simp [*]))) ?_; walk_nrm
    refine goI_valM (.bool true) rfl rfl (by k_ne) (fun _ => by simp [go_sem, *]) (fun _ => by go_simp; try (first | rfl | (simp only [k1, k2]; rfl) | (simp [*]))) ?_; walk_nrm
    refine goI_valM (.bool true) rfl rfl (by k_ne) (fun _ => by simp [go_sem, *]) (fun _ => by go_simp; try (first | rfl | (simp only [k1, k2]; rfl) | (simp [*]))) ?_; walk_nrm
    refine O.step1 rfl (fun _ => stepG_region_end) ?_
    refine O.step1 rfl (fun _ => stepG_cond (t := true) rfl) ?_; simp only [if_true, ↓reduceIte]
    refine O.step1 rfl (fun _ => stepG_region) ?_; simp only [List.size_toArray, List.length_cons, List.length_nil, Nat.reduceAdd, Nat.zero_add, List.range, List.range.loop]
    refine goI_valM (.pointer (some ⟨Wg, 0, none⟩)) rfl rfl (by k_ne) (fun _ => by simp [go_sem, *]) (fun _ => by go_simp; try (first | rfl | (simp only [k1, k2]; rfl) | (simp [*]))) ?_; walk_nrm
    refine goI_valM (.pointer (some ⟨Wg, 0, none⟩)) rfl rfl (by k_ne) (fun _ => by simp [go_sem, *]) (fun _ => by go_simp; try (first | rfl | (simp only [k1, k2]; rfl) | (simp [*]))) ?_; walk_nrm
    refine goI_valM (.pointer (some ⟨Wg, 1, none⟩)) rfl rfl (by k_ne) (fun _ => by simp [go_sem, *]) (fun _ => by go_simp; try (first | rfl | (simp only [k1, k2]; rfl) | (simp [*]))) ?_; walk_nrm
    refine goI_wg hwg2 (v := .pointer (some ⟨Wg, 1, none⟩)) rfl rfl (by k_ne) (fun w st sm hw => ?_) (fun w st sm hw => ?_) ?_
    · have hc0 : w.cell? ⟨Wg, 1, none⟩ = some (.int .u32 sm) := hw.cellSm
      have hce := fun es => events_convert_to_unsafe (P := Try.prog) H.underlying_tPU32 H.underlying_tUP H.room_tU32 hc0 es
      simp [go_sem, hce]
    · have hc0 : w.cell? ⟨Wg, 1, none⟩ = some (.int .u32 sm) := hw.cellSm
      have hcv := run_convert_to_unsafe (P := Try.prog) H.underlying_tPU32 H.underlying_tUP H.room_tU32 hc0
      go_simp
    walk_nrm
    refine opM (A := { A with cr := A.cr + 1, d := 1 }) hW ⟨hA.pos, hA.off, hA.chan, hA.still⟩ rfl (d' := 1) (cr' := A.cr + 1) fun w₁ V hR hV hf hwg hkt => ⟨_, w₁, #[mk (.read ⟨Wg, 1, none⟩)], stepG_markAt .read (by simp) rfl rfl (by k_ne) rfl H.f_raceRead (x_raceRead_n L) (x_raceRead_b L) (x_raceRead_x L) (x_raceRead_f L) (ad := ⟨Wg, 1, none⟩) (by simp [Act.eval]), fun _ _ => rfl, rfl, hwg, hf, rfl, ?_, ?_⟩
    · exact ev_read (Array.getElem?_eq_some_iff.1 hwg).1
    replace hT := fun b t todo hb => GoesI.rely O.rtrans (hT b t todo hb) hR
    walk_nrm
    refine O.step1 rfl (fun _ => stepG_region_end) ?_
    refine O.step1 rfl (fun _ => stepG_seq) ?_
    refine O.step1 rfl (fun _ => stepG_seq) ?_
    refine O.step1 rfl (fun _ => stepG_region) ?_; simp only [List.size_toArray, List.length_cons, List.length_nil, Nat.reduceAdd, Nat.zero_add, List.range, List.range.loop]
    refine goI_valM (.int .i32 V') rfl rfl (by k_ne) (fun _ => by simp [go_sem, *]) (fun _ => by go_simp; try (first | rfl | (simp only [k1, k2]; rfl) | (simp [*]))) ?_; walk_nrm
    refine goI_valM (.bool false) rfl rfl (by k_ne) (fun _ => by simp [go_sem, *]) (fun _ => by go_simp; try (first | rfl | (simp only [k1, k2]; rfl) | (simp [*]))) ?_; walk_nrm
    refine O.step1 rfl (fun _ => stepG_region_end) ?_
    refine O.step1 rfl (fun _ => stepG_cond (t := false) rfl) ?_; simp only [if_false, Bool.false_eq_true, ↓reduceIte]
    refine O.step1 rfl (fun _ => stepG_skip) ?_
    refine O.step1 rfl (fun _ => stepG_seq) ?_
    refine O.step1 rfl (fun _ => stepG_seq) ?_
    refine O.step1 rfl (fun _ => stepG_region) ?_; simp only [List.size_toArray, List.length_cons, List.length_nil, Nat.reduceAdd, Nat.zero_add, List.range, List.range.loop]
    refine goI_valM (.int .u32 0) rfl rfl (by k_ne) (fun _ => by simp [go_sem, *]) (fun _ => by go_simp; try (first | rfl | (simp only [k1, k2]; rfl) | (simp [*]))) ?_; walk_nrm
    refine goI_valM (.bool false) rfl rfl (by k_ne) (fun _ => by simp [go_sem, *]) (fun _ => by go_simp; try (first | rfl | (simp only [k1, k2]; rfl) | (simp [*]))) ?_; walk_nrm
    refine goI_valM (.bool false) rfl rfl (by k_ne) (fun _ => by simp [go_sem, *]) (fun _ => by go_simp; try (first | rfl | (simp only [k1, k2]; rfl) | (simp [*]))) ?_; walk_nrm
    refine O.step1 rfl (fun _ => stepG_unwanted rfl rfl) ?_; walk_nrm
    refine O.step1 rfl (fun _ => stepG_unwanted rfl rfl) ?_; walk_nrm
    refine goI_valM (.bool false) rfl rfl (by k_ne) (fun _ => by simp [go_sem, *]) (fun _ => by go_simp; try (first | rfl | (simp only [k1, k2]; rfl) | (simp [*]))) ?_; walk_nrm
    refine goI_valM (.bool false) rfl rfl (by k_ne) (fun _ => by simp [go_sem, *]) (fun _ => by go_simp; try (first | rfl | (simp only [k1, k2]; rfl) | (simp [*]))) ?_; walk_nrm
    refine O.step1 rfl (fun _ => stepG_unwanted rfl rfl) ?_; walk_nrm
    refine O.step1 rfl (fun _ => stepG_unwanted rfl rfl) ?_; walk_nrm
    refine O.step1 rfl (fun _ => stepG_unwanted rfl rfl) ?_; walk_nrm
    refine O.step1 rfl (fun _ => stepG_unwanted rfl rfl) ?_; walk_nrm
    refine goI_valM (.bool false) rfl rfl (by k_ne) (fun _ => by simp [go_sem, *]) (fun _ => by go_simp; try (first | rfl | (simp only [k1, k2]; rfl) | (simp [*]))) ?_; walk_nrm
    refine O.step1 rfl (fun _ => stepG_region_end) ?_
    refine O.step1 rfl (fun _ => stepG_cond (t := false) rfl) ?_; simp only [if_false, Bool.false_eq_true, ↓reduceIte]
    refine O.step1 rfl (fun _ => stepG_skip) ?_
    refine O.step1 rfl (fun _ => stepG_seq) ?_
    refine O.step1 rfl (fun _ => stepG_seq) ?_
    refine O.step1 rfl (fun _ => stepG_region) ?_; simp only [List.size_toArray, List.length_cons, List.length_nil, Nat.reduceAdd, Nat.zero_add, List.range, List.range.loop]
    refine goI_valM (.int .i32 V') rfl rfl (by k_ne) (fun _ => by simp [go_sem, *]) (fun _ => by go_simp; try (first | rfl | (simp only [k1, k2]; rfl) | (simp [*]))) ?_; walk_nrm
    refine goI_valM (.bool true) rfl rfl (by k_ne) (fun _ => by simp [go_sem, *]) (fun _ => by go_simp; try (first | rfl | (simp only [k1, k2]; rfl) | (simp [*]))) ?_; walk_nrm
    refine goI_valM (.bool true) rfl rfl (by k_ne) (fun _ => by simp [go_sem, *]) (fun _ => by go_simp; try (first | rfl | (simp only [k1, k2]; rfl) | (simp [*]))) ?_; walk_nrm
    refine O.step1 rfl (fun _ => stepG_unwanted rfl rfl) ?_; walk_nrm
    refine O.step1 rfl (fun _ => stepG_unwanted rfl rfl) ?_; walk_nrm
    refine goI_valM (.bool true) rfl rfl (by k_ne) (fun _ => by simp [go_sem, *]) (fun _ => by go_simp; try (first | rfl | (simp only [k1, k2]; rfl) | (simp [*]))) ?_; walk_nrm
    refine O.step1 rfl (fun _ => stepG_region_end) ?_
    refine O.step1 rfl (fun _ => stepG_cond (t := true) rfl) ?_; simp only [if_true, ↓reduceIte]
    refine O.step1 rfl (fun _ => stepG_ret') ?_
    exact hT _ _ _ rfl
  · have q1 : (V' == 1) = false := by simp [hone]
    have q2 : decide (V' = 1) = false := decide_eq_false hone
    clear hone h0 h1
    refine goI_valM (.int .u64 S) rfl rfl (by k_ne) (fun _ => by simp [go_sem, *]) (fun _ => by go_simp; try (first | rfl | (simp only [k1, k2]; rfl) | (simp [*]))) ?_; walk_nrm
    refine O.step1 rfl (fun _ => stepG_region_end) ?_
    refine O.step1 rfl (fun _ => stepG_ret') ?_
    refine leave1M rfl rfl H.f_uAdd rfl ?_
    walk_nrm
    refine goI_valM (.int .u64 S) rfl rfl (by k_ne) (fun _ => by simp [go_sem, *]) (fun _ => by go_simp; try (first | rfl | (simp only [k1, k2]; rfl) | (simp [*]))) ?_; walk_nrm
    refine O.step1 rfl (fun _ => stepG_region_end) ?_
    refine O.step1 rfl (fun _ => stepG_seq) ?_
    refine O.step1 rfl (fun _ => stepG_seq) ?_
    refine O.step1 rfl (fun _ => stepG_region) ?_; simp only [List.size_toArray, List.length_cons, List.length_nil, Nat.reduceAdd, Nat.zero_add, List.range, List.range.loop]
    refine goI_valM (.int .u64 S) rfl rfl (by k_ne) (fun _ => by simp [go_sem, *]) (fun _ => by go_simp; try (first | rfl | (simp only [k1, k2]; rfl) | (simp [*]))) ?_; walk_nrm
    refine goI_valM (.int .u64 0) rfl rfl (by k_ne) (fun _ => by simp [go_sem, *]) (fun _ => by go_simp; try (first | rfl | (simp only [k1, k2]; rfl) | (simp [*]))) ?_; walk_nrm
    refine goI_valM (.bool false) rfl rfl (by k_ne) (fun _ => by simp [go_sem, *]) (fun _ => by go_simp; try (first | rfl | (simp only [k1, k2]; rfl) | (simp [*]))) ?_; walk_nrm
    refine goI_valM (.bool false) rfl rfl (by k_ne) (fun _ => by simp [go_sem, *]) (fun _ => by go_simp; try (first | rfl | (simp only [k1, k2]; rfl) | (simp [*]))) ?_; walk_nrm
    refine O.step1 rfl (fun _ => stepG_unwanted rfl rfl) ?_; walk_nrm
    refine O.step1 rfl (fun _ => stepG_unwanted rfl rfl) ?_; walk_nrm
    refine goI_valM (.bool false) rfl rfl (by k_ne) (fun _ => by simp [go_sem, *]) (fun _ => by go_simp; try (first | rfl | (simp only [k1, k2]; rfl) | (simp [*]))) ?_; walk_nrm
    refine O.step1 rfl (fun _ => stepG_region_end) ?_
    refine O.step1 rfl (fun _ => stepG_cond (t := false) rfl) ?_; simp only [if_false, Bool.false_eq_true, ↓reduceIte]
    refine O.step1 rfl (fun _ => stepG_skip) ?_
    refine O.step1 rfl (fun _ => stepG_seq) ?_
    refine O.step1 rfl (fun _ => stepG_region) ?_; simp only [List.size_toArray, List.length_cons, List.length_nil, Nat.reduceAdd, Nat.zero_add, List.range, List.range.loop]
    refine goI_valM (.int .u64 S) rfl rfl (by k_ne) (fun _ => by simp [go_sem, *]) (fun _ => by go_simp; try (first | rfl | (simp only [k1, k2]; rfl) | (simp [*]))) ?_; walk_nrm
    refine goI_valM (.int .u64 V') rfl rfl (by k_ne) (fun _ => by simp [go_sem, *]) (fun _ => by go_simp; try (first | rfl | (simp only [k1, k2]; rfl) | (simp [*]))) ?_; walk_nrm
    refine goI_valM (.int .i32 V') rfl rfl (by k_ne) (fun _ => by simp [go_sem, *]) (fun _ => by go_simp; try (first | rfl | (simp only [k1, k2]; rfl) | (simp [*]))) ?_; walk_nrm
    refine goI_valM (.int .i32 V') rfl rfl (by k_ne) (fun _ => by simp [go_sem, *]) (fun _ => by go_simp; try (first | rfl | (simp only [k1, k2]; rfl) | (simp [*]))) ?_; walk_nrm
    refine O.step1 rfl (fun _ => stepG_region_end) ?_
    refine O.step1 rfl (fun _ => stepG_seq) ?_
    refine O.step1 rfl (fun _ => stepG_region) ?_; simp only [List.size_toArray, List.length_cons, List.length_nil, Nat.reduceAdd, Nat.zero_add, List.range, List.range.loop]
    refine goI_valM (.int .u64 S) rfl rfl (by k_ne) (fun _ => by simp [go_sem, *]) (fun _ => by go_simp; try (first | rfl | (simp only [k1, k2]; rfl) | (simp [*]))) ?_; walk_nrm
    refine goI_valM (.int .u64 0) rfl rfl (by k_ne) (fun _ => by simp [go_sem, *]) (fun _ => by go_simp; try (first | rfl | (simp only [k1, k2]; rfl) | (simp [*]))) ?_; walk_nrm
    refine goI_valM (.int .u32 0) rfl rfl (by k_ne) (fun _ => by simp [go_sem, *]) (fun _ => by go_simp; try (first | rfl | (simp only [k1, k2]; rfl) | (simp [*]))) ?_; walk_nrm
    refine goI_valM (.int .u32 0) rfl rfl (by k_ne) (fun _ => by simp [go_sem, *]) (fun _ => by go_simp; try (first | rfl | (simp only [k1, k2]; rfl) | (simp [*]))) ?_; walk_nrm
    refine O.step1 rfl (fun _ => stepG_region_end) ?_
    refine O.step1 rfl (fun _ => stepG_seq) ?_
    refine O.step1 rfl (fun _ => stepG_seq) ?_
    refine O.step1 rfl (fun _ => stepG_region) ?_; simp only [List.size_toArray, List.length_cons, List.length_nil, Nat.reduceAdd, Nat.zero_add, List.range, List.range.loop]
    refine goI_valM (.bool true) rfl rfl (by k_ne) (fun _ => by simp [go_sem, *]) (fun _ => by go_simp; try (first | rfl | (simp only [k1, k2]; rfl) | (simp [*]))) ?_; walk_nrm
    refine goI_valM (.int .i64 1) rfl rfl (by k_ne) (fun _ => by simp [go_sem, *]) (fun _ => by go_simp; try (first | rfl | (simp only [k1, k2]; rfl) | (simp [*]))) ?_; walk_nrm
    refine goI_valM (.bool true) rfl rfl (by k_ne) (fun _ => by simp [go_sem, *]) (fun _ => by go_simp; try (first | rfl | (simp only [k1, k2]; rfl) | (simp [*]))) ?_; walk_nrm
    refine goI_valM (.bool true) rfl rfl (by k_ne) (fun _ => by simp [go_sem, *]) (fun _ => by go_simp; try (first | rfl | (simp only [k1, k2]; rfl) | (simp [*]))) ?_; walk_nrm
    refine goI_valM (.bool true) rfl rfl (by k_ne) (fun _ => by simp [go_sem, *]) (fun _ => by go_simp; try (first | rfl | (simp only [k1, k2]; rfl) | (simp [*]))) ?_; walk_nrm
    refine goI_valM (.int .i32 V') rfl rfl (by k_ne) (fun _ => by simp [go_sem, *]) (fun _ => by go_simp; try (first | rfl | (simp only [k1, k2]; rfl) | (simp [*]))) ?_; walk_nrm
    refine goI_valM (.int .i64 1) rfl rfl (by k_ne) (fun _ => by simp [go_sem, *]) (fun _ => by go_simp; try (first | rfl | (simp only [k1, k2]; rfl) | (simp [*]))) ?_; walk_nrm
    refine goI_valM (.int .i32 1) rfl rfl (by k_ne) (fun _ => by simp [go_sem, *]) (fun _ => by go_simp; try (first | rfl | (simp only [k1, k2]; rfl) | (simp [*]))) ?_; walk_nrm
    refine goI_valM (.bool false) rfl rfl (by k_ne) (fun _ => by simp [go_sem, *]) (fun _ => by go_simp; try (first | rfl | (simp only [k1, k2]; rfl) | (simp [*]))) ?_; walk_nrm
    refine goI_valM (.bool false) rfl rfl (by k_ne) (fun _ => by simp [go_sem, *]) (fun _ => by go_simp; try (first | rfl | (simp only [k1, k2]; rfl) | (simp [*]))) ?_; walk_nrm
    refine O.step1 rfl (fun _ => stepG_region_end) ?_
    refine O.step1 rfl (fun _ => stepG_cond (t := false) rfl) ?_; simp only [if_false, Bool.false_eq_true, ↓reduceIte]
    refine O.step1 rfl (fun _ => stepG_skip) ?_
    refine O.step1 rfl (fun _ => stepG_seq) ?_
    refine O.step1 rfl (fun _ => stepG_seq) ?_
    refine O.step1 rfl (fun _ => stepG_region) ?_; simp only [List.size_toArray, List.length_cons, List.length_nil, Nat.reduceAdd, Nat.zero_add, List.range, List.range.loop]
    refine goI_valM (.int .i32 V') rfl rfl (by k_ne) (fun _ => by simp [go_sem, *]) (fun _ => by go_simp; try (first | rfl | (simp only [k1, k2]; rfl) | (simp [*]))) ?_; walk_nrm
    refine goI_valM (.bool false) rfl rfl (by k_ne) (fun _ => by simp [go_sem, *]) (fun _ => by go_simp; try (first | rfl | (simp only [k1, k2]; rfl) | (simp [*]))) ?_; walk_nrm
    refine O.step1 rfl (fun _ => stepG_region_end) ?_
    refine O.step1 rfl (fun _ => stepG_cond (t := false) rfl) ?_; simp only [if_false, Bool.false_eq_true, ↓reduceIte]
    refine O.step1 rfl (fun _ => stepG_skip) ?_
    refine O.step1 rfl (fun _ => stepG_seq) ?_
    refine O.step1 rfl (fun _ => stepG_seq) ?_
    refine O.step1 rfl (fun _ => stepG_region) ?_; simp only [List.size_toArray, List.length_cons, List.length_nil, Nat.reduceAdd, Nat.zero_add, List.range, List.range.loop]
    refine goI_valM (.int .u32 0) rfl rfl (by k_ne) (fun _ => by simp [go_sem, *]) (fun _ => by go_simp; try (first | rfl | (simp only [k1, k2]; rfl) | (simp [*]))) ?_; walk_nrm
    refine goI_valM (.bool false) rfl rfl (by k_ne) (fun _ => by simp [go_sem, *]) (fun _ => by go_simp; try (first | rfl | (simp only [k1, k2]; rfl) | (simp [*]))) ?_; walk_nrm
    refine goI_valM (.bool false) rfl rfl (by k_ne) (fun _ => by simp [go_sem, *]) (fun _ => by go_simp; try (first | rfl | (simp only [k1, k2]; rfl) | (simp [*]))) ?_; walk_nrm
    refine O.step1 rfl (fun _ => stepG_unwanted rfl rfl) ?_; walk_nrm
    refine O.step1 rfl (fun _ => stepG_unwanted rfl rfl) ?_; walk_nrm
    refine goI_valM (.bool false) rfl rfl (by k_ne) (fun _ => by simp [go_sem, *]) (fun _ => by go_simp; try (first | rfl | (simp only [k1, k2]; rfl) | (simp [*]))) ?_; walk_nrm
    refine goI_valM (.bool false) rfl rfl (by k_ne) (fun _ => by simp [go_sem, *]) (fun _ => by go_simp; try (first | rfl | (simp only [k1, k2]; rfl) | (simp [*]))) ?_; walk_nrm
    refine O.step1 rfl (fun _ => stepG_unwanted rfl rfl) ?_; walk_nrm
    refine O.step1 rfl (fun _ => stepG_unwanted rfl rfl) ?_; walk_nrm
    refine O.step1 rfl (fun _ => stepG_unwanted rfl rfl) ?_; walk_nrm
    refine O.step1 rfl (fun _ => stepG_unwanted rfl rfl) ?_; walk_nrm
    refine goI_valM (.bool false) rfl rfl (by k_ne) (fun _ => by simp [go_sem, *]) (fun _ => by go_simp; try (first | rfl | (simp only [k1, k2]; rfl) | (simp [*]))) ?_; walk_nrm
    refine O.step1 rfl (fun _ => stepG_region_end) ?_
    refine O.step1 rfl (fun _ => stepG_cond (t := false) rfl) ?_; simp only [if_false, Bool.false_eq_true, ↓reduceIte]
    refine O.step1 rfl (fun _ => stepG_skip) ?_
    refine O.step1 rfl (fun _ => stepG_seq) ?_
    refine O.step1 rfl (fun _ => stepG_seq) ?_
    refine O.step1 rfl (fun _ => stepG_region) ?_; simp only [List.size_toArray, List.length_cons, List.length_nil, Nat.reduceAdd, Nat.zero_add, List.range, List.range.loop]
    refine goI_valM (.int .i32 V') rfl rfl (by k_ne) (fun _ => by simp [go_sem, *]) (fun _ => by go_simp; try (first | rfl | (simp only [k1, k2]; rfl) | (simp [*]))) ?_; walk_nrm
    refine goI_valM (.bool true) rfl rfl (by k_ne) (fun _ => by simp [go_sem, *]) (fun _ => by go_simp; try (first | rfl | (simp only [k1, k2]; rfl) | (simp [*]))) ?_; walk_nrm
    refine goI_valM (.bool true) rfl rfl (by k_ne) (fun _ => by simp [go_sem, *]) (fun _ => by go_simp; try (first | rfl | (simp only [k1, k2]; rfl) | (simp [*]))) ?_; walk_nrm
    refine O.step1 rfl (fun _ => stepG_unwanted rfl rfl) ?_; walk_nrm
    refine O.step1 rfl (fun _ => stepG_unwanted rfl rfl) ?_; walk_nrm
    refine goI_valM (.bool true) rfl rfl (by k_ne) (fun _ => by simp [go_sem, *]) (fun _ => by go_simp; try (first | rfl | (simp only [k1, k2]; rfl) | (simp [*]))) ?_; walk_nrm
    refine O.step1 rfl (fun _ => stepG_region_end) ?_
    refine O.step1 rfl (fun _ => stepG_cond (t := true) rfl) ?_; simp only [if_true, ↓reduceIte]
    refine O.step1 rfl (fun _ => stepG_ret') ?_
    exact hT _ _ _ rfl
end
end Go.Proofs.Ytdedmmjmiakidaa
