/- Plain words: a play, whole. No condition. -/
import Derived.Test.YtmcffabfghhpaaaFwAI
import Derived.Test.YtmcffabfghhpaaaFwAB
import Derived.Test.YtmcffabfghhpaaaFwAF
import Derived.Laws.BitsAllLaws
import Derived.BigQuiet
import Derived.Deep.QuietTactic
import Derived.Deep.RegionWith
import Derived.Outline
set_option linter.unusedVariables false
set_option linter.unusedSimpArgs false
/- Plain words: a play, whole. No condition. -/
namespace Go.Proofs.Ytmcffabfghhpaaa
open Go.Conc Go.RowKit
open Go.ConcR (KK wgBlock WgAt stA smA rd wr mk)
section
variable {Y : Core} {W : Machine → Trace → Prop}
set_option maxRecDepth 100000 in
set_option maxHeartbeats 4000000 in
/-- ████ A PLAY. ████ -/
theorem play_c (hW : Back Try.prog W) {x : LX} (hx : x.wg = none) (hn0 : 0 < x.n) (hn : x.n < 60000) {vo vth : Value} {order : List Int} {ths : List (Thr Y)} {a : Y.St} {w : World} {o₀ : Own}
    (hos : w.os = o₀.os ∧ w.output = o₀.out) (ho : ∀ b ob, o₀ b = some ob → w.heap[b]? = some ob ∧ (b < Y.base ∨ ∀ cap buf cl x r t, ob ≠ .chan cap buf cl x r t)) (hbase : Y.base ≤ w.heap.size)
    (hord : ∀ w, Keeps o₀ w → w.ownsRow 0 3 1 vo order.length (order.map (Value.int .i64))) (hobo : ∀ b, vo.ownBlock = some b → o₀ b ≠ none) (hol : order.length ≤ 16384) (hov : ∀ k ∈ order, k < 9223372036854775808)
    (hth : ∀ w, Keeps o₀ w → w.ownsRow 0 tFn 1 vth ths.length (ths.map Thr.val)) (hobt : ∀ b, vth.ownBlock = some b → o₀ b ≠ none) (h0 : ths.length ≠ 0) (h16 : ths.length ≤ 16) (hrun : ∀ d ∈ ths, ThrC Y d.f d.caps d.start)
    (hrep : Y.Rep a w) (hfoot : ∀ b, Y.foot a b → o₀ b = none) (hall : ∀ p ∈ (playF (ths.map (·.start)) order a).ps, p = none) {Qc : LX → Value → World → Prop}
    (hq : ∀ Wg B0 vt w', w.heap.size ≤ Wg → w.heap.size ≤ B0 → w.heap.size ≤ w'.heap.size → Played Y Wg B0 o₀ (playF (ths.map (·.start)) order a).a (playF (ths.map (·.start)) order a).tr vt w' → Qc ⟨some Wg, x.n + ths.length⟩ (.tuple #[.agg #[vt, .slice none 0 0], .int .i64 0]) w') :
    cpsC (envL W) 31 #[vo, vth] Qc x w := by
  have O := envL_ok (W := W)
  have G := envL_good (W := W)
  have hkw : Keeps o₀ w := fun b ob hob => (ho b ob hob).1
  obtain ⟨ao, co, hvo⟩ := own_form0 (hord w hkw)
  have hfl : ∀ b, Y.foot a b → b < w.heap.size := fun b hb => by
    obtain ⟨ob, h, _⟩ := Y.real a w b hrep hb
    exact (Array.getElem?_eq_some_iff.1 h).1
  have hol' : ∀ b ob, o₀ b = some ob → b < w.heap.size := fun b ob hob => (Array.getElem?_eq_some_iff.1 (ho b ob hob).1).1
  -- the worlds
  obtain ⟨r1, r2, r3⟩ := alloc_at w (.cells #[.slice none 0 0, .slice none 0 0] tTrace (0, 0))
  obtain ⟨w1, hw1⟩ : ∃ w1, w1 = w.alloc (.cells #[.slice none 0 0, .slice none 0 0] tTrace (0, 0)) := ⟨_, rfl⟩
  rw [← hw1] at r1 r2 r3
  obtain ⟨g1, g2, g3⟩ := alloc_at w1 (wgBlock tWg 0 0)
  obtain ⟨w2, hw2⟩ : ∃ w2, w2 = w1.alloc (wgBlock tWg 0 0) := ⟨_, rfl⟩
  rw [← hw2] at g1 g2 g3
  obtain ⟨b1, b2, b3⟩ := alloc_at w2 (.cells #[.slice none 0 0, .slice none 0 0, .slice none 0 0] tPlay (0, 0))
  obtain ⟨w3, hw3⟩ : ∃ w3, w3 = w2.alloc (.cells #[.slice none 0 0, .slice none 0 0, .slice none 0 0] tPlay (0, 0)) := ⟨_, rfl⟩
  rw [← hw3] at b1 b2 b3
  have hsame : ∀ b, b < w.heap.size → w3.heap[b]? = w.heap[b]? := fun b hb => by rw [b1 b (by omega), g1 b (by omega), r1 b hb]
  have hk1 : Keeps o₀ w1 := fun b ob hob => by rw [r1 b (hol' b ob hob)]; exact hkw b ob hob
  have hrw : w3.heap[w.heap.size]? = some (.cells #[.slice none 0 0, .slice none 0 0] tTrace (0, 0)) := by rw [b1 _ (by omega), g1 _ (by omega)]; exact r3
  have hgw : w3.heap[w1.heap.size]? = some (wgBlock tWg 0 0) := by rw [b1 _ (by omega)]; exact g3
  obtain ⟨o₁, ho₁⟩ : ∃ o₁ : Own, o₁ = ⟨fun b => if b = w.heap.size then some (.cells #[.slice none 0 0, .slice none 0 0] tTrace (0, 0)) else o₀ b, o₀.os, o₀.out⟩ := ⟨_, rfl⟩
  have h1s : o₁.os = o₀.os ∧ o₁.out = o₀.out := by rw [ho₁]; exact ⟨rfl, rfl⟩
  have h01 : ∀ b ob, o₀ b = some ob → o₁ b = some ob := fun b ob hob => by
    have := hol' b ob hob
    rw [ho₁]
    show (if b = w.heap.size then _ else _) = _
    rw [if_neg (by omega)]; exact hob
  have h1r : o₁ w.heap.size = some (.cells #[.slice none 0 0, .slice none 0 0] tTrace (0, 0)) := by rw [ho₁]; exact if_pos rfl
  have h0r : o₀ w.heap.size = none := by
    cases e : o₀ w.heap.size with
    | none => rfl
    | some ob => have := hol' _ ob e; omega
  have hk01 : ∀ v, Keeps o₁ v → Keeps o₀ v := fun v hv b ob hob => hv b ob (h01 b ob hob)
  have hne : ∀ b, o₀ b ≠ none → o₁ b ≠ none := fun b hb => by
    obtain ⟨ob, hob⟩ := Option.ne_none_iff_exists'.1 hb
    rw [h01 b ob hob]; simp
  have hLP : LP w1.heap.size w2.heap.size w2.heap.size x.n o₁ (MI.empty Y.spec x.n) ⟨a, [], []⟩ (.slice none 0 0) (.slice none 0 0) w3 := by
    refine LP.begin hn0 ⟨0, 0, hgw⟩ b3 (by omega) (fun b ob hob => ?_) (by omega) ⟨by rw [h1s.1, ← hos.1, hw3, hw2, hw1]; rfl, by rw [h1s.2, ← hos.2, hw3, hw2, hw1]; rfl⟩ (Y.frame a w w3 (fun b hb => hsame b (hfl b hb)) hrep) fun b hb => ?_
    · by_cases e : b = w.heap.size
      · subst e
        rw [h1r] at hob
        obtain rfl := Option.some.inj hob
        exact ⟨hrw, by omega, by omega, .inr fun _ _ _ _ _ _ e => by cases e⟩
      · have hob' : o₀ b = some ob := by
          rw [ho₁] at hob
          have hob : (if b = w.heap.size then _ else o₀ b) = some ob := hob
          rw [if_neg e] at hob; exact hob
        have hl := hol' b ob hob'
        exact ⟨by rw [hsame b hl]; exact (ho b ob hob').1, by omega, by omega, (ho b ob hob').2⟩
    · have hl := hfl b hb
      refine ⟨?_, by omega, by omega⟩
      rw [ho₁]
      show (if b = w.heap.size then _ else _) = _
      rw [if_neg (by omega)]; exact hfoot b hb
  have hfn : FnRow (LX.bad x) vth (ths.map Thr.val) w1 := by
    refine ⟨?_, fun b _ hb => ?_, fun v hv => ?_⟩
    · rw [List.length_map]; exact hth w1 hk1
    · unfold LX.bad at hb; rw [hx] at hb; cases hb
    · obtain ⟨d, _, rfl⟩ := List.mem_map.1 hv
      exact ⟨d.f, d.caps, rfl⟩
  have HO := Lib.hid (And.intro (fun v hv => hord v (hk01 v hv)) (And.intro (fun b hb => hne b (hobo b hb)) hov) : (∀ v, Keeps o₁ v → v.ownsRow 0 3 1 vo order.length (order.map (Value.int .i64))) ∧ (∀ b, vo.ownBlock = some b → o₁ b ≠ none) ∧ _)
  have HT := Lib.hid (And.intro (fun v hv => hth v (hk01 v hv)) (And.intro (fun b hb => hne b (hobt b hb)) (And.intro hrun hall)) : (∀ v, Keeps o₁ v → v.ownsRow 0 tFn 1 vth ths.length (ths.map Thr.val)) ∧ (∀ b, vth.ownBlock = some b → o₁ b ≠ none) ∧ _)
  have Hq := Lib.hid hq
  have q1 : decide (16384 < order.length) = false := decide_eq_false (by omega)
  have q2 : decide ((16384 : Int) < order.length) = false := decide_eq_false (by omega)
  have hlen : (ths.map Thr.val).length = ths.length := List.length_map ..
  have Hlp := Lib.hid hLP
  have Hw1 := Lib.hid hw1
  have Hw2 := Lib.hid hw2
  have Hw3 := Lib.hid hw3
  have Hfn := Lib.hid hfn
  have Hlen := Lib.hid hlen
  have H01 := Lib.hid h01
  have H1r := Lib.hid h1r
  have H1s' := Lib.hid h1s
  have H0r := Lib.hid h0r
  have H3s : Hid (w.heap.size ≤ w3.heap.size) := Lib.hid (by omega)
  have H1s : Hid (w.heap.size ≤ w1.heap.size ∧ w.heap.size ≤ w2.heap.size) := Lib.hid (by omega)
  have H3 := Lib.hid (show ∃ st sm, WgAt tWg w1.heap.size w2 st sm from ⟨0, 0, g3⟩)
  clear hq hLP hw1 hw2 hw3 hfn hlen h01 h1r h0r r1 r2 r3 g1 g2 g3 b1 b2 b3 hsame hk1 hrw hgw ho₁ hk01 hne hfl hol' hkw hall hrep hfoot hth hobt hord hobo hov ho hrun
  subst hvo
  refine cpsC_body O Try.func31 body_play ?_
  simp only [Try.ntmps31]
  walk_nrm
  refine cps_seq O ?_
  refine cps_opaque fun Q1 hQ1 => ?_
  simp only [p0, Try.f31, Option.getD_some]
  (refine cps_region O ?_; simp only [List.size_toArray, List.length_cons, List.length_nil, Nat.reduceAdd, Nat.zero_add, List.range, List.range.loop])
  refine allocL (v := .pointer (some ⟨w.heap.size, 0, none⟩)) (ob := .cells #[.slice none 0 0, .slice none 0 0] tTrace (0, 0)) rfl rfl (fun _ => by simp [go_sem]) (fun w₁ hs => by go_simp; try (simp [hs])) ?_
  rw [← Hw1.out]
  try walk_nrm
  refine valG G (.int .i64 0) rfl rfl (fun _ => by simp [go_sem]) (fun _ => by go_simp; try (first | rfl | (simp [*]))) ?_; try walk_nrm
  refine cpsR_nil O ?_
  refine hQ1 _ _ _ _ ?_
  clear hQ1
  show cps _ _ _ _ _ _
  refine cps_seq O ?_
  refine cps_opaque fun Q1 hQ1 => ?_
  simp only [p1, Try.f31, Option.getD_some]
  refine cps_seq O ?_
  (refine cps_region O ?_; simp only [List.size_toArray, List.length_cons, List.length_nil, Nat.reduceAdd, Nat.zero_add, List.range, List.range.loop])
  refine valG G (vth) rfl rfl (fun _ => by simp [go_sem]) (fun _ => by go_simp; try (first | rfl | (simp [*]))) ?_; try walk_nrm
  refine callS G (f := 49) (vals := #[vth]) rfl rfl rfl Try.func49 rfl rfl rfl (wrong_c G Hfn.out (by rw [Hlen.out]; exact h16) (by rw [Hlen.out]; exact h0) ?_)
  try walk_nrm
  refine valG G (.int .i64 0) rfl rfl (fun _ => by simp [go_sem]) (fun _ => by go_simp; try (first | rfl | (simp [*]))) ?_; try walk_nrm
  refine cpsR_nil O ?_
  show cps _ _ _ _ _ _
  refine cps_seq O ?_
  (refine cps_region O ?_; simp only [List.size_toArray, List.length_cons, List.length_nil, Nat.reduceAdd, Nat.zero_add, List.range, List.range.loop])
  refine valG G (.int .i64 0) rfl rfl (fun _ => by simp [go_sem]) (fun _ => by go_simp; try (first | rfl | (simp [*]))) ?_; try walk_nrm
  refine valG G (.bool false) rfl rfl (fun _ => by simp [go_sem]) (fun _ => by go_simp; try (first | rfl | (simp [*]))) ?_; try walk_nrm
  refine cpsR_nil O ?_
  show cps _ _ _ _ _ _
  refine cps_cond O (v := false) rfl ?_
  simp only [Bool.false_eq_true, if_false]
  refine cps_skip O ?_
  refine hQ1 _ _ _ _ ?_
  clear hQ1
  show cps _ _ _ _ _ _
  refine cps_seq O ?_
  refine cps_opaque fun Q1 hQ1 => ?_
  simp only [p2, Try.f31, Option.getD_some]
  refine cps_seq O ?_
  (refine cps_region O ?_; simp only [List.size_toArray, List.length_cons, List.length_nil, Nat.reduceAdd, Nat.zero_add, List.range, List.range.loop])
  refine valG G (.slice ao order.length co) rfl rfl (fun _ => by simp [go_sem]) (fun _ => by go_simp; try (first | rfl | (simp [*]))) ?_; try walk_nrm
  refine valG G (.int .i64 order.length) rfl rfl (fun _ => by simp [go_sem]) (fun _ => by go_simp; try (first | rfl | (simp [*]))) ?_; try walk_nrm
  refine valG G (.bool false) rfl rfl (fun _ => by simp [go_sem]) (fun _ => by go_simp; try (first | rfl | (simp [*]))) ?_; try walk_nrm
  refine cpsR_nil O ?_
  show cps _ _ _ _ _ _
  refine cps_cond O (v := false) rfl ?_
  simp only [Bool.false_eq_true, if_false]
  refine cps_skip O ?_
  refine hQ1 _ _ _ _ ?_
  clear hQ1
  show cps _ _ _ _ _ _
  intro b k cs hf hk
  have hke : b.kind ≠ .early := by simpa using hf.kind
  refine O.step1 rfl (fun _ => stepG_seq) ?_
  simp only [p6, Try.f31, Option.getD_some]
  refine O.step1 rfl (fun _ => stepG_region) ?_
  simp only [List.size_toArray, List.length_cons, List.length_nil, Nat.reduceAdd, Nat.zero_add, List.range, List.range.loop]
  refine intoM hW hx hn0 (X := Y.spec) (v := .pointer (some ⟨w1.heap.size, 0, none⟩)) (ob := wgBlock tWg 0 0) rfl rfl hke (fun _ => by simp [go_sem]) (fun w₁ hs => by unfold wgBlock; go_simp; try (simp [hs])) (fun w₁ hs => by unfold WgAt; rw [← hs]; exact (alloc_at w₁ _).2.2) ?_
  rw [← Hw2.out]
  try walk_nrm
  have OM := envM_ok (W := W) (X := Y.spec) (Wg := w1.heap.size)
  have hfM : (envM W Y.spec w1.heap.size).Fr b cs := ⟨hf.kind, hf.fn, trivial⟩
  refine OM.step1 rfl (fun _ => stepG_region_end) ?_
  refine goSeq OM hfM fun Q1 hQ1 => ?_
  simp only [p7, Try.f31, Option.getD_some]
  refine cps_region OM ?_
  simp only [List.size_toArray, List.length_cons, List.length_nil, Nat.reduceAdd, Nat.zero_add, List.range, List.range.loop]
  refine allocR (ob := .cells #[.slice none 0 0, .slice none 0 0, .slice none 0 0] tPlay (0, 0)) Hlp.out.ok ⟨fun s hs => absurd hs (no_seat s), H3.out, fun c ⟨s, hs, _⟩ => absurd hs (no_seat s), fun s x y z hm => (by cases hm)⟩ (.pointer (some ⟨w2.heap.size, 0, none⟩)) rfl rfl (fun _ => by simp [go_sem]) (fun w₁ hs => by go_simp; try (simp [hs])) ?_
  rw [← Hw3.out]
  try walk_nrm
  refine cpsR_nil OM ?_
  refine hQ1 _ _ _ ?_
  clear hQ1
  refine play_mid hW Hlp.out hn HO.out.1 HO.out.2.1 (by omega) HO.out.2.2 HT.out.1 HT.out.2.1 h16 HT.out.2.2.1 HT.out.2.2.2 hf ?_
  intro w' vs vt svs
  intros
  rename_i hPE
  refine play_tail hPE H01.out H1s'.out H1r.out H0r.out (fun w'' hpl hs => ?_) b k cs hf fun n' _ => hk n' trivial
  refine Hq.out _ _ _ _ H1s.out.1 H1s.out.2 ?_ hpl
  exact Nat.le_trans (Nat.le_of_lt (Array.getElem?_eq_some_iff.1 (hPE.old _ _ H1r.out)).1) hs
end
end Go.Proofs.Ytmcffabfghhpaaa
/- Plain words: a call that stops at a gate, told apart from memory; the companies in which it may be made. No condition. -/
namespace Go.Proofs.Ytmcffabfghhpaaa
open Go.Conc Go.RowKit
/-- A library's calls: where they may wait at the gate, what they say there, what comes of a turn: the next such place, or an answer. -/
structure Job where
  St : Type
  Pos : Type
  Res : Type
  mark : Pos → Int × Int
  exec : Pos → St → St × (Pos ⊕ Res)
  foot : St → Nat → Prop
  Rep : St → World → Prop
  frame : ∀ a u u', (∀ b, foot a b → u'.heap[b]? = u.heap[b]?) → Rep a u → Rep a u'
  real : ∀ a u b, Rep a u → foot a b → ∃ o, u.heap[b]? = some o ∧ (∀ cap buf cl x r t, o ≠ .chan cap buf cl x r t) ∧ ∀ T, o ≠ .cells #[] T (0, 0)
/-- Threads that make such calls: what they keep beside, and what they do behind an answer. -/
structure Client (J : Job) where
  B : Type
  C : Type
  base : Nat
  fin : C → J.Res → J.St × B → (J.St × B) × Option (J.Pos × C)
  footB : B → Nat → Prop
  RepB : B → World → Prop
  frameB : ∀ a u u', (∀ b, footB a b → u'.heap[b]? = u.heap[b]?) → RepB a u → RepB a u'
  realB : ∀ a u b, RepB a u → footB a b → ∃ o, u.heap[b]? = some o ∧ (∀ cap buf cl x r t, o ≠ .chan cap buf cl x r t) ∧ ∀ T, o ≠ .cells #[] T (0, 0)
variable {J : Job}
def Client.after (K : Client J) (c : K.C) (d : J.St × (J.Pos ⊕ J.Res)) (b : K.B) : (J.St × K.B) × Option (J.Pos × K.C) := match d with
  | (a, .inl p) => ((a, b), some (p, c))
  | (a, .inr r) => K.fin c r (a, b)
/-- .. as a play's threads. -/
def Client.core (K : Client J) : Core where
  St := J.St × K.B
  Pc := J.Pos × K.C
  mark := fun p => J.mark p.1
  next := fun p σ => K.after p.2 (J.exec p.1 σ.1) σ.2
  base := K.base
  foot := fun σ b => J.foot σ.1 b ∨ K.footB σ.2 b
  Rep := fun σ u => J.Rep σ.1 u ∧ K.RepB σ.2 u ∧ ∀ b, J.foot σ.1 b → ¬ K.footB σ.2 b
  frame := fun σ u u' h hr => ⟨J.frame _ u u' (fun b hb => h b (.inl hb)) hr.1, K.frameB _ u u' (fun b hb => h b (.inr hb)) hr.2.1, hr.2.2⟩
  real := fun σ u b hr hb => hb.elim (J.real _ u b hr.1) (K.realB _ u b hr.2.1)
/-- A company in which such a call may be made: the gate that it is handed; how one stands: turns left, the state in memory, what is due. -/
structure Gated (J : Job) where
  E : Env
  ok : E.Ok
  P : E.P = Try.prog
  gate : Value
  At : E.ι → Nat → J.St → J.St × (J.Pos ⊕ J.Res) → World → Prop
  rely : ∀ n k a d w w', At n k a d w → E.R w w' → At n k a d w'
  rep : ∀ n k a d w, At n k a d w → ∃ u, J.Rep a u
  alone : ∀ {n : E.ι} {k : Nat} {a : J.St} {d : J.St × (J.Pos ⊕ J.Res)} {w : World} {c : Code} {t : Array Value} {Q : E.ι → Exit → Array Value → World → Prop}, At n k a d w → okCode thrOk false c = true →
    (∀ u, J.Rep a u → c.wp Try.prog (fun e a' u' => e = .normal ∧ a'.defers = [] ∧ ∃ σ', J.Rep σ' u' ∧ (∀ b, J.foot σ' b ↔ J.foot a b) ∧ Sm (J.foot a) u u' ∧ ∀ w', At n k σ' d w' → Q n .normal a'.tmps w') ⟨t, []⟩ u) → cps E c Q n t w
  step : ∀ {n : E.ι} {k : Nat} {a : J.St} {p : J.Pos} {w : World}, At n k a (a, .inl p) w → cpsC E 45 #[gate, .int .u8 (J.mark p).1, .int .i64 (J.mark p).2] (fun n' v w' => v = .tuple #[] ∧ ∃ k' a', k' < k ∧ At n' k' a' (J.exec p a') w') n w
section
variable {K : Client J} {Wg : Nat} {s : SV}
/-- How a thread stands. -/
def AtT (K : Client J) (Wg : Nat) (s : SV) (c : K.C) (n : Nat × (K.core.spec.St × Option K.core.spec.Pc) × Tab) (k : Nat) (a : J.St) (d : J.St × (J.Pos ⊕ J.Res)) (w : World) : Prop :=
  n.1 = k ∧ s ∈ n.2.2 ∧ Off Wg n.2.2 ∧ ShOk (WgL Wg) Wg n.2.2 ∧ Wd Wg n.2.2 w ∧ ∃ (b : K.B) (o : Own), RepT K.core.spec Wg n.2.2 ((a, b), o) w ∧ n.2.1 = (((K.after c d b).1, o), (K.after c d b).2)
theorem atT_alone {c : K.C} {n : Nat × (K.core.spec.St × Option K.core.spec.Pc) × Tab} {k : Nat} {a : J.St} {d : J.St × (J.Pos ⊕ J.Res)} {w : World} {x : Code} {t : Array Value} {Q : Nat × (K.core.spec.St × Option K.core.spec.Pc) × Tab → Exit → Array Value → World → Prop} (h : AtT K Wg s c n k a d w) (hc : okCode thrOk false x = true)
    (hwp : ∀ u, J.Rep a u → x.wp Try.prog (fun e a' u' => e = .normal ∧ a'.defers = [] ∧ ∃ σ', J.Rep σ' u' ∧ (∀ b, J.foot σ' b ↔ J.foot a b) ∧ Sm (J.foot a) u u' ∧ ∀ w', AtT K Wg s c n k σ' d w' → Q n .normal a'.tmps w') ⟨t, []⟩ u) : cps (envT K.core.spec Wg (WgL Wg) s) x Q n t w := by
  obtain ⟨n1, E, θ⟩ := n
  obtain ⟨h1, h2, h3, h4, h5, b, o, h6, h7⟩ := h
  refine aloneT h3 h4 h5 hc fun u hu => ?_
  obtain ⟨hY, ho⟩ := h6 u hu
  have hY : J.Rep a u ∧ K.RepB b u ∧ ∀ x, J.foot a x → ¬ K.footB b x := hY
  refine wp_mono (hwp u hY.1) fun e a' u' q => ⟨q.1, q.2.1, fun w' hps hwd _ => ?_⟩
  obtain ⟨_, _, σ', hr, hf, hs, hq⟩ := q
  refine hq w' ⟨h1, h2, h3, h4, hwd, b, o, RepT.intro hps ⟨⟨hr, K.frameB b u u' (fun x hx => ?_) hY.2.1, fun x hx => hY.2.2 x ((hf x).1 hx)⟩, fun x ob hob => ?_, hs.os.trans ho.os, hs.output.trans ho.out⟩, h7⟩
  · obtain ⟨ob, h, _⟩ := K.realB b u x hY.2.1 hx
    exact hs.block x (Array.getElem?_eq_some_iff.1 h).1 fun hj => hY.2.2 x hj hx
  · obtain ⟨q1, q2, q3⟩ := ho.on x ob hob
    have q2 : ¬ (J.foot a x ∨ K.footB b x) := q2
    refine ⟨?_, fun hx => q2 (hx.imp (hf x).1 id), q3⟩
    rw [hs.block x (Array.getElem?_eq_some_iff.1 q1).1 fun hj => q2 (.inl hj)]
    exact q1
theorem atT_step {c : K.C} {n : Nat × (K.core.spec.St × Option K.core.spec.Pc) × Tab} {k : Nat} {a : J.St} {p : J.Pos} {w : World} (h : AtT K Wg s c n k a (a, .inl p) w) :
    cpsC (envT K.core.spec Wg (WgL Wg) s) 45 #[seatGate s, .int .u8 (J.mark p).1, .int .i64 (J.mark p).2] (fun n' v w' => v = .tuple #[] ∧ ∃ k' a', k' < k ∧ AtT K Wg s c n' k' a' (J.exec p a') w') n w := by
  obtain ⟨n1, E, θ⟩ := n
  obtain ⟨h1, h2, h3, h4, h5, b, o, h6, h7⟩ := h
  have h7 : E = (((a, b), o), some (p, c)) := h7
  subst h7
  have := gate_seat (X := K.core.spec) (n := n1) (E := (((a, b), o), some (p, c))) (pc := (p, c)) h2 h3 h4 (m := J.mark p) rfl rfl h5 h6
  refine fun fr cs hcs hk => this fr cs hcs fun n' hn v w' q => hk n' hn v w' ?_
  obtain ⟨rfl, n2, σ, θ', hnn, rfl, q1, q2, q3, q4, q5⟩ := q
  obtain ⟨⟨a', b'⟩, o'⟩ := σ
  refine ⟨rfl, n2, a', ?_, rfl, q1, q2, q3, q4, b', o', q5, rfl⟩
  rw [← h1]; show n2 < n1; omega
/-- A thread with its seat for a gate. -/
noncomputable def gatedT (K : Client J) (Wg : Nat) (s : SV) (c : K.C) : Gated J where
  E := envT K.core.spec Wg (WgL Wg) s
  ok := envT_ok _ _ _ _
  P := rfl
  gate := seatGate s
  At := AtT K Wg s c
  rely := fun n k a d w w' h hR => by
    obtain ⟨h1, h2, h3, h4, h5, b, o, h6, h7⟩ := h
    exact ⟨h1, h2, h3, h4, h5.rwg h3 hR, b, o, h6.rwg h3 h5 hR, h7⟩
  rep := fun n k a d w h => by
    obtain ⟨h1, h2, h3, h4, h5, b, o, h6, h7⟩ := h
    have hu := spoil_ps (P := Try.prog) no_steps (real_of h3 h5.kt h5.wg)
    exact ⟨_, (h6 _ hu).1.1⟩
  alone := atT_alone
  step := atT_step
end
end Go.Proofs.Ytmcffabfghhpaaa
/- Plain words: the program's functions that goroutine 0 calls beside a play. No condition. -/
namespace Go.Proofs.Ytmcffabfghhpaaa
open Go.Conc
/-- The functions that goroutine 0 calls beside a play. -/
noncomputable def mainS (f : FuncId) : Bool := [69, 67, 46, 43, 15, 56, 48, 42, 68, 12, 35, 37, 65, 36, 22, 11, 16, 55, 21, 24, 26, 27, 28, 25, 34, 57, 58, 59, 88, 89, 30, 32, 33, 60, 61, 62, 90, 91, 92, 93, 94, 101, 102, 119, 70, 66, 97].contains f
noncomputable abbrev mainOk : Op → Bool := okOp Try.prog mainS true
theorem main_calls (σ : Poison) (f : FuncId) (hf : mainS f = true) : MayCall Try.prog σ mainS f := by
  simp only [mainS, List.contains_iff_mem, List.mem_cons, List.not_mem_nil, or_false] at hf
  rcases hf with rfl | rfl | rfl | rfl | rfl | rfl | rfl | rfl | rfl | rfl | rfl | rfl | rfl | rfl | rfl | rfl | rfl | rfl | rfl | rfl | rfl | rfl | rfl | rfl | rfl | rfl | rfl | rfl | rfl | rfl | rfl | rfl | rfl | rfl | rfl | rfl | rfl | rfl | rfl | rfl | rfl | rfl | rfl | rfl | rfl | rfl | rfl
  · exact mayCall_body Try.func69 (by kernel_rfl) (by kernel_rfl) (by kernel_rfl)
  · exact mayCall_body Try.func67 (by kernel_rfl) (by kernel_rfl) (by kernel_rfl)
  · exact mayCall_body Try.func46 (by kernel_rfl) (by kernel_rfl) (by kernel_rfl)
  · exact mayCall_body Try.func43 (by kernel_rfl) (by kernel_rfl) (by kernel_rfl)
  · exact mayCall_body Try.func15 (by kernel_rfl) (by kernel_rfl) (by kernel_rfl)
  · exact mayCall_body Try.func56 (by kernel_rfl) (by kernel_rfl) (by kernel_rfl)
  · exact mayCall_body Try.func48 (by kernel_rfl) (by kernel_rfl) (by kernel_rfl)
  · exact mayCall_body Try.func42 (by kernel_rfl) (by kernel_rfl) (by kernel_rfl)
  · exact mayCall_body Try.func68 (by kernel_rfl) (by kernel_rfl) (by kernel_rfl)
  · exact mayCall_body Try.func12 (by kernel_rfl) (by kernel_rfl) (by kernel_rfl)
  · exact mayCall_body Try.func35 (by kernel_rfl) (by kernel_rfl) (by kernel_rfl)
  · exact mayCall_body Try.func37 (by kernel_rfl) (by kernel_rfl) (by kernel_rfl)
  · exact mayCall_body Try.func65 (by kernel_rfl) (by kernel_rfl) (by kernel_rfl)
  · exact mayCall_body Try.func36 (by kernel_rfl) (by kernel_rfl) (by kernel_rfl)
  · exact mayCall_body Try.func22 (by kernel_rfl) (by kernel_rfl) (by kernel_rfl)
  · exact mayCall_body Try.func11 (by kernel_rfl) (by kernel_rfl) (by kernel_rfl)
  · exact mayCall_body Try.func16 (by kernel_rfl) (by kernel_rfl) (by kernel_rfl)
  · exact mayCall_body Try.func55 (by kernel_rfl) (by kernel_rfl) (by kernel_rfl)
  · exact mayCall_body Try.func21 (by kernel_rfl) (by kernel_rfl) (by kernel_rfl)
  · exact mayCall_body Try.func24 (by kernel_rfl) (by kernel_rfl) (by kernel_rfl)
  · exact mayCall_body Try.func26 (by kernel_rfl) (by kernel_rfl) (by kernel_rfl)
  · exact mayCall_body Try.func27 (by kernel_rfl) (by kernel_rfl) (by kernel_rfl)
  · exact mayCall_body Try.func28 (by kernel_rfl) (by kernel_rfl) (by kernel_rfl)
  · exact mayCall_body Try.func25 (by kernel_rfl) (by kernel_rfl) (by kernel_rfl)
  · exact mayCall_body Try.func34 (by kernel_rfl) (by kernel_rfl) (by kernel_rfl)
  · exact mayCall_body Try.func57 (by kernel_rfl) (by kernel_rfl) (by kernel_rfl)
  · exact mayCall_body Try.func58 (by kernel_rfl) (by kernel_rfl) (by kernel_rfl)
  · exact mayCall_body Try.func59 (by kernel_rfl) (by kernel_rfl) (by kernel_rfl)
  · exact mayCall_body Try.func88 (by kernel_rfl) (by kernel_rfl) (by kernel_rfl)
  · exact mayCall_body Try.func89 (by kernel_rfl) (by kernel_rfl) (by kernel_rfl)
  · exact mayCall_body Try.func30 (by kernel_rfl) (by kernel_rfl) (by kernel_rfl)
  · exact mayCall_body Try.func32 (by kernel_rfl) (by kernel_rfl) (by kernel_rfl)
  · exact mayCall_body Try.func33 (by kernel_rfl) (by kernel_rfl) (by kernel_rfl)
  · exact mayCall_body Try.func60 (by kernel_rfl) (by kernel_rfl) (by kernel_rfl)
  · exact mayCall_body Try.func61 (by kernel_rfl) (by kernel_rfl) (by kernel_rfl)
  · exact mayCall_body Try.func62 (by kernel_rfl) (by kernel_rfl) (by kernel_rfl)
  · exact mayCall_body Try.func90 (by kernel_rfl) (by kernel_rfl) (by kernel_rfl)
  · exact mayCall_body Try.func91 (by kernel_rfl) (by kernel_rfl) (by kernel_rfl)
  · exact mayCall_body Try.func92 (by kernel_rfl) (by kernel_rfl) (by kernel_rfl)
  · exact mayCall_body Try.func93 (by kernel_rfl) (by kernel_rfl) (by kernel_rfl)
  · exact mayCall_body Try.func94 (by kernel_rfl) (by kernel_rfl) (by kernel_rfl)
  · exact mayCall_body Try.func101 (by kernel_rfl) (by kernel_rfl) (by kernel_rfl)
  · exact mayCall_body Try.func102 (by kernel_rfl) (by kernel_rfl) (by kernel_rfl)
  · exact mayCall_body Try.func119 (by kernel_rfl) (by kernel_rfl) (by kernel_rfl)
  · exact mayCall_extern Try.func70 (by kernel_rfl) (by kernel_rfl) (by kernel_rfl) (e := Extern.Atomic.loadT (.int .u64)) (by kernel_rfl) (mild_loadT _)
  · exact mayCall_extern Try.func66 (by kernel_rfl) (by kernel_rfl) (by kernel_rfl) (e := Extern.Atomic.storeT) (by kernel_rfl) (mild_storeT)
  · exact mayCall_extern Try.func97 (by kernel_rfl) (by kernel_rfl) (by kernel_rfl) (e := Extern.Atomic.casT (.int .u64)) (by kernel_rfl) (mild_casT _)
theorem main_bodies (f : FuncId) (hf : mainS f = true) : ∀ c, (Try.prog.funcs[f]?).bind (·.body) = some c → okCode mainOk true c = true := by
  simp only [mainS, List.contains_iff_mem, List.mem_cons, List.not_mem_nil, or_false] at hf
  have key : ∀ f : Nat, ((Try.prog.funcs[f]?).bind (·.body)).all (okCode mainOk true) = true → ∀ c, (Try.prog.funcs[f]?).bind (·.body) = some c → okCode mainOk true c = true := fun f h c hc => by
    rw [hc] at h; exact h
  rcases hf with rfl | rfl | rfl | rfl | rfl | rfl | rfl | rfl | rfl | rfl | rfl | rfl | rfl | rfl | rfl | rfl | rfl | rfl | rfl | rfl | rfl | rfl | rfl | rfl | rfl | rfl | rfl | rfl | rfl | rfl | rfl | rfl | rfl | rfl | rfl | rfl | rfl | rfl | rfl | rfl | rfl | rfl | rfl | rfl | rfl | rfl | rfl
  · exact key 69 (by kernel_rfl)
  · exact key 67 (by kernel_rfl)
  · exact key 46 (by kernel_rfl)
  · exact key 43 (by kernel_rfl)
  · exact key 15 (by kernel_rfl)
  · exact key 56 (by kernel_rfl)
  · exact key 48 (by kernel_rfl)
  · exact key 42 (by kernel_rfl)
  · exact key 68 (by kernel_rfl)
  · exact key 12 (by kernel_rfl)
  · exact key 35 (by kernel_rfl)
  · exact key 37 (by kernel_rfl)
  · exact key 65 (by kernel_rfl)
  · exact key 36 (by kernel_rfl)
  · exact key 22 (by kernel_rfl)
  · exact key 11 (by kernel_rfl)
  · exact key 16 (by kernel_rfl)
  · exact key 55 (by kernel_rfl)
  · exact key 21 (by kernel_rfl)
  · exact key 24 (by kernel_rfl)
  · exact key 26 (by kernel_rfl)
  · exact key 27 (by kernel_rfl)
  · exact key 28 (by kernel_rfl)
  · exact key 25 (by kernel_rfl)
  · exact key 34 (by kernel_rfl)
  · exact key 57 (by kernel_rfl)
  · exact key 58 (by kernel_rfl)
  · exact key 59 (by kernel_rfl)
  · exact key 88 (by kernel_rfl)
  · exact key 89 (by kernel_rfl)
  · exact key 30 (by kernel_rfl)
  · exact key 32 (by kernel_rfl)
  · exact key 33 (by kernel_rfl)
  · exact key 60 (by kernel_rfl)
  · exact key 61 (by kernel_rfl)
  · exact key 62 (by kernel_rfl)
  · exact key 90 (by kernel_rfl)
  · exact key 91 (by kernel_rfl)
  · exact key 92 (by kernel_rfl)
  · exact key 93 (by kernel_rfl)
  · exact key 94 (by kernel_rfl)
  · exact key 101 (by kernel_rfl)
  · exact key 102 (by kernel_rfl)
  · exact key 119 (by kernel_rfl)
  · exact key 70 (by kernel_rfl)
  · exact key 66 (by kernel_rfl)
  · exact key 97 (by kernel_rfl)
theorem main_fit (σ : Poison) (h : NoC σ) : Fit Try.prog σ mainOk mainS :=
  ⟨no_steps, ahead, fun ρ hρ o ho => tame_op (fun _ => h) (main_calls σ) ρ hρ o ho, fun ρ hρ o ho => tame_op (fun _ => ⟨fun _ h => h⟩) (main_calls none0) ρ hρ o ho, main_bodies⟩
end Go.Proofs.Ytmcffabfghhpaaa
/- Plain words: what goroutine 0 knows of memory beside a play; its words. No condition. -/
namespace Go.Proofs.Ytmcffabfghhpaaa
open Go.Conc Go.RowKit
/-- Said of the blocks alone. -/
class HO (M : World → Prop) : Prop where
  eq : ∀ u u' : World, u'.heap = u.heap → u'.os = u.os → u'.output = u.output → M u → M u'
instance ho_and {A B : World → Prop} [HO A] [HO B] : HO fun u => A u ∧ B u := ⟨fun u u' h h2 h3 q => ⟨HO.eq u u' h h2 h3 q.1, HO.eq u u' h h2 h3 q.2⟩⟩
instance ho_or {A B : World → Prop} [HO A] [HO B] : HO fun u => A u ∨ B u := ⟨fun u u' h h2 h3 q => q.imp (HO.eq u u' h h2 h3) (HO.eq u u' h h2 h3)⟩
instance ho_ex {α : Sort _} {A : α → World → Prop} [h : ∀ x, HO (A x)] : HO fun u => ∃ x, A x u := ⟨fun u u' e e2 e3 q => q.imp fun x hx => (h x).eq u u' e e2 e3 hx⟩
instance ho_all {α : Sort _} {A : α → World → Prop} [h : ∀ x, HO (A x)] : HO fun u => ∀ x, A x u := ⟨fun u u' e e2 e3 q x => (h x).eq u u' e e2 e3 (q x)⟩
instance ho_const {p : Prop} : HO fun _ => p := ⟨fun _ _ _ _ _ q => q⟩
instance ho_row {b : Nat} {c : Array Value} {t : TypeId} : HO fun u => Row u b c t := ⟨fun u u' h _ _ q => by unfold Row at *; rw [h]; exact q⟩
instance ho_heap {b : Nat} {o : Option Obj} : HO fun u => u.heap[b]? = o := ⟨fun u u' h _ _ q => by rw [h]; exact q⟩
instance ho_own {b : Nat} {e : TypeId} {s : Nat} {v : Value} {n : Nat} {xs : List Value} : HO fun u => u.ownsRow b e s v n xs := ⟨fun u u' h _ _ q => ownsRow_of q fun _ _ => by rw [h]⟩
instance ho_size {p : Nat → Prop} : HO fun u => p u.heap.size := ⟨fun u u' h _ _ q => by rw [h]; exact q⟩
instance ho_os {p : Os → Prop} : HO fun u => p u.os := ⟨fun u u' _ h _ q => by rw [h]; exact q⟩
instance ho_out {p : Array (Nat × ByteArray) → Prop} : HO fun u => p u.output := ⟨fun u u' _ _ h q => by rw [h]; exact q⟩
theorem heap_ps0 {P : Program} {σ : Poison} {w u u' : World} (h : Ps0 P σ w u) (h' : Ps0 P σ w u') : u'.heap = u.heap := by
  refine Array.ext_getElem? fun b => ?_
  by_cases hb : σ.F b
  · rw [h.bad b hb, h'.bad b hb]
  · rw [h.heap b hb, h'.heap b hb]
/-- What goroutine 0 knows. -/
structure Kn (x : LX) (M : World → Prop) (w : World) : Prop where
  real : x.Real w
  on : ∀ u, Ps0 Try.prog (sigL x) w u → M u
section
variable {W : Machine → Trace → Prop} {x : LX} {M M' : World → Prop} {w w₁ : World}
theorem LX.Real.get (h : x.Real w) : Ps0 Try.prog (sigL x) w (spoil (sigL x) w) := spoil_ps (P := Try.prog) no_steps h
theorem Kn.intro [HO M] {u : World} (hr : x.Real w) (hp : Ps0 Try.prog (sigL x) w u) (h : M u) : Kn x M w := ⟨hr, fun u' h' => HO.eq u u' (heap_ps0 hp h') (h'.os.trans hp.os.symm) (h'.output.trans hp.output.symm) h⟩
theorem Kn.mono (h : Kn x M w) (hm : ∀ u, M u → M' u) : Kn x M' w := ⟨h.real, fun u hu => hm u (h.on u hu)⟩
theorem Kn.get (h : Kn x M w) : ∃ u, Ps0 Try.prog (sigL x) w u ∧ M u := ⟨_, h.real.get, h.on _ h.real.get⟩
theorem Kn.size (h : Kn x M w) : Kn x (fun u => M u ∧ u.heap.size = w.heap.size) w := ⟨h.real, fun u hu => ⟨h.on u hu, hu.size⟩⟩
theorem Kn.at (h : Kn x M w) (hR : AtRel w w₁) : Kn x M w₁ := by
  obtain ⟨d, rfl⟩ := hR
  exact ⟨fun b hb => h.real b hb, fun u hu => h.on u ⟨hu.heap, hu.bad, hu.real, hu.size, hu.os, hu.output, fun j q hj => by omega, hu.pend⟩⟩
theorem ps_eq (hx : x.wg = none) {u : World} (h : Ps0 Try.prog (sigL x) w u) : u.heap = w.heap := Array.ext_getElem? fun b => h.heap b fun hb => by
  have hb : x.wg = some b := hb
  rw [hx] at hb; cases hb
theorem Kn.of_true [HO M] (hx : x.wg = none) (h : M w) : Kn x M w := by
  refine ⟨fun b hb => ?_, fun u hu => HO.eq w u (ps_eq hx hu) hu.os hu.output h⟩
  have hb : x.wg = some b := hb
  rw [hx] at hb; cases hb
theorem Kn.true [HO M] (hx : x.wg = none) (h : Kn x M w) : M w := by
  obtain ⟨u, hu, hm⟩ := h.get
  exact HO.eq u w (ps_eq hx hu).symm hu.os.symm hu.output.symm hm
theorem Kn.cell {ad : Addr} {v : Value} (h : Kn x M w) (hc : ∀ u, M u → u.cell? ad = some v) : w.cell? ad = some v ∧ ¬ x.bad ad.block := by
  obtain ⟨u, hu, hm⟩ := h.get
  have h1 := hc u hm
  have hb : ¬ x.bad ad.block := fun hb => by
    have := hu.bad ad.block hb
    unfold World.cell? at h1
    rw [this] at h1
    simp at h1
  refine ⟨?_, hb⟩
  unfold World.cell? at *
  rw [← hu.heap ad.block hb]
  exact h1
/-- Left on its way only. -/
def onlyK (K : Act → World → Prop) : Exit → Act → World → Prop
  | .normal, a, w => K a w
  | _, _, _ => False
theorem real_keep {u u' : World} {w' : World} (hr : x.Real w) (hp : Ps0 Try.prog (sigL x) w' u') : x.Real w' := fun b hb => hp.real b hb
/-- A piece by its walk alone. -/
theorem aloneK {M' : Array Value → World → Prop} [hM : ∀ t, HO (M' t)] {c : Code} {t : Array Value} {Q : LX → Exit → Array Value → World → Prop} (h : Kn x M w) (hc : okCode mainOk false c = true)
    (hwp : ∀ u, M u → c.wp Try.prog (onlyK fun a' u' => a'.defers = [] ∧ M' a'.tmps u') ⟨t, []⟩ u) (hk : ∀ t' w', Kn x (M' t') w' → w.heap.size ≤ w'.heap.size → Q x .normal t' w') : cps (envL W) c Q x t w :=
  cps_alone (E := envL W) (n := x) (K := fun w w' => w.heap.size ≤ w'.heap.size) envL_ok (main_fit (sigL x) inferInstance) suitsL h.real hc fun u hu => wp_mono (hwp u (h.on u hu)) fun e a' u' q => by
    cases e with
    | normal => exact ⟨rfl, q.1, fun w' h1 h2 => hk _ _ (Kn.intro (fun b hb => h1.real b hb) h1 q.2) h2⟩
    | _ => exact q.elim
section region
variable {ops : Array Oper} {i : Nat} {o : Oper} {l : List Nat} {t : Array Value} {Qr : LX → Array Value → World → Prop}
/-- An operation by its walk alone. -/
theorem opK [HO M'] (h : Kn x M w) (v : Value) (ho : ops[i]? = some o) (hok : mainOk o.op = true) (hw : Region.wanted o (yielded ops t) = true)
    (hrun : ∀ u, M u → u.heap.size = w.heap.size → ∃ u', ((execOp (⟨t, []⟩ : Act).eval o).run Try.prog u = .ok (.value v) u' ∨ (execOp (⟨t, []⟩ : Act).eval o).run Try.prog u = .ok .skip u' ∧ v = undef) ∧ M' u')
    (hk : ∀ w', Kn x M' w' → w.heap.size ≤ w'.heap.size → cpsR (envL W) ops l Qr x ((⟨t, []⟩ : Act).put o.dst v).tmps w') : cpsR (envL W) ops (i :: l) Qr x t w := by
  have F := main_fit (sigL x) inferInstance
  refine cpsR_op envL_ok ho hw fun w₁ hR => ?_
  have hR : AtRel w w₁ := hR
  have h1 := h.at hR
  have hp1 : Ps0 Try.prog (sigL x) w₁ (spoil (sigL x) w₁) := h1.real.get
  have hT := F.op (⟨t, []⟩ : Act).eval (fun _ => rfl) o hok
  let T : Nat → Question → Nat := fun k => w₁.tape (w₁.drawn + (k - (spoil (sigL x) w₁).drawn))
  have hp2 : Ps0 Try.prog (sigL x) w₁ (World.deal (spoil (sigL x) w₁) T) := hp1.dealt T
  have hs1 : w₁.heap.size = w.heap.size := by obtain ⟨d, rfl⟩ := hR; rfl
  obtain ⟨u', hr, hm⟩ := hrun _ (h1.on _ hp2) (hp2.size.trans hs1)
  have key : ∀ nx, (execOp (⟨t, []⟩ : Act).eval o).run Try.prog (World.deal (spoil (sigL x) w₁) T) = .ok nx u' → ∃ w' es', (execOp (⟨t, []⟩ : Act).eval o).runT Try.prog w₁ #[] = (.ok nx w', es') ∧ DL x.sh w₁ w' es' ∧ Kn x M' w' ∧ w.heap.size ≤ w'.heap.size := fun nx hr => by
    obtain ⟨w', es', h1, h2, h3, h4⟩ := hT.mild.sim u'.drawn w₁ _ nx u' #[] (hp1.deal u'.drawn) hr (Nat.le_refl _)
    refine ⟨w', es', by simpa using h1, suitsL.list _ _ _ _ _ h3 h4, Kn.intro (fun b hb => h2.off.real b hb) h2.off hm, ?_⟩
    rw [← hs1]; exact h3.size
  rcases hr with hr | ⟨hr, rfl⟩
  · obtain ⟨w', es', h1, h2, h3, h4⟩ := key _ hr
    exact ⟨v, w', es', .inl h1, h2, hk w' h3 h4⟩
  · obtain ⟨w', es', h1, h2, h3, h4⟩ := key _ hr
    exact ⟨undef, w', es', .inr ⟨h1, rfl⟩, h2, hk w' h3 h4⟩
end region
end
end Go.Proofs.Ytmcffabfghhpaaa
/- The leaves of package stack, walked alone: follower, nextWord, valueWord, none, step. -/
namespace Go.Proofs.Ytmcffabfghhpaaa
open Go.RowKit
set_option linter.unusedVariables false

/-- The top that follows t, with m. -/
def fol (t m : Nat) : Nat := (t / 4294967296 + 1) % 4294967296 * 4294967296 + m

theorem fol_lt (t m : Nat) (hm : m < 4294967296) : fol t m < 18446744073709551616 := by
  unfold fol
  have := Nat.mod_lt (t / 4294967296 + 1) (show 0 < 4294967296 by decide)
  omega
theorem fol_low (t m : Nat) (hm : m < 4294967296) : fol t m % 4294967296 = m := by unfold fol; omega

theorem fol_spec (t m : Nat) (ht : t < 18446744073709551616) (hm : m < 4294967296) :
    bits .or .u64 (IntKind.u64.wrap (IntKind.u64.wrap ((t : Int) + 4294967296) / 4294967296 * 4294967296)) (m : Int) = ((fol t m : Nat) : Int) := by
  have e : IntKind.u64.wrap (IntKind.u64.wrap ((t : Int) + 4294967296) / 4294967296 * 4294967296) = (((t / 4294967296 + 1) % 4294967296 * 4294967296 : Nat) : Int) := by
    rw [IntKind.wrap_u64, IntKind.wrap_u64]
    omega
  rw [e, or_join _ _ (by omega) (by have := Nat.mod_lt (t / 4294967296 + 1) (show 0 < 4294967296 by decide); omega) hm]
  rfl

theorem follower_c (t m : Nat) (ht : t < 18446744073709551616) (hm : m < 4294967296) (w : World) :
    Calls Try.prog 69 #[.int .u64 t, .int .u64 m] w fun e w' => e = .returned (.int .u64 (fol t m : Nat)) ∧ w = w' := by
  have H := Lib.hid (fol_spec t m ht hm)
  go_enter Try.func69, Try.ntmps69
  go_wp2
  go_ret
  refine ⟨?_, rfl⟩
  apply ret_u64
  have := H.out
  simpa using this

theorem follower_s (t i : Nat) (ht : t < 18446744073709551616) (hm : i + 1 < 4294967296) (w : World) :
    Calls Try.prog 69 #[.int .u64 t, .int .u64 ((i : Int) + 1)] w fun e w' => e = .returned (.int .u64 (fol t (i + 1) : Nat)) ∧ w = w' := by
  have h := follower_c t (i + 1) ht hm w
  rw [show ((i + 1 : Nat) : Int) = (i : Int) + 1 from by omega] at h
  exact h

theorem nextWord_c (i : Nat) (hi : i < 4294967296) (w : World) :
    Calls Try.prog 67 #[.int .u64 i] w fun e w' => e = .returned (.int .i64 (2 + 2 * (i : Int))) ∧ w = w' := by
  go_enter Try.func67, Try.ntmps67
  go_wp2
  go_ret
  exact ⟨rfl, rfl⟩

theorem valueWord_c (i : Nat) (hi : i < 4294967296) (w : World) :
    Calls Try.prog 46 #[.int .u64 i] w fun e w' => e = .returned (.int .i64 (3 + 2 * (i : Int))) ∧ w = w' := by
  go_enter Try.func46, Try.ntmps46
  go_wp2
  go_ret
  exact ⟨rfl, rfl⟩

theorem step_nil (op wd : Int) (w : World) :
    Calls Try.prog 45 #[.nilIface, .int .u8 op, .int .i64 wd] w fun e w' => e = .returned (.tuple #[]) ∧ w = w' := by
  go_enter Try.func45, Try.ntmps45
  go_wp2
  go_end0
  exact ⟨rfl, rfl⟩
end Go.Proofs.Ytmcffabfghhpaaa
/- take and give, walked alone, whatever the gate. -/
namespace Go.Proofs.Ytmcffabfghhpaaa
open Go.RowKit
set_option linter.unusedVariables false

/-- What is asked of a gate: what it is told it keeps; it leaves the stack's two blocks alone, and all below B. -/
structure GateOk (g : Value) (B S N : Nat) (G : World → List (Int × Int) → Prop) : Prop where
  step : ∀ (w : World) (L : List (Int × Int)) (op wd : Int), L.length < 1000000 → G w L → Calls Try.prog 45 #[g, .int .u8 op, .int .i64 wd] w fun e w' =>
    e = .returned (.tuple #[]) ∧ G w' (L ++ [(op, wd)]) ∧ Below B w w' ∧ w'.heap[S]? = w.heap[S]? ∧ w'.heap[N]? = w.heap[N]?
  keep : ∀ (w w' : World) (L : List (Int × Int)), G w L → Sm (fun k => k = S ∨ k = N) w w' → G w' L

def uw (m : List Nat) : Array Value := (m.map fun (x : Nat) => Value.int .u64 (x : Int)).toArray
def hdr (t0 t1 N n : Nat) : Array Value := #[.int .u64 t0, .int .u64 t1, .slice (some ⟨N, 0, none⟩) n n]

theorem uw_get (m : List Nat) (i : Nat) (h : i < m.length) : (uw m)[i]? = some (.int .u64 (m[i] : Nat)) := by
  simp [uw, h]
theorem uw_set (m : List Nat) (i v : Nat) : (uw m).setIfInBounds i (.int .u64 (v : Int)) = uw (m.set i v) := by
  simp [uw, List.map_set]

set_option maxHeartbeats 400000 in
theorem take_none {g : Value} {B S N : Nat} {G : World → List (Int × Int) → Prop} (hG : GateOk g B S N G) (n t : Nat) (top : Nat) (htop : top < 2) (c : Array Value) (hc : c[top]? = some (.int .u64 (t : Int))) (ht : t < 18446744073709551616)
    (h0 : t % 4294967296 = 0) (w : World) (L : List (Int × Int)) (hL : L.length + 20 ≤ 1000000) (hg : G w L) (hr : Row w S c 107) :
    Calls Try.prog 44 #[.pointer (some ⟨S, 0, none⟩), g, .int .i64 top] w fun e w' =>
      e = .returned (.tuple #[.int .u64 0, .bool false]) ∧ G w' (L ++ [(1, (top : Int))]) ∧ Below B w w' ∧ w'.heap[S]? = w.heap[S]? ∧ w'.heap[N]? = w.heap[N]? := by
  go_enter Try.func44, Try.ntmps44
  go_wp2
  go_step3
  go_wp2
  go_step3
  go_wp2
  refine wp_loop_rounds 1 ?_
  rw [rounds_succ]
  have HC := Lib.hid hc
  clear hc
  go_wp2_with (go_at_call 45; refine (hG.step _ _ _ _ (by (try simp only [List.length_append, List.length_cons, List.length_nil]); omega) hg).mono ?_; rintro e w1 ⟨rfl, hg1, hb1, hS1, hN1⟩; have hc1 : w1.cell? ⟨S, top, none⟩ = some (.int .u64 (t : Int)) := ((Row.of_heap hr hS1).cell top).trans HC.out; have HS := Lib.hid hS1; have HN := Lib.hid hN1; clear hS1 hN1)
  refine (aload _ _ _ hc1).mono ?_
  rintro e w1 ⟨rfl, rfl⟩
  have ha := and_low t ht
  rw [h0] at ha
  go_wp2
  rw [Exit.noGoto_ret]
  go_ret2
  exact ⟨rfl, hg1, hb1, HS.out, HN.out⟩

set_option maxHeartbeats 400000 in
theorem take_some {g : Value} {B S N : Nat} {G : World → List (Int × Int) → Prop} (hG : GateOk g B S N G) (hSN : S ≠ N) (hBS : B ≤ S) (n t i x : Nat) (top : Nat) (htop : top < 2) (c : Array Value) (hc : c[top]? = some (.int .u64 (t : Int)))
    (hs : c[2]? = some (.slice (some ⟨N, 0, none⟩) n n)) (hn : n ≤ 1024) (ht : t < 18446744073709551616) (hi : t % 4294967296 = i + 1) (hin : i < n) (d : Array Value) (hd : d[2 * i]? = some (.int .u64 (x : Int))) (hx : x < 4294967296)
    (w : World) (L : List (Int × Int)) (hL : L.length + 20 ≤ 1000000) (hg : G w L) (hr : Row w S c 107) (hrn : Row w N d 113) :
    Calls Try.prog 44 #[.pointer (some ⟨S, 0, none⟩), g, .int .i64 top] w fun e w' =>
      e = .returned (.tuple #[.int .u64 i, .bool true]) ∧ G w' (L ++ [(1, (top : Int)), (1, 2 + 2 * (i : Int)), (5, (top : Int))]) ∧ Below B w w' ∧ Row w' S (c.setIfInBounds top (.int .u64 (fol t x : Nat))) 107 ∧ Row w' N d 113 := by
  go_enter Try.func44, Try.ntmps44
  go_wp2
  go_step3
  go_wp2
  go_step3
  go_wp2
  refine wp_loop_rounds 1 ?_
  rw [rounds_succ]
  have HC := Lib.hid hc
  have HD := Lib.hid hd
  have HX := Lib.hid hs
  have HI := Lib.hid hi
  clear hc hd hs hi
  go_wp2_with fail
  refine (hG.step _ _ _ _ (by (try simp only [List.length_append, List.length_cons, List.length_nil]); omega) hg).mono ?_
  rintro e w1 ⟨rfl, hg1, hb1, hS1, hN1⟩
  have hr1 := Row.of_heap hr hS1
  have hn1 := Row.of_heap hrn hN1
  clear hS1 hN1
  have hc1 : w1.cell? ⟨S, top, none⟩ = some (.int .u64 (t : Int)) := (hr1.cell top).trans HC.out
  go_wp2_with fail
  refine (aload _ _ _ hc1).mono ?_
  rintro e w1 ⟨rfl, rfl⟩
  have ha : bits .and .u64 (t : Int) 4294967295 = (i : Int) + 1 := by
    have := and_low t ht
    rw [HI.out] at this
    simpa using this
  go_wp2_with fail
  refine (nextWord_c i (by omega) _).mono ?_
  rintro e w1 ⟨rfl, rfl⟩
  go_wp2_with fail
  refine (hG.step _ _ _ _ (by (try simp only [List.length_append, List.length_cons, List.length_nil]); omega) hg1).mono ?_
  rintro e w2 ⟨rfl, hg2, hb2, hS2, hN2⟩
  have hr2 := Row.of_heap hr1 hS2
  have hn2 := Row.of_heap hn1 hN2
  clear hS2 hN2
  have hx2 : w2.cell? ⟨S, 2, none⟩ = some (.slice (some ⟨N, 0, none⟩) n n) := (hr2.cell 2).trans HX.out
  have hd2 : w2.cell? ⟨N, i * 2, none⟩ = some (.int .u64 (x : Int)) := by
    rw [Nat.mul_comm]
    exact (hn2.cell (2 * i)).trans HD.out
  go_wp2_with fail
  refine (aload _ _ _ hd2).mono ?_
  rintro e w2 ⟨rfl, rfl⟩
  go_wp2_with fail
  refine (hG.step _ _ _ _ (by (try simp only [List.length_append, List.length_cons, List.length_nil]); omega) hg2).mono ?_
  rintro e w3 ⟨rfl, hg3, hb3, hS3, hN3⟩
  have hr3 := Row.of_heap hr2 hS3
  have hn3 := Row.of_heap hn2 hN3
  clear hS3 hN3
  go_wp2_with fail
  have hc3 : w3.cell? ⟨S, top, none⟩ = some (.int .u64 (t : Int)) := (hr3.cell top).trans HC.out
  have hf3 : w3.frozen? ⟨S, top, none⟩ = false := hr3.free top
  go_region_with (first | (go_at_call 69; refine (follower_c t x ht hx _).mono ?_; rintro e w' ⟨rfl, rfl⟩) | (go_at_call 68; refine (acas_hit _ _ _ w3.drew hc3 hf3).mono ?_; rintro e w' ⟨rfl, rfl⟩))
  all_goals
    go_wp2
    rw [Exit.noGoto_ret]
    go_ret2
    refine ⟨rfl, ?_, ?_, ?_, ?_⟩
    · have e : L ++ [(1, (top : Int)), (1, 2 + 2 * (i : Int)), (5, (top : Int))] = L ++ [(1, (top : Int))] ++ [(1, 2 + 2 * (i : Int))] ++ [(5, (top : Int))] := by simp
      rw [e]
      exact hG.keep _ _ _ hg3 ((Sm.refl _ w3).drew.setCell (.inl rfl) _)
    · exact ((hb1.trans hb2).trans hb3).drew.setCell hBS _
    · exact hr3.drew.set top _
    · exact hn3.drew.set_ne hSN _
end Go.Proofs.Ytmcffabfghhpaaa
/- give, Push and Pop, walked alone, whatever the gate. -/
namespace Go.Proofs.Ytmcffabfghhpaaa
open Go.RowKit
set_option linter.unusedVariables false

set_option maxHeartbeats 400000 in
theorem give_c {g : Value} {B S N : Nat} {G : World → List (Int × Int) → Prop} (hG : GateOk g B S N G) (hSN : S ≠ N) (hBS : B ≤ S) (hBN : B ≤ N) (n t i lo : Nat) (hl : t % 4294967296 = lo) (u : Value) (top : Nat) (htop : top < 2) (c : Array Value) (hc : c[top]? = some (.int .u64 (t : Int)))
    (hs : c[2]? = some (.slice (some ⟨N, 0, none⟩) n n)) (hn : n ≤ 1024) (ht : t < 18446744073709551616) (hin : i < n) (d : Array Value) (hd : d[2 * i]? = some u)
    (w : World) (L : List (Int × Int)) (hL : L.length + 20 ≤ 1000000) (hg : G w L) (hr : Row w S c 107) (hrn : Row w N d 113) :
    Calls Try.prog 47 #[.pointer (some ⟨S, 0, none⟩), g, .int .i64 top, .int .u64 i] w fun e w' =>
      e = .returned (.tuple #[]) ∧ G w' (L ++ [(1, (top : Int)), (2, 2 + 2 * (i : Int)), (5, (top : Int))]) ∧ Below B w w' ∧ Row w' S (c.setIfInBounds top (.int .u64 (fol t (i + 1) : Nat))) 107 ∧ Row w' N (d.setIfInBounds (2 * i) (.int .u64 (lo : Int))) 113 := by
  go_enter Try.func47, Try.ntmps47
  go_wp2
  go_step3
  go_wp2
  go_step3
  go_wp2
  refine wp_loop_rounds 1 ?_
  rw [rounds_succ]
  have HC := Lib.hid hc
  have HD := Lib.hid hd
  have HX := Lib.hid hs
  clear hc hd hs
  go_wp2_with fail
  refine (hG.step _ _ _ _ (by (try simp only [List.length_append, List.length_cons, List.length_nil]); omega) hg).mono ?_
  rintro e w1 ⟨rfl, hg1, hb1, hS1, hN1⟩
  have hr1 := Row.of_heap hr hS1
  have hn1 := Row.of_heap hrn hN1
  clear hS1 hN1
  have hc1 : w1.cell? ⟨S, top, none⟩ = some (.int .u64 (t : Int)) := (hr1.cell top).trans HC.out
  go_wp2_with fail
  refine (aload _ _ _ hc1).mono ?_
  rintro e w1 ⟨rfl, rfl⟩
  have ha : bits .and .u64 (t : Int) 4294967295 = (lo : Int) := by
    rw [and_low t ht, hl]
  clear hl
  go_wp2_with fail
  refine (nextWord_c i (by omega) _).mono ?_
  rintro e w1 ⟨rfl, rfl⟩
  go_wp2_with fail
  refine (hG.step _ _ _ _ (by (try simp only [List.length_append, List.length_cons, List.length_nil]); omega) hg1).mono ?_
  rintro e w2 ⟨rfl, hg2, hb2, hS2, hN2⟩
  have hr2 := Row.of_heap hr1 hS2
  have hn2 := Row.of_heap hn1 hN2
  clear hS2 hN2
  have hx2 : w2.cell? ⟨S, 2, none⟩ = some (.slice (some ⟨N, 0, none⟩) n n) := (hr2.cell 2).trans HX.out
  have hd2 : w2.cell? ⟨N, i * 2, none⟩ = some u := by
    rw [Nat.mul_comm]
    exact (hn2.cell (2 * i)).trans HD.out
  have hf2 : w2.frozen? ⟨N, i * 2, none⟩ = false := hn2.free _
  go_wp2_with fail
  refine (astore _ _ _ _ hd2 hf2).mono ?_
  rintro e wx ⟨rfl, rfl⟩
  obtain ⟨w3, hw3⟩ : ∃ w3 : World, w3 = w2.setCell ⟨N, i * 2, none⟩ (.int .u64 (lo : Int)) := ⟨_, rfl⟩
  rw [← hw3]
  have hr3 : Row w3 S c 107 := by rw [hw3]; exact hr2.set_ne (fun e => hSN e.symm) _
  have hn3 : Row w3 N (d.setIfInBounds (2 * i) (.int .u64 (lo : Int))) 113 := by
    rw [hw3, Nat.mul_comm]
    exact hn2.set _ _
  have hg3 := hG.keep _ w3 _ hg2 (by rw [hw3]; exact (Sm.refl _ w2).setCell (.inr rfl) _)
  have hb3 : Below B w2 w3 := by rw [hw3]; exact (Below.refl _ _).setCell hBN _
  clear hw3 hd2 hf2 hx2
  go_wp2_with fail
  refine (hG.step _ _ _ _ (by (try simp only [List.length_append, List.length_cons, List.length_nil]); omega) hg3).mono ?_
  rintro e w4 ⟨rfl, hg4, hb4, hS4, hN4⟩
  have hr4 := Row.of_heap hr3 hS4
  have hn4 := Row.of_heap hn3 hN4
  clear hS4 hN4
  go_wp2_with fail
  have hc4 : w4.cell? ⟨S, top, none⟩ = some (.int .u64 (t : Int)) := (hr4.cell top).trans HC.out
  have hf4 : w4.frozen? ⟨S, top, none⟩ = false := hr4.free top
  have hi1 : i + 1 < 4294967296 := by omega
  have hw1 : IntKind.u64.wrap ((i : Int) + 1) = (i : Int) + 1 := by
    rw [IntKind.wrap_u64]
    omega
  go_region_with (first | (go_at_call 69; refine (follower_s t i ht hi1 _).mono ?_; rintro e w' ⟨rfl, rfl⟩) | (go_at_call 68; refine (acas_hit _ _ _ w4.drew hc4 hf4).mono ?_; rintro e w' ⟨rfl, rfl⟩))
  all_goals
    go_wp2
    rw [Exit.noGoto_ret]
    refine bodyPost_ret (results_none rfl _ _ _) rfl ?_
    refine ⟨rfl, ?_, ?_, ?_, ?_⟩
    · have e : L ++ [(1, (top : Int)), (2, 2 + 2 * (i : Int)), (5, (top : Int))] = L ++ [(1, (top : Int))] ++ [(2, 2 + 2 * (i : Int))] ++ [(5, (top : Int))] := by simp
      rw [e]
      exact hG.keep _ _ _ hg4 ((Sm.refl _ w4).drew.setCell (.inl rfl) _)
    · exact (((hb1.trans hb2).trans hb3).trans hb4).drew.setCell hBS _
    · exact hr4.drew.set top _
    · exact hn4.drew.set_ne hSN _
theorem none_c (S : Nat) (c : Array Value) (N n : Nat) (hs : c[2]? = some (.slice (some ⟨N, 0, none⟩) n n)) (hn : 0 < n) (w : World) (hr : Row w S c 107) :
    Calls Try.prog 43 #[.pointer (some ⟨S, 0, none⟩)] w fun e w' => e = .returned (.bool false) ∧ w = w' := by
  have h2 : w.cell? ⟨S, 2, none⟩ = some (.slice (some ⟨N, 0, none⟩) n n) := (hr.cell 2).trans hs
  have hz : (((n : Nat) : Int) == 0) = false := by rw [beq_eq_false_iff_ne]; omega
  clear hs
  go_enter Try.func43, Try.ntmps43
  go_wp2
  go_ret
  exact ⟨rfl, rfl⟩

theorem slots_c (S : Nat) (c : Array Value) (N n : Nat) (hs : c[2]? = some (.slice (some ⟨N, 0, none⟩) n n)) (hn : 0 < n) (w : World) (hr : Row w S c 107) :
    Calls Try.prog 15 #[.pointer (some ⟨S, 0, none⟩)] w fun e w' => e = .returned (.int .i64 n) ∧ w = w' := by
  have h2 : w.cell? ⟨S, 2, none⟩ = some (.slice (some ⟨N, 0, none⟩) n n) := (hr.cell 2).trans hs
  have h := none_c S c N n hs hn w hr
  clear hs
  go_enter Try.func15, Try.ntmps15
  go_wp2_with fail
  refine h.mono ?_
  rintro e w' ⟨rfl, rfl⟩
  go_wp2
  go_ret
  exact ⟨rfl, rfl⟩
end Go.Proofs.Ytmcffabfghhpaaa
/- Push and Pop, walked alone, whatever the gate. -/
namespace Go.Proofs.Ytmcffabfghhpaaa
open Go.RowKit
set_option linter.unusedVariables false

/-- A stack in memory: its two tops, its nodes' words. -/
structure Stk (S N n t0 t1 : Nat) (m : List Nat) (w : World) : Prop where
  rS : Row w S (hdr t0 t1 N n) 107
  rN : Row w N (uw m) 113
  ne : S ≠ N
  len : m.length = 2 * n
  pos : 0 < n
  le : n ≤ 1024
  l0 : t0 < 18446744073709551616
  l1 : t1 < 18446744073709551616
  nx : ∀ i (h : 2 * i < m.length), m[2 * i] < 4294967296

theorem hdr_set0 (t0 t1 N n v : Nat) : (hdr t0 t1 N n).setIfInBounds 0 (.int .u64 (v : Int)) = hdr v t1 N n := rfl
theorem hdr_set1 (t0 t1 N n v : Nat) : (hdr t0 t1 N n).setIfInBounds 1 (.int .u64 (v : Int)) = hdr t0 v N n := rfl

theorem push_full {g : Value} {B S N : Nat} {G : World → List (Int × Int) → Prop} (hG : GateOk g B S N G) (n t0 t1 : Nat) (m : List Nat) (v : Int) (w : World) (L : List (Int × Int)) (hL : L.length + 40 ≤ 1000000) (hg : G w L) (hs : Stk S N n t0 t1 m w)
    (h0 : t1 % 4294967296 = 0) :
    Calls Try.prog 13 #[.pointer (some ⟨S, 0, none⟩), g, .int .u64 v] w fun e w' =>
      e = .returned (.tuple #[.bool false, .int .i64 0]) ∧ G w' (L ++ [(1, 1)]) ∧ Below B w w' ∧ Stk S N n t0 t1 m w' := by
  have h1 := none_c S (hdr t0 t1 N n) N n rfl hs.pos w hs.rS
  have h2 := take_none hG n t1 1 (by decide) (hdr t0 t1 N n) rfl hs.l1 h0 w L (by omega) hg hs.rS
  have H1 := Lib.hid h1
  have H2 := Lib.hid h2
  clear h1 h2 h0
  go_enter Try.func13, Try.ntmps13
  go_wp2_with fail
  refine H1.out.mono ?_
  rintro e w' ⟨rfl, rfl⟩
  go_wp2_with fail
  refine H2.out.mono ?_
  rintro e w1 ⟨rfl, hg1, hb1, hS1, hN1⟩
  have hs1 : Stk S N n t0 t1 m w1 := { hs with rS := Row.of_heap hs.rS hS1, rN := Row.of_heap hs.rN hN1 }
  clear hS1 hN1
  go_wp2
  go_ret2
  exact ⟨rfl, hg1, hb1, hs1⟩

theorem uw_get' (m : List Nat) (i : Nat) (h : i < m.length) (x : Nat) (hx : m[i] = x) : (uw m)[i]? = some (.int .u64 (x : Int)) := by rw [uw_get m i h, hx]

set_option maxHeartbeats 400000 in
theorem push_ok {g : Value} {B S N : Nat} {G : World → List (Int × Int) → Prop} (hG : GateOk g B S N G) (hBS : B ≤ S) (hBN : B ≤ N) (n t0 t1 i x lo : Nat) (m : List Nat) (v : Nat) (hv : v < 18446744073709551616) (w : World) (L : List (Int × Int)) (hL : L.length + 40 ≤ 1000000) (hg : G w L) (hs : Stk S N n t0 t1 m w)
    (hi : t1 % 4294967296 = i + 1) (hin : i < n) (hx : ∀ h, m[2 * i]'h = x) (hlo : t0 % 4294967296 = lo) :
    Calls Try.prog 13 #[.pointer (some ⟨S, 0, none⟩), g, .int .u64 v] w fun e w' =>
      e = .returned (.tuple #[.bool true, .int .i64 0]) ∧ G w' (L ++ [(1, 1), (1, 2 + 2 * (i : Int)), (5, 1), (2, 3 + 2 * (i : Int)), (1, 0), (2, 2 + 2 * (i : Int)), (5, 0)]) ∧ Below B w w' ∧
      Stk S N n (fol t0 (i + 1)) (fol t1 x) ((m.set (2 * i + 1) v).set (2 * i) lo) w' := by
  have hl := hs.len
  have hx' : x < 4294967296 := by rw [← hx (by omega)]; exact hs.nx i (by omega)
  have hle := hs.le
  have hl0 := hs.l0
  have hne := hs.ne
  have H1 := Lib.hid (none_c S (hdr t0 t1 N n) N n rfl hs.pos w hs.rS)
  have H2 := Lib.hid (take_some hG hs.ne hBS n t1 i x 1 (by decide) (hdr t0 t1 N n) rfl rfl hs.le hs.l1 hi hin (uw m) (uw_get' m (2 * i) (by omega) x (hx _)) hx' w L (by omega) hg hs.rS hs.rN)
  have HX := Lib.hid hx
  have HI := Lib.hid hi
  have HLO := Lib.hid hlo
  clear hx hi hlo
  go_enter Try.func13, Try.ntmps13
  go_wp2_with fail
  refine H1.out.mono ?_
  rintro e w' ⟨rfl, rfl⟩
  go_wp2_with fail
  refine H2.out.mono ?_
  rintro e w1 ⟨rfl, hg1, hb1, hS1, hN1⟩
  rw [hdr_set1] at hS1
  go_wp2_with fail
  refine (valueWord_c i (by omega) _).mono ?_
  rintro e w1 ⟨rfl, rfl⟩
  go_wp2_with fail
  refine (hG.step _ _ _ _ (by (try simp only [List.length_append, List.length_cons, List.length_nil]); omega) hg1).mono ?_
  rintro e w2 ⟨rfl, hg2, hb2, hS2, hN2⟩
  have hr2 := Row.of_heap hS1 hS2
  have hn2 := Row.of_heap hN1 hN2
  clear hS1 hN1 hS2 hN2
  have hx2 : w2.cell? ⟨S, 2, none⟩ = some (.slice (some ⟨N, 0, none⟩) n n) := hr2.cell 2
  have hd2 : ∃ u, w2.cell? ⟨N, i * 2 + 1, none⟩ = some u := by
    rw [Nat.mul_comm]
    exact ⟨_, (hn2.cell (2 * i + 1)).trans (uw_get m (2 * i + 1) (by omega))⟩
  obtain ⟨u, hd2⟩ := hd2
  have hf2 : w2.frozen? ⟨N, i * 2 + 1, none⟩ = false := hn2.free _
  go_wp2_with fail
  refine (astore _ _ _ _ hd2 hf2).mono ?_
  rintro e wx ⟨rfl, rfl⟩
  obtain ⟨w3, hw3⟩ : ∃ w3 : World, w3 = w2.setCell ⟨N, i * 2 + 1, none⟩ (.int .u64 (v : Int)) := ⟨_, rfl⟩
  rw [← hw3]
  have hr3 : Row w3 S (hdr t0 (fol t1 x) N n) 107 := by rw [hw3]; exact hr2.set_ne (fun e => hne e.symm) _
  have hn3 : Row w3 N (uw (m.set (2 * i + 1) v)) 113 := by
    rw [hw3, Nat.mul_comm, ← uw_set]
    exact hn2.set _ _
  have hg3 := hG.keep _ w3 _ hg2 (by rw [hw3]; exact (Sm.refl _ w2).setCell (.inr rfl) _)
  have hb3 : Below B w2 w3 := by rw [hw3]; exact (Below.refl _ _).setCell hBN _
  clear hw3 hd2 hf2 hx2
  have H4 := Lib.hid (give_c hG hne hBS hBN n t0 i lo HLO.out _ 0 (by decide) (hdr t0 (fol t1 x) N n) rfl rfl hle hl0 hin (uw (m.set (2 * i + 1) v)) (uw_get _ (2 * i) (by simp; omega)) w3 _ (by (try simp only [List.length_append, List.length_cons, List.length_nil]); omega) hg3 hr3 hn3)
  go_wp2_with fail
  refine H4.out.mono ?_
  rintro e w4 ⟨rfl, hg4, hb4, hS4, hN4⟩
  rw [hdr_set0] at hS4
  rw [uw_set] at hN4
  go_wp2
  go_ret2
  refine ⟨rfl, ?_, ((hb1.trans hb2).trans hb3).trans hb4, hS4, hN4, hne, by simp [hl], hs.pos, hle, fol_lt _ _ (by omega), fol_lt _ _ hx', ?_⟩
  · simpa using hg4
  · intro j hj
    have hlo : lo < 4294967296 := by rw [← HLO.out]; exact Nat.mod_lt _ (by decide)
    have hj' : 2 * j < m.length := by simpa using hj
    rw [List.getElem_set]
    split
    · exact hlo
    · rw [List.getElem_set, if_neg (by omega)]
      exact hs.nx j hj'
theorem pop_empty {g : Value} {B S N : Nat} {G : World → List (Int × Int) → Prop} (hG : GateOk g B S N G) (n t0 t1 : Nat) (m : List Nat) (w : World) (L : List (Int × Int)) (hL : L.length + 40 ≤ 1000000) (hg : G w L) (hs : Stk S N n t0 t1 m w)
    (h0 : t0 % 4294967296 = 0) :
    Calls Try.prog 14 #[.pointer (some ⟨S, 0, none⟩), g] w fun e w' =>
      e = .returned (.tuple #[.int .u64 0, .bool false, .int .i64 0]) ∧ G w' (L ++ [(1, 0)]) ∧ Below B w w' ∧ Stk S N n t0 t1 m w' := by
  have h1 := none_c S (hdr t0 t1 N n) N n rfl hs.pos w hs.rS
  have h2 := take_none hG n t0 0 (by decide) (hdr t0 t1 N n) rfl hs.l0 h0 w L (by omega) hg hs.rS
  have H1 := Lib.hid h1
  have H2 := Lib.hid h2
  clear h1 h2 h0
  go_enter Try.func14, Try.ntmps14
  go_wp2_with fail
  refine H1.out.mono ?_
  rintro e w' ⟨rfl, rfl⟩
  go_wp2_with fail
  refine H2.out.mono ?_
  rintro e w1 ⟨rfl, hg1, hb1, hS1, hN1⟩
  have hs1 : Stk S N n t0 t1 m w1 := { hs with rS := Row.of_heap hs.rS hS1, rN := Row.of_heap hs.rN hN1 }
  clear hS1 hN1
  go_wp2
  go_ret3
  exact ⟨rfl, hg1, hb1, hs1⟩

set_option maxHeartbeats 400000 in
theorem pop_ok {g : Value} {B S N : Nat} {G : World → List (Int × Int) → Prop} (hG : GateOk g B S N G) (hBS : B ≤ S) (hBN : B ≤ N) (n t0 t1 i x lo v : Nat) (m : List Nat) (w : World) (L : List (Int × Int)) (hL : L.length + 40 ≤ 1000000) (hg : G w L) (hs : Stk S N n t0 t1 m w)
    (hi : t0 % 4294967296 = i + 1) (hin : i < n) (hx : ∀ h, m[2 * i]'h = x) (hv : ∀ h, m[2 * i + 1]'h = v) (hlo : t1 % 4294967296 = lo) :
    Calls Try.prog 14 #[.pointer (some ⟨S, 0, none⟩), g] w fun e w' =>
      e = .returned (.tuple #[.int .u64 v, .bool true, .int .i64 0]) ∧ G w' (L ++ [(1, 0), (1, 2 + 2 * (i : Int)), (5, 0), (1, 3 + 2 * (i : Int)), (1, 1), (2, 2 + 2 * (i : Int)), (5, 1)]) ∧ Below B w w' ∧
      Stk S N n (fol t0 x) (fol t1 (i + 1)) (m.set (2 * i) lo) w' := by
  have hl := hs.len
  have hx' : x < 4294967296 := by rw [← hx (by omega)]; exact hs.nx i (by omega)
  have hle := hs.le
  have hl1 := hs.l1
  have hne := hs.ne
  have H1 := Lib.hid (none_c S (hdr t0 t1 N n) N n rfl hs.pos w hs.rS)
  have H2 := Lib.hid (take_some hG hs.ne hBS n t0 i x 0 (by decide) (hdr t0 t1 N n) rfl rfl hs.le hs.l0 hi hin (uw m) (uw_get' m (2 * i) (by omega) x (hx _)) hx' w L (by omega) hg hs.rS hs.rN)
  have HX := Lib.hid hx
  have HV := Lib.hid hv
  have HI := Lib.hid hi
  have HLO := Lib.hid hlo
  clear hx hi hlo hv
  go_enter Try.func14, Try.ntmps14
  go_wp2_with fail
  refine H1.out.mono ?_
  rintro e w' ⟨rfl, rfl⟩
  go_wp2_with fail
  refine H2.out.mono ?_
  rintro e w1 ⟨rfl, hg1, hb1, hS1, hN1⟩
  rw [hdr_set0] at hS1
  go_wp2_with fail
  refine (valueWord_c i (by omega) _).mono ?_
  rintro e w1 ⟨rfl, rfl⟩
  go_wp2_with fail
  refine (hG.step _ _ _ _ (by (try simp only [List.length_append, List.length_cons, List.length_nil]); omega) hg1).mono ?_
  rintro e w2 ⟨rfl, hg2, hb2, hS2, hN2⟩
  have hr2 := Row.of_heap hS1 hS2
  have hn2 := Row.of_heap hN1 hN2
  clear hS1 hN1 hS2 hN2
  have hx2 : w2.cell? ⟨S, 2, none⟩ = some (.slice (some ⟨N, 0, none⟩) n n) := hr2.cell 2
  have hd2 : w2.cell? ⟨N, i * 2 + 1, none⟩ = some (.int .u64 (v : Int)) := by
    rw [Nat.mul_comm]
    exact (hn2.cell (2 * i + 1)).trans (uw_get' m (2 * i + 1) (by omega) v (HV.out _))
  go_wp2_with fail
  refine (aload _ _ _ hd2).mono ?_
  rintro e w2 ⟨rfl, rfl⟩
  clear hx2 hd2
  have H4 := Lib.hid (give_c hG hne hBS hBN n t1 i lo HLO.out _ 1 (by decide) (hdr (fol t0 x) t1 N n) rfl rfl hle hl1 hin (uw m) (uw_get _ (2 * i) (by omega)) w2 _ (by (try simp only [List.length_append, List.length_cons, List.length_nil]); omega) hg2 hr2 hn2)
  go_wp2_with fail
  refine H4.out.mono ?_
  rintro e w4 ⟨rfl, hg4, hb4, hS4, hN4⟩
  rw [hdr_set1] at hS4
  rw [uw_set] at hN4
  go_wp2
  go_ret3
  refine ⟨rfl, ?_, (hb1.trans hb2).trans hb4, hS4, hN4, hne, by simp [hl], hs.pos, hle, fol_lt _ _ hx', fol_lt _ _ (by omega), ?_⟩
  · simpa using hg4
  · intro j hj
    have hlo : lo < 4294967296 := by rw [← HLO.out]; exact Nat.mod_lt _ (by decide)
    have hj' : 2 * j < m.length := by simpa using hj
    rw [List.getElem_set]
    split
    · exact hlo
    · exact hs.nx j hj'
end Go.Proofs.Ytmcffabfghhpaaa
/- Plain words: what a stack's calls do between two turns, told apart from memory. No condition. -/
namespace Go.Proofs.Ytmcffabfghhpaaa
open Go.Conc Go.RowKit
/-- A stack: its two tops, its nodes' words. -/
structure SSt where
  t0 : Nat
  t1 : Nat
  m : List Nat
def SSt.top (a : SSt) (i : Nat) : Nat := if i = 0 then a.t0 else a.t1
def SSt.setTop (a : SSt) (i v : Nat) : SSt := if i = 0 then { a with t0 := v } else { a with t1 := v }
/-- Which call takes, which one gives. -/
inductive SKd
  | push (v : Nat)
  | pop
inductive SRd
  | push
  | pop (v : Nat)
/-- Where a call waits. -/
inductive SPos
  | t1 (i : Nat) (k : SKd)
  | t2 (i h : Nat) (k : SKd)
  | t3 (i h x : Nat) (k : SKd)
  | vst (j v : Nat)
  | vld (j : Nat)
  | g1 (i j : Nat) (r : SRd)
  | g2 (i j h : Nat) (r : SRd)
  | g3 (i j h : Nat) (r : SRd)
/-- What it answers. -/
inductive SRes
  | none (k : SKd)
  | done (r : SRd)
def SPos.mark : SPos → Int × Int
  | .t1 i _ => (1, i)
  | .t2 _ h _ => (1, 2 + 2 * ((h % 4294967296 - 1 : Nat) : Int))
  | .t3 i _ _ _ => (5, i)
  | .vst j _ => (2, 3 + 2 * (j : Int))
  | .vld j => (1, 3 + 2 * (j : Int))
  | .g1 i _ _ => (1, i)
  | .g2 _ j _ _ => (2, 2 + 2 * (j : Int))
  | .g3 i _ _ _ => (5, i)
/-- Behind a take. -/
def SKd.after : SKd → Nat → SPos
  | .push v, j => .vst j v
  | .pop, j => .vld j
def SPos.exec : SPos → SSt → SSt × (SPos ⊕ SRes)
  | .t1 i k, a => if a.top i % 4294967296 = 0 then (a, .inr (.none k)) else (a, .inl (.t2 i (a.top i) k))
  | .t2 i h k, a => (a, .inl (.t3 i h (a.m.getD (2 * (h % 4294967296 - 1)) 0) k))
  | .t3 i h x k, a => if a.top i = h then (a.setTop i (fol h x), .inl (k.after (h % 4294967296 - 1))) else (a, .inl (.t1 i k))
  | .vst j v, a => ({ a with m := a.m.set (2 * j + 1) v }, .inl (.g1 0 j .push))
  | .vld j, a => (a, .inl (.g1 1 j (.pop (a.m.getD (2 * j + 1) 0))))
  | .g1 i j r, a => (a, .inl (.g2 i j (a.top i) r))
  | .g2 i j h r, a => ({ a with m := a.m.set (2 * j) (h % 4294967296) }, .inl (.g3 i j h r))
  | .g3 i j h r, a => if a.top i = h then (a.setTop i (fol h (j + 1)), .inr (.done r)) else (a, .inl (.g1 i j r))
/-- A stack in memory, whole. -/
structure SRep (S N n : Nat) (a : SSt) (w : World) : Prop where
  stk : Stk S N n a.t0 a.t1 a.m w
  b0 : a.t0 % 4294967296 ≤ n
  b1 : a.t1 % 4294967296 ≤ n
  bn : ∀ i (h : 2 * i < a.m.length), a.m[2 * i] ≤ n
  bv : ∀ i (h : 2 * i + 1 < a.m.length), a.m[2 * i + 1] < 18446744073709551616
theorem Stk.of_same {S N n t0 t1 : Nat} {m : List Nat} {w w' : World} (h : Stk S N n t0 t1 m w) (hS : w'.heap[S]? = w.heap[S]?) (hN : w'.heap[N]? = w.heap[N]?) : Stk S N n t0 t1 m w' :=
  { h with rS := by unfold Row at *; rw [hS]; exact h.rS, rN := by unfold Row at *; rw [hN]; exact h.rN }
/-- The stack's calls. -/
def stkJob (S N n : Nat) : Job where
  St := SSt
  Pos := SPos
  Res := SRes
  mark := SPos.mark
  exec := SPos.exec
  foot := fun _ b => b = S ∨ b = N
  Rep := SRep S N n
  frame := fun a u u' h hr => ⟨hr.stk.of_same (h S (.inl rfl)) (h N (.inr rfl)), hr.b0, hr.b1, hr.bn, hr.bv⟩
  real := fun a u b hr hb => by
    rcases hb with rfl | rfl
    · exact ⟨_, hr.stk.rS, fun _ _ _ _ _ _ e => (by cases e), fun T e => (by have := congrArg (fun o => match o with | Obj.cells c _ _ => c.size | _ => 0) e; simp [hdr] at this)⟩
    · refine ⟨_, hr.stk.rN, fun _ _ _ _ _ _ e => (by cases e), fun T e => ?_⟩
      have := congrArg (fun o => match o with | Obj.cells c _ _ => c.size | _ => 0) e
      have hl := hr.stk.len
      have hp := hr.stk.pos
      simp [uw] at this
      rw [this] at hl
      simp at hl
      omega
theorem SRep.top {S N n : Nat} {a : SSt} {w : World} (h : SRep S N n a w) (i : Nat) : a.top i < 18446744073709551616 ∧ a.top i % 4294967296 ≤ n := by
  unfold SSt.top
  split
  · exact ⟨h.stk.l0, h.b0⟩
  · exact ⟨h.stk.l1, h.b1⟩
/-- The cells. -/
theorem SRep.topCell {S N n : Nat} {a : SSt} {w : World} (h : SRep S N n a w) {i : Nat} (hi : i < 2) : w.cell? ⟨S, i, none⟩ = some (.int .u64 (a.top i : Int)) := by
  rw [h.stk.rS.cell]
  unfold SSt.top
  rcases i with _ | _ | i
  · rfl
  · rfl
  · omega
theorem SRep.nodes {S N n : Nat} {a : SSt} {w : World} (h : SRep S N n a w) : w.cell? ⟨S, 2, none⟩ = some (.slice (some ⟨N, 0, none⟩) n n) := by
  rw [h.stk.rS.cell]; rfl
theorem SRep.word {S N n : Nat} {a : SSt} {w : World} (h : SRep S N n a w) {j : Nat} (hj : j < 2 * n) : w.cell? ⟨N, j, none⟩ = some (.int .u64 (a.m.getD j 0 : Int)) := by
  rw [h.stk.rN.cell, uw_get _ _ (by rw [h.stk.len]; exact hj)]
  simp [h.stk.len, hj]
end Go.Proofs.Ytmcffabfghhpaaa
/- Plain words: a stack's take, in any company. No condition. -/
namespace Go.Proofs.Ytmcffabfghhpaaa
open Go.Conc Go.RowKit
section
variable {E : Env} {n : E.ι} {w : World} {ops : Array Oper} {i : Nat} {o : Oper} {l : List Nat} {t : Array Value} {Qr : E.ι → Array Value → World → Prop}
theorem valE (O : E.Ok) (hP : E.P = Try.prog) (v : Value) (ho : ops[i]? = some o) (hw : Region.wanted o (yielded ops t) = true) (he : ∀ w₁, (execOp (⟨t, []⟩ : Act).eval o).events Try.prog w₁ #[] = #[]) (hr : ∀ w₁, (execOp (⟨t, []⟩ : Act).eval o).run Try.prog w₁ = .ok (.value v) w₁)
    (h : cpsR E ops l Qr n ((⟨t, []⟩ : Act).put o.dst v).tmps w) : cpsR E ops (i :: l) Qr n t w := by
  refine cpsR_op O ho hw fun w₁ hR => ⟨v, w₁, #[], .inl ?_, O.still _ _, h.rely O hR⟩
  rw [hP, Sem.runT_eq, hr w₁, he w₁]
theorem callE (O : E.Ok) (hP : E.P = Try.prog) {f : FuncId} {fn : Func} {c : Code} {args : Array Operand} {ats : Array TypeId} {vals : Array Value} (ho : ops[i]? = some o) (hw : Region.wanted o (yielded ops t) = true)
    (hop : o.op = .call { callee := .value (.func f), args, argTypes := ats }) (hf : Try.prog.funcs[f]? = some fn) (hnm : (fn.name == "runtime.NumGoroutine") = false) (hb : fn.body = some c) (hv : args.toList.map (⟨t, []⟩ : Act).eval = vals.toList)
    (h : cpsC E f vals (fun n' v w' => cpsR E ops l Qr n' ((⟨t, []⟩ : Act).put o.dst v).tmps w') n w) : cpsR E ops (i :: l) Qr n t w := by
  refine cpsR_enter O (f := f) (args := vals) ho hw (fun w₁ _ => ⟨#[], ?_, O.still _ _⟩) h
  rw [hP, Sem.runT_eq, (call_run hop hv w₁).1, (call_run hop hv w₁).2, run_callF hf hnm hb, ev_callF hf hnm hb]
theorem cpsC.mono {f : FuncId} {args : Array Value} {Q Q' : E.ι → Value → World → Prop} (h : cpsC E f args Q n w) (hq : ∀ n' v w', Q n' v w' → Q' n' v w') : cpsC E f args Q' n w :=
  fun fr cs hcs hk => h fr cs hcs fun n' hn v w' q => hk n' hn v w' (hq n' v w' q)
theorem retE (O : E.Ok) (hP : E.P = Try.prog) {fn : Func} {t : Array Value} {i : Nat} {w : World} {v : Value} (h : fn.results = #[.tmp i]) (hi : t.getD i undef = v) : ∀ w₁, E.R w w₁ → ∃ es, (results fn t).runT E.P w₁ #[] = (.ok v w₁, es) ∧ E.D n w₁ w₁ es := fun w₁ _ => ⟨#[], by
  rw [hP, Sem.runT_eq, results_tmp (t := i) h, events_results_tmp (t := i) h, hi], O.still _ _⟩
theorem ret2E (O : E.Ok) (hP : E.P = Try.prog) {fn : Func} {t : Array Value} {i j : Nat} {w : World} {v : Value} (h : fn.results = #[.tmp i, .tmp j]) (hi : (.tuple #[t.getD i undef, t.getD j undef] : Value) = v) : ∀ w₁, E.R w w₁ → ∃ es, (results fn t).runT E.P w₁ #[] = (.ok v w₁, es) ∧ E.D n w₁ w₁ es := fun w₁ _ => ⟨#[], by
  rw [hP, Sem.runT_eq, results_tmp2 (t := i) (u := j) h, ← hi]
  simp [results, h], O.still _ _⟩
set_option maxRecDepth 100000 in
theorem nextWord_e (O : E.Ok) (hP : E.P = Try.prog) (j : Nat) (hj : j < 4294967296) {Q : E.ι → Value → World → Prop} (hq : Q n (.int .i64 (2 + 2 * (j : Int))) w) : cpsC E 67 #[.int .u64 j] Q n w := by
  refine cpsC_body O (by rw [hP]; exact Try.func67) rfl ?_
  simp only [Try.ntmps67]
  refine cps_opaque fun Q' hQ => ?_
  walk_nrm
  have h1 : IntKind.i64.wrap (j : Int) = (j : Int) := by rw [IntKind.wrap_i64]; omega
  have h2 : IntKind.i64.wrap (2 * (j : Int)) = 2 * (j : Int) := by rw [IntKind.wrap_i64]; omega
  have h3 : IntKind.i64.wrap (2 + 2 * (j : Int)) = 2 + 2 * (j : Int) := by rw [IntKind.wrap_i64]; omega
  have hcv : Try.prog.underlying 30 = some (.int .u64) := by kernel_rfl
  refine cps_seq O ?_
  (refine cps_region O ?_; simp only [List.size_toArray, List.length_cons, List.length_nil, Nat.reduceAdd, Nat.zero_add, List.range, List.range.loop])
  refine valE O hP (.int .i64 0) rfl rfl (fun _ => by simp [go_sem]) (fun _ => by go_simp; try (first | rfl | (simp [*]))) ?_; try walk_nrm
  refine cpsR_nil O ?_
  show cps _ _ _ _ _ _
  refine cps_seq O ?_
  (refine cps_region O ?_; simp only [List.size_toArray, List.length_cons, List.length_nil, Nat.reduceAdd, Nat.zero_add, List.range, List.range.loop])
  refine valE O hP (.int .u64 j) rfl rfl (fun _ => by simp [go_sem]) (fun _ => by go_simp; try (first | rfl | (simp [*]))) ?_; try walk_nrm
  refine valE O hP (.int .i64 j) rfl rfl (fun _ => by simp [go_sem]) (fun _ => by go_simp; try (first | rfl | (simp [*]))) ?_; try walk_nrm
  refine valE O hP (.int .i64 (2 * (j : Int))) rfl rfl (fun _ => by simp [go_sem]) (fun _ => by go_simp; try (first | rfl | (simp [*]))) ?_; try walk_nrm
  refine valE O hP (.int .i64 (2 + 2 * (j : Int))) rfl rfl (fun _ => by simp [go_sem]) (fun _ => by go_simp; try (first | rfl | (simp [*]))) ?_; try walk_nrm
  refine valE O hP (.int .i64 (2 + 2 * (j : Int))) rfl rfl (fun _ => by simp [go_sem]) (fun _ => by go_simp; try (first | rfl | (simp [*]))) ?_; try walk_nrm
  refine cpsR_nil O ?_
  exact cps_ret O (hQ _ _ _ _ ⟨.inr rfl, .int .i64 (2 + 2 * (j : Int)), retE O hP rfl rfl, hq⟩)
set_option maxRecDepth 100000 in
theorem valueWord_e (O : E.Ok) (hP : E.P = Try.prog) (j : Nat) (hj : j < 4294967296) {Q : E.ι → Value → World → Prop} (hq : Q n (.int .i64 (3 + 2 * (j : Int))) w) : cpsC E 46 #[.int .u64 j] Q n w := by
  refine cpsC_body O (by rw [hP]; exact Try.func46) rfl ?_
  simp only [Try.ntmps46]
  refine cps_opaque fun Q' hQ => ?_
  walk_nrm
  have h1 : IntKind.i64.wrap (j : Int) = (j : Int) := by rw [IntKind.wrap_i64]; omega
  have h2 : IntKind.i64.wrap (2 * (j : Int)) = 2 * (j : Int) := by rw [IntKind.wrap_i64]; omega
  have h3 : IntKind.i64.wrap (3 + 2 * (j : Int)) = 3 + 2 * (j : Int) := by rw [IntKind.wrap_i64]; omega
  have hcv : Try.prog.underlying 30 = some (.int .u64) := by kernel_rfl
  refine cps_seq O ?_
  (refine cps_region O ?_; simp only [List.size_toArray, List.length_cons, List.length_nil, Nat.reduceAdd, Nat.zero_add, List.range, List.range.loop])
  refine valE O hP (.int .i64 0) rfl rfl (fun _ => by simp [go_sem]) (fun _ => by go_simp; try (first | rfl | (simp [*]))) ?_; try walk_nrm
  refine cpsR_nil O ?_
  show cps _ _ _ _ _ _
  refine cps_seq O ?_
  (refine cps_region O ?_; simp only [List.size_toArray, List.length_cons, List.length_nil, Nat.reduceAdd, Nat.zero_add, List.range, List.range.loop])
  refine valE O hP (.int .u64 j) rfl rfl (fun _ => by simp [go_sem]) (fun _ => by go_simp; try (first | rfl | (simp [*]))) ?_; try walk_nrm
  refine valE O hP (.int .i64 j) rfl rfl (fun _ => by simp [go_sem]) (fun _ => by go_simp; try (first | rfl | (simp [*]))) ?_; try walk_nrm
  refine valE O hP (.int .i64 (2 * (j : Int))) rfl rfl (fun _ => by simp [go_sem]) (fun _ => by go_simp; try (first | rfl | (simp [*]))) ?_; try walk_nrm
  refine valE O hP (.int .i64 (3 + 2 * (j : Int))) rfl rfl (fun _ => by simp [go_sem]) (fun _ => by go_simp; try (first | rfl | (simp [*]))) ?_; try walk_nrm
  refine valE O hP (.int .i64 (3 + 2 * (j : Int))) rfl rfl (fun _ => by simp [go_sem]) (fun _ => by go_simp; try (first | rfl | (simp [*]))) ?_; try walk_nrm
  refine cpsR_nil O ?_
  exact cps_ret O (hQ _ _ _ _ ⟨.inr rfl, .int .i64 (3 + 2 * (j : Int)), retE O hP rfl rfl, hq⟩)
end
theorem mark_t2 {i T j : Nat} {K : SKd} (h : T % 4294967296 = j + 1) : (SPos.t2 i T K).mark = (1, 2 + 2 * (j : Int)) := by simp [SPos.mark, h]
theorem exec_t1z {i : Nat} {K : SKd} {a : SSt} (h : a.top i % 4294967296 = 0) : (SPos.t1 i K).exec a = (a, .inr (.none K)) := by simp [SPos.exec, h]
theorem exec_t1 {i : Nat} {K : SKd} {a : SSt} (h : ¬ a.top i % 4294967296 = 0) : (SPos.t1 i K).exec a = (a, .inl (.t2 i (a.top i) K)) := by simp [SPos.exec, h]
theorem exec_t2 {i T j : Nat} {K : SKd} {a : SSt} (h : T % 4294967296 = j + 1) : (SPos.t2 i T K).exec a = (a, .inl (.t3 i T (a.m.getD (2 * j) 0) K)) := by simp [SPos.exec, h]
theorem exec_t3h {i T x j : Nat} {K : SKd} {a : SSt} (h : T % 4294967296 = j + 1) (ht : a.top i = T) : (SPos.t3 i T x K).exec a = (a.setTop i (fol T x), .inl (K.after j)) := by simp [SPos.exec, h, ht]
theorem exec_t3m {i T x : Nat} {K : SKd} {a : SSt} (ht : ¬ a.top i = T) : (SPos.t3 i T x K).exec a = (a, .inl (.t1 i K)) := by simp [SPos.exec, ht]
section
variable {S N n : Nat} (Γ : Gated (stkJob S N n))
/-- Left on its way only. -/
def onlyN (K : Act → World → Prop) : Exit → Act → World → Prop
  | .normal, a, w => K a w
  | _, _, _ => False
theorem Gated.alone_n {m : Γ.E.ι} {k : Nat} {a : SSt} {d : SSt × (SPos ⊕ SRes)} {w : World} {c : Code} {t : Array Value} {Q : Γ.E.ι → Exit → Array Value → World → Prop} (h : Γ.At m k a d w) (hc : okCode thrOk false c = true)
    (hwp : ∀ u, SRep S N n a u → c.wp Try.prog (onlyN fun a' u' => a'.defers = [] ∧ ∃ σ', SRep S N n σ' u' ∧ Sm (fun b => b = S ∨ b = N) u u' ∧ ∀ w', Γ.At m k σ' d w' → Q m .normal a'.tmps w') ⟨t, []⟩ u) : cps Γ.E c Q m t w :=
  Γ.alone h hc fun u hu => wp_mono (hwp u hu) fun e a' u' q => by
    cases e with
    | normal =>
      obtain ⟨q1, σ', q2, q3, q4⟩ := q
      exact ⟨rfl, q1, σ', q2, fun _ => Iff.rfl, q3, q4⟩
    | _ => exact q.elim
theorem SRep.setTop {a : SSt} {u : World} (h : SRep S N n a u) {i v : Nat} (hi : i < 2) (hv : v < 18446744073709551616) (hl : v % 4294967296 ≤ n) : SRep S N n (a.setTop i v) (u.drew.setCell ⟨S, i, none⟩ (.int .u64 (v : Int))) := by
  have hk := h.stk
  have h1 := hk.rS.drew.set i (.int .u64 (v : Int))
  rcases i with _ | _ | i
  · exact ⟨{ hk with rS := h1, rN := hk.rN.drew.set_ne hk.ne _, l0 := hv }, hl, h.b1, h.bn, h.bv⟩
  · exact ⟨{ hk with rS := h1, rN := hk.rN.drew.set_ne hk.ne _, l1 := hv }, h.b0, hl, h.bn, h.bv⟩
  · omega
set_option maxRecDepth 100000 in
set_option maxHeartbeats 4000000 in
/-- A take. -/
theorem take_e {i : Nat} (hi : i < 2) {K : SKd} {m : Γ.E.ι} {k : Nat} {a : SSt} {w : World} (h : Γ.At m k a (a, .inl (.t1 i K)) w) {Q : Γ.E.ι → Value → World → Prop}
    (hq0 : ∀ m' k' a' w', k' < k → Γ.At m' k' a' (a', .inr (.none K)) w' → Q m' (.tuple #[.int .u64 0, .bool false]) w')
    (hq1 : ∀ m' k' a' w' j, k' < k → j < n → Γ.At m' k' a' (a', .inl (K.after j)) w' → Q m' (.tuple #[.int .u64 j, .bool true]) w') :
    cpsC Γ.E 44 #[.pointer (some ⟨S, 0, none⟩), Γ.gate, .int .i64 i] Q m w := by
  have O := Γ.ok
  obtain ⟨g, hg⟩ : ∃ g, g = Γ.gate := ⟨_, rfl⟩
  refine cpsC_body O (by rw [Γ.P]; exact Try.func44) rfl ?_
  simp only [Try.ntmps44]
  refine cps_opaque fun Q' hQ => ?_
  rw [← hg]
  walk_nrm
  refine cps_seq O ?_
  (refine cps_region O ?_; simp only [List.size_toArray, List.length_cons, List.length_nil, Nat.reduceAdd, Nat.zero_add, List.range, List.range.loop])
  refine valE O Γ.P (.int .u64 0) rfl rfl (fun _ => by simp [go_sem]) (fun _ => by go_simp; try (first | rfl | (simp [*]))) ?_; try walk_nrm
  refine valE O Γ.P (.bool false) rfl rfl (fun _ => by simp [go_sem]) (fun _ => by go_simp; try (first | rfl | (simp [*]))) ?_; try walk_nrm
  refine cpsR_nil O ?_
  show cps _ _ _ _ _ _
  refine cps_scope O ?_
  refine cps_seq O ?_
  refine cps_label O ?_
  show cps _ _ _ _ _ _
  refine cps_block O ?_
  refine cps_loopm O (fun k₁ m' t w' => ∃ (a' : SSt) (y8 y9 y10 y11 y12 y13 y14 y15 y16 y17 y18 y19 y20 y21 y22 y23 y24 y25 y26 y27 y28 y29 y30 y31 y32 y33 y34 y35 y36 y37 y38 y39 y40 y41 y42 y43 y44 y45 y46 y47 y48 y49 y50 y51 y52 : Value), k₁ ≤ k ∧ Γ.At m' k₁ a' (a', .inl (.t1 i K)) w' ∧ t = #[.pointer (some ⟨S, 0, none⟩), g, .int .i64 i, undef, undef, undef, .int .u64 0, .bool false, y8, y9, y10, y11, y12, y13, y14, y15, y16, y17, y18, y19, y20, y21, y22, y23, y24, y25, y26, y27, y28, y29, y30, y31, y32, y33, y34, y35, y36, y37, y38, y39, y40, y41, y42, y43, y44, y45, y46, y47, y48, y49, y50, y51, y52]) ?_ (m := k) ⟨a, _, _, _, _, _, _, _, _, _, _, _, _, _, _, _, _, _, _, _, _, _, _, _, _, _, _, _, _, _, _, _, _, _, _, _, _, _, _, _, _, _, _, _, _, _, Nat.le_refl _, h, rfl⟩
  clear h
  rintro k₁ m' t w' ⟨a', y8, y9, y10, y11, y12, y13, y14, y15, y16, y17, y18, y19, y20, y21, y22, y23, y24, y25, y26, y27, y28, y29, y30, y31, y32, y33, y34, y35, y36, y37, y38, y39, y40, y41, y42, y43, y44, y45, y46, y47, y48, y49, y50, y51, y52, hk₁, h, rfl⟩
  have Hq0 := Lib.hid hq0
  have Hq1 := Lib.hid hq1
  clear hq0 hq1
  refine cps_block O ?_
  refine cps_seq O ?_
  (refine cps_region O ?_; simp only [List.size_toArray, List.length_cons, List.length_nil, Nat.reduceAdd, Nat.zero_add, List.range, List.range.loop])
  refine valE O Γ.P (g) rfl rfl (fun _ => by simp [go_sem]) (fun _ => by go_simp; try (first | rfl | (simp [*]))) ?_; try walk_nrm
  refine valE O Γ.P (.int .i64 i) rfl rfl (fun _ => by simp [go_sem]) (fun _ => by go_simp; try (first | rfl | (simp [*]))) ?_; try walk_nrm
  refine callE O Γ.P (f := 45) (vals := #[g, .int .u8 1, .int .i64 i]) rfl rfl rfl Try.func45 rfl rfl rfl ?_
  have hs := Γ.step h
  rw [← hg] at hs
  refine cpsC.mono hs ?_
  rintro m2 v w2 ⟨rfl, k2, a2, hk2, h2⟩
  clear hs h
  try walk_nrm
  refine cpsR_nil O ?_
  show cps _ _ _ _ _ _
  refine cps_seq O ?_
  refine Γ.alone h2 (by kernel_rfl) fun u hu => ?_
  have hu : SRep S N n a2 u := hu
  have hc := hu.topCell hi
  have Hu := Lib.hid hu
  clear hu
  go_wp2_with fail
  refine (aload _ _ _ hc).mono ?_
  rintro e u1 ⟨rfl, rfl⟩
  go_wp2
  refine ⟨a2, Hu.out, fun _ => Iff.rfl, Sm.refl _ _, fun w3 h3 => ?_⟩
  clear hc Hu h2
  show cps _ _ _ _ _ _
  have hr0 := Γ.rep _ _ _ _ _ h3
  obtain ⟨u0, hu0⟩ := hr0
  have hu0 : SRep S N n a2 u0 := hu0
  obtain ⟨ht1, ht2⟩ := hu0.top i
  have hn1 := hu0.stk.le
  have hand := and_low (a2.top i) ht1
  clear hu0
  obtain ⟨T, hT⟩ : ∃ T, T = a2.top i := ⟨_, rfl⟩
  rw [← hT] at ht1 ht2 hand ⊢
  by_cases hz : T % 4294967296 = 0
  · have hx : (stkJob S N n).exec (.t1 i K) a2 = (a2, .inr (.none K)) := by
      show SPos.exec (.t1 i K) a2 = _
      unfold SPos.exec
      simp only [← hT, hz, if_true]
      rfl
    rw [hx] at h3
    have hand : bits .and .u64 (T : Int) 4294967295 = 0 := by rw [hand, hz]; rfl
    have HT := Lib.hid hT
    clear hT hx
    refine cps_seq O ?_
    refine cps_seq O ?_
    (refine cps_region O ?_; simp only [List.size_toArray, List.length_cons, List.length_nil, Nat.reduceAdd, Nat.zero_add, List.range, List.range.loop])
    refine valE O Γ.P (.int .u64 T) rfl rfl (fun _ => by simp [go_sem]) (fun _ => by go_simp; try (first | rfl | (simp [*]))) ?_; try walk_nrm
    refine valE O Γ.P (.int .u64 0) rfl rfl (fun _ => by simp [go_sem]) (fun _ => by go_simp; try (first | rfl | (simp [*]))) ?_; try walk_nrm
    refine valE O Γ.P (.bool true) rfl rfl (fun _ => by simp [go_sem]) (fun _ => by go_simp; try (first | rfl | (simp [*]))) ?_; try walk_nrm
    refine cpsR_nil O ?_
    show cps _ _ _ _ _ _
    refine cps_cond O (v := true) rfl ?_
    simp only [if_true]
    refine cps_seq O ?_
    (refine cps_region O ?_; simp only [List.size_toArray, List.length_cons, List.length_nil, Nat.reduceAdd, Nat.zero_add, List.range, List.range.loop])
    refine valE O Γ.P (.int .u64 0) rfl rfl (fun _ => by simp [go_sem]) (fun _ => by go_simp; try (first | rfl | (simp [*]))) ?_; try walk_nrm
    refine valE O Γ.P (.bool false) rfl rfl (fun _ => by simp [go_sem]) (fun _ => by go_simp; try (first | rfl | (simp [*]))) ?_; try walk_nrm
    refine cpsR_nil O ?_
    refine cps_ret O (hQ _ _ _ _ ⟨.inr rfl, .tuple #[.int .u64 0, .bool false], ret2E O Γ.P rfl rfl, Hq0.out _ _ _ _ (by omega) h3⟩)
  · obtain ⟨j, hj⟩ : ∃ j, T % 4294967296 = j + 1 := ⟨T % 4294967296 - 1, by omega⟩
    have hjn : j < n := by omega
    have hx : (stkJob S N n).exec (.t1 i K) a2 = (a2, .inl (.t2 i T K)) := by
      show SPos.exec (.t1 i K) a2 = _
      unfold SPos.exec
      simp only [← hT, hz, if_false]
      rfl
    rw [hx] at h3
    have hand : bits .and .u64 (T : Int) 4294967295 = (j : Int) + 1 := by rw [hand, hj]; rfl
    have HT := Lib.hid hT
    clear hT hx
    refine cps_seq O ?_
    refine cps_seq O ?_
    (refine cps_region O ?_; simp only [List.size_toArray, List.length_cons, List.length_nil, Nat.reduceAdd, Nat.zero_add, List.range, List.range.loop])
    refine valE O Γ.P (.int .u64 T) rfl rfl (fun _ => by simp [go_sem]) (fun _ => by go_simp; try (first | rfl | (simp [*]))) ?_; try walk_nrm
    refine valE O Γ.P (.int .u64 ((j : Int) + 1)) rfl rfl (fun _ => by simp [go_sem]) (fun _ => by go_simp; try (first | rfl | (simp [*]))) ?_; try walk_nrm
    have hne : ((j : Int) + 1 == 0) = false := by simp; omega
    have hne2 : ¬ ((j : Int) + 1 = 0) := by omega
    refine valE O Γ.P (.bool false) rfl rfl (fun _ => by simp [go_sem]) (fun _ => by go_simp; try (first | rfl | (simp [*]))) ?_; try walk_nrm
    refine cpsR_nil O ?_
    show cps _ _ _ _ _ _
    refine cps_cond O (v := false) rfl ?_
    simp only [Bool.false_eq_true, if_false]
    refine cps_skip O ?_
    show cps _ _ _ _ _ _
    refine cps_seq O ?_
    (refine cps_region O ?_; simp only [List.size_toArray, List.length_cons, List.length_nil, Nat.reduceAdd, Nat.zero_add, List.range, List.range.loop])
    have hw1 : IntKind.u64.wrap ((j : Int) + 1 - 1) = (j : Int) := by rw [IntKind.wrap_u64]; omega
    have hw2 : IntKind.u64.wrap (j : Int) = (j : Int) := by rw [IntKind.wrap_u64]; omega
    refine valE O Γ.P (.int .u64 T) rfl rfl (fun _ => by simp [go_sem]) (fun _ => by go_simp; try (first | rfl | (simp [*]))) ?_; try walk_nrm
    refine valE O Γ.P (.int .u64 ((j : Int) + 1)) rfl rfl (fun _ => by simp [go_sem]) (fun _ => by go_simp; try (first | rfl | (simp [*]))) ?_; try walk_nrm
    refine valE O Γ.P (.int .u64 j) rfl rfl (fun _ => by simp [go_sem]) (fun _ => by go_simp; try (first | rfl | (simp [*]))) ?_; try walk_nrm
    refine valE O Γ.P (.int .u64 j) rfl rfl (fun _ => by simp [go_sem]) (fun _ => by go_simp; try (first | rfl | (simp [*]))) ?_; try walk_nrm
    refine cpsR_nil O ?_
    clear hw1 hw2 hne hne2
    show cps _ _ _ _ _ _
    refine cps_seq O ?_
    (refine cps_region O ?_; simp only [List.size_toArray, List.length_cons, List.length_nil, Nat.reduceAdd, Nat.zero_add, List.range, List.range.loop])
    refine valE O Γ.P (g) rfl rfl (fun _ => by simp [go_sem]) (fun _ => by go_simp; try (first | rfl | (simp [*]))) ?_; try walk_nrm
    refine valE O Γ.P (.int .u64 j) rfl rfl (fun _ => by simp [go_sem]) (fun _ => by go_simp; try (first | rfl | (simp [*]))) ?_; try walk_nrm
    refine callE O Γ.P (f := 67) (vals := #[.int .u64 j]) rfl rfl rfl Try.func67 rfl rfl rfl (nextWord_e O Γ.P j (by omega) ?_)
    try walk_nrm
    refine callE O Γ.P (f := 45) (vals := #[g, .int .u8 1, .int .i64 (2 + 2 * (j : Int))]) rfl rfl rfl Try.func45 rfl rfl rfl ?_
    have hm : (stkJob S N n).mark (.t2 i T K) = (1, 2 + 2 * (j : Int)) := mark_t2 (i := i) (K := K) hj
    have hs := Γ.step h3
    rw [← hg, hm] at hs
    refine cpsC.mono hs ?_
    rintro m4 v w4 ⟨rfl, k4, a4, hk4, h4⟩
    clear hs h3 hm
    try walk_nrm
    refine cpsR_nil O ?_
    show cps _ _ _ _ _ _
    have hx : (stkJob S N n).exec (.t2 i T K) a4 = (a4, .inl (.t3 i T (SSt.m a4 |>.getD (2 * j) 0) K)) := exec_t2 (i := i) (K := K) (a := a4) hj
    rw [hx] at h4
    clear hx
    obtain ⟨x4, hx4⟩ : ∃ x, x = (SSt.m a4).getD (2 * j) 0 := ⟨_, rfl⟩
    rw [← hx4] at h4
    refine cps_seq O ?_
    refine Γ.alone h4 (by kernel_rfl) fun u hu => ?_
    have hu : SRep S N n a4 u := hu
    have hcn := hu.nodes
    have hcw := hu.word (j := 2 * j) (by omega)
    have hcw2 : u.cell? ⟨N, j * 2, none⟩ = some (.int .u64 (x4 : Int)) := by rw [Nat.mul_comm, hx4]; exact hcw
    have Hx4 : Hid (x4 ≤ n) := Lib.hid (by
      have := hu.bn j (by rw [hu.stk.len]; omega)
      rw [hx4, List.getD_eq_getElem?_getD, List.getElem?_eq_getElem (by rw [hu.stk.len]; omega)]
      exact this)
    have Hu := Lib.hid hu
    clear hu hcw hx4
    have hjn2 : decide (j < n) = true := by simpa using hjn
    go_wp2_with fail
    refine (aload _ _ _ hcw2).mono ?_
    rintro e u1 ⟨rfl, rfl⟩
    go_wp2
    refine ⟨a4, Hu.out, fun _ => Iff.rfl, Sm.refl _ _, fun w5 h5 => ?_⟩
    clear hcn hcw2 h4
    have hx4 : x4 ≤ n := Hx4.out
    clear Hu
    show cps _ _ _ _ _ _
    refine cps_seq O ?_
    (refine cps_region O ?_; simp only [List.size_toArray, List.length_cons, List.length_nil, Nat.reduceAdd, Nat.zero_add, List.range, List.range.loop])
    refine valE O Γ.P (g) rfl rfl (fun _ => by simp [go_sem]) (fun _ => by go_simp; try (first | rfl | (simp [*]))) ?_; try walk_nrm
    refine valE O Γ.P (.int .i64 i) rfl rfl (fun _ => by simp [go_sem]) (fun _ => by go_simp; try (first | rfl | (simp [*]))) ?_; try walk_nrm
    refine callE O Γ.P (f := 45) (vals := #[g, .int .u8 5, .int .i64 i]) rfl rfl rfl Try.func45 rfl rfl rfl ?_
    have hs := Γ.step h5
    rw [← hg] at hs
    refine cpsC.mono hs ?_
    rintro m6 v w6 ⟨rfl, k6, a6, hk6, h6⟩
    clear hs h5
    try walk_nrm
    refine cpsR_nil O ?_
    show cps _ _ _ _ _ _
    have Hhj := Lib.hid hj
    by_cases ht : SSt.top a6 i = T
    · have hx : (stkJob S N n).exec (.t3 i T x4 K) a6 = (SSt.setTop a6 i (fol T x4), .inl (K.after j)) := exec_t3h (i := i) (K := K) (a := a6) hj ht
      rw [hx] at h6
      clear hx
      refine cps_seq O ?_
      refine cps_seq O ?_
      refine Gated.alone_n Γ h6 (by kernel_rfl) fun u hu => ?_
      have hc3 := hu.topCell hi
      rw [ht] at hc3
      have hf3 : u.frozen? ⟨S, i, none⟩ = false := hu.stk.rS.free i
      have hcn := hu.nodes
      have Hu := Lib.hid hu
      have Ht := Lib.hid ht
      clear hu ht
      go_region_with (first | (go_at_call 69; refine (follower_c T x4 ht1 (by omega) _).mono ?_; rintro e w' ⟨rfl, rfl⟩) | (go_at_call 68; refine (acas_hit _ _ _ u.drew hc3 hf3).mono ?_; rintro e w' ⟨rfl, rfl⟩))
      all_goals
        refine ⟨rfl, SSt.setTop a6 i (fol T x4), Hu.out.setTop hi (fol_lt _ _ (by omega)) (by rw [fol_low _ _ (by omega)]; exact hx4), (Sm.refl _ _).drew.setCell (.inl rfl) _, fun w7 h7 => ?_⟩
        show cps _ _ _ _ _ _
        refine cps_cond O (v := false) rfl ?_
        simp only [Bool.false_eq_true, if_false]
        refine cps_skip O ?_
        show cps _ _ _ _ _ _
        refine cps_seq O ?_
        (refine cps_region O ?_; simp only [List.size_toArray, List.length_cons, List.length_nil, Nat.reduceAdd, Nat.zero_add, List.range, List.range.loop])
        refine valE O Γ.P (.int .u64 j) rfl rfl (fun _ => by simp [go_sem]) (fun _ => by go_simp; try (first | rfl | (simp [*]))) ?_; try walk_nrm
        refine valE O Γ.P (.int .u64 j) rfl rfl (fun _ => by simp [go_sem]) (fun _ => by go_simp; try (first | rfl | (simp [*]))) ?_; try walk_nrm
        refine valE O Γ.P (.bool true) rfl rfl (fun _ => by simp [go_sem]) (fun _ => by go_simp; try (first | rfl | (simp [*]))) ?_; try walk_nrm
        refine cpsR_nil O ?_
        exact cps_ret O (hQ _ _ _ _ ⟨.inr rfl, .tuple #[.int .u64 j, .bool true], ret2E O Γ.P rfl rfl, Hq1.out _ _ _ _ j (by omega) hjn h7⟩)
    · have hx : (stkJob S N n).exec (.t3 i T x4 K) a6 = (a6, .inl (.t1 i K)) := exec_t3m (i := i) (K := K) (a := a6) ht
      rw [hx] at h6
      clear hx
      refine cps_seq O ?_
      refine cps_seq O ?_
      refine Gated.alone_n Γ h6 (by kernel_rfl) fun u hu => ?_
      have hc3 := hu.topCell hi
      obtain ⟨T6, hT6⟩ : ∃ T6, T6 = SSt.top a6 i := ⟨_, rfl⟩
      rw [← hT6] at hc3 ht
      clear hT6
      have hf3 : u.frozen? ⟨S, i, none⟩ = false := hu.stk.rS.free i
      have hcn := hu.nodes
      have hd : SRep S N n a6 u.drew := (stkJob S N n).frame a6 u u.drew (fun _ _ => rfl) hu
      have Hd := Lib.hid hd
      have Ht : Hid (¬ (T6 : Int) = (T : Int)) := Lib.hid (by omega)
      clear hu ht hd
      go_region_with (first | (go_at_call 69; refine (follower_c T x4 ht1 (by omega) _).mono ?_; rintro e w' ⟨rfl, rfl⟩) | (go_at_call 68; refine (acas_miss _ _ _ _ u.drew hc3 hf3 Ht.out).mono ?_; rintro e w' ⟨rfl, rfl⟩))
      all_goals
        refine ⟨rfl, a6, Hd.out, (Sm.refl _ _).drew, fun w7 h7 => ?_⟩
        show cps _ _ _ _ _ _
        refine cps_cond O (v := true) rfl (show cps _ (.exit 1) _ _ _ _ from cps_exit O ?_)
        refine ⟨k6, by omega, by omega, ⟨a6, h7⟩, ?_⟩
        repeat constructor
end
end Go.Proofs.Ytmcffabfghhpaaa
/- Plain words: a stack's give, in any company. No condition. -/
namespace Go.Proofs.Ytmcffabfghhpaaa
open Go.Conc Go.RowKit
section
variable {E : Env} {n : E.ι} {w : World}
theorem ret0E (O : E.Ok) (hP : E.P = Try.prog) {fn : Func} {t : Array Value} {w : World} (h : fn.results = #[]) : ∀ w₁, E.R w w₁ → ∃ es, (results fn t).runT E.P w₁ #[] = (.ok (.tuple #[]) w₁, es) ∧ E.D n w₁ w₁ es := fun w₁ _ => ⟨#[], by
  rw [hP, Sem.runT_eq, results_none h, events_results_none h], O.still _ _⟩
end
theorem exec_g1 {i j : Nat} {r : SRd} {a : SSt} : (SPos.g1 i j r).exec a = (a, .inl (.g2 i j (a.top i) r)) := rfl
theorem exec_g2 {i j T : Nat} {r : SRd} {a : SSt} : (SPos.g2 i j T r).exec a = ({ a with m := a.m.set (2 * j) (T % 4294967296) }, .inl (.g3 i j T r)) := rfl
theorem exec_g3h {i j T : Nat} {r : SRd} {a : SSt} (ht : a.top i = T) : (SPos.g3 i j T r).exec a = (a.setTop i (fol T (j + 1)), .inr (.done r)) := by simp [SPos.exec, ht]
theorem exec_g3m {i j T : Nat} {r : SRd} {a : SSt} (ht : ¬ a.top i = T) : (SPos.g3 i j T r).exec a = (a, .inl (.g1 i j r)) := by simp [SPos.exec, ht]
section
variable {S N n : Nat} (Γ : Gated (stkJob S N n))
theorem SRep.setWord {a : SSt} {u : World} (h : SRep S N n a u) {x v : Nat} (hx : x < 2 * n) (hv : v < 18446744073709551616) (hv' : x % 2 = 0 → v ≤ n) : SRep S N n { a with m := a.m.set x v } (u.setCell ⟨N, x, none⟩ (.int .u64 (v : Int))) := by
  have hk := h.stk
  refine ⟨{ hk with rS := hk.rS.set_ne (fun e => hk.ne e.symm) _, rN := by have := hk.rN.set x (.int .u64 (v : Int)); rw [uw_set] at this; exact this, len := by simpa using hk.len, nx := fun i hi => ?_ }, h.b0, h.b1, fun i hi => ?_, fun i hi => ?_⟩
  · simp only [List.length_set] at hi
    have hle := hk.le
    simp only [List.getElem_set]
    split
    · have := hv' (by omega); omega
    · have := h.bn i hi; omega
  · simp only [List.length_set] at hi
    simp only [List.getElem_set]
    split
    · exact hv' (by omega)
    · exact h.bn i hi
  · simp only [List.length_set] at hi
    simp only [List.getElem_set]
    split
    · exact hv
    · exact h.bv i hi
theorem SRep.drew {a : SSt} {u : World} (h : SRep S N n a u) : SRep S N n a u.drew := (stkJob S N n).frame a u u.drew (fun _ _ => rfl) h
set_option maxRecDepth 100000 in
set_option maxHeartbeats 4000000 in
/-- A give. -/
theorem give_e {i : Nat} (hi : i < 2) {j : Nat} (hj : j < n) {r : SRd} {m : Γ.E.ι} {k : Nat} {a : SSt} {w : World} (h : Γ.At m k a (a, .inl (.g1 i j r)) w) {Q : Γ.E.ι → Value → World → Prop}
    (hq : ∀ m' k' a' w', k' < k → Γ.At m' k' a' (a', .inr (.done r)) w' → Q m' (.tuple #[]) w') :
    cpsC Γ.E 47 #[.pointer (some ⟨S, 0, none⟩), Γ.gate, .int .i64 i, .int .u64 j] Q m w := by
  have O := Γ.ok
  obtain ⟨g, hg⟩ : ∃ g, g = Γ.gate := ⟨_, rfl⟩
  have hjn : j < 1024 := by
    obtain ⟨u0, hu0⟩ := Γ.rep _ _ _ _ _ h
    have hu0 : SRep S N n a u0 := hu0
    have := hu0.stk.le
    omega
  refine cpsC_body O (by rw [Γ.P]; exact Try.func47) rfl ?_
  simp only [Try.ntmps47]
  refine cps_opaque fun Q' hQ => ?_
  rw [← hg]
  walk_nrm
  refine cps_scope O ?_
  refine cps_seq O ?_
  refine cps_label O ?_
  show cps _ _ _ _ _ _
  refine cps_block O ?_
  refine cps_loopm O (fun k₁ m' t w' => ∃ (a' : SSt) (y8 y9 y10 y11 y12 y13 y14 y15 y16 y17 y18 y19 y20 y21 y22 y23 y24 y25 y26 y27 y28 y29 y30 y31 y32 y33 y34 y35 y36 y37 y38 y39 y40 y41 y42 y43 y44 y45 y46 : Value), k₁ ≤ k ∧ Γ.At m' k₁ a' (a', .inl (.g1 i j r)) w' ∧ t = #[.pointer (some ⟨S, 0, none⟩), g, .int .i64 i, .int .u64 j, undef, undef, undef, undef, y8, y9, y10, y11, y12, y13, y14, y15, y16, y17, y18, y19, y20, y21, y22, y23, y24, y25, y26, y27, y28, y29, y30, y31, y32, y33, y34, y35, y36, y37, y38, y39, y40, y41, y42, y43, y44, y45, y46]) ?_ (m := k) ⟨a, _, _, _, _, _, _, _, _, _, _, _, _, _, _, _, _, _, _, _, _, _, _, _, _, _, _, _, _, _, _, _, _, _, _, _, _, _, _, _, Nat.le_refl _, h, rfl⟩
  clear h
  rintro k₁ m' t w' ⟨a', y8, y9, y10, y11, y12, y13, y14, y15, y16, y17, y18, y19, y20, y21, y22, y23, y24, y25, y26, y27, y28, y29, y30, y31, y32, y33, y34, y35, y36, y37, y38, y39, y40, y41, y42, y43, y44, y45, y46, hk₁, h, rfl⟩
  have Hq := Lib.hid hq
  clear hq
  refine cps_block O ?_
  refine cps_seq O ?_
  (refine cps_region O ?_; simp only [List.size_toArray, List.length_cons, List.length_nil, Nat.reduceAdd, Nat.zero_add, List.range, List.range.loop])
  refine valE O Γ.P (g) rfl rfl (fun _ => by simp [go_sem]) (fun _ => by go_simp; try (first | rfl | (simp [*]))) ?_; try walk_nrm
  refine valE O Γ.P (.int .i64 i) rfl rfl (fun _ => by simp [go_sem]) (fun _ => by go_simp; try (first | rfl | (simp [*]))) ?_; try walk_nrm
  refine callE O Γ.P (f := 45) (vals := #[g, .int .u8 1, .int .i64 i]) rfl rfl rfl Try.func45 rfl rfl rfl ?_
  have hs := Γ.step h
  rw [← hg] at hs
  refine cpsC.mono hs ?_
  rintro m2 v w2 ⟨rfl, k2, a2, hk2, h2⟩
  clear hs h
  try walk_nrm
  refine cpsR_nil O ?_
  show cps _ _ _ _ _ _
  have hx : (stkJob S N n).exec (.g1 i j r) a2 = (a2, .inl (.g2 i j (SSt.top a2 i) r)) := exec_g1
  rw [hx] at h2
  clear hx
  obtain ⟨ht1, ht2⟩ : SSt.top a2 i < 18446744073709551616 ∧ SSt.top a2 i % 4294967296 ≤ n := by
    obtain ⟨u0, hu0⟩ := Γ.rep _ _ _ _ _ h2
    exact SRep.top hu0 i
  obtain ⟨T, hT⟩ : ∃ T, T = SSt.top a2 i := ⟨_, rfl⟩
  rw [← hT] at ht1 ht2 h2
  refine cps_seq O ?_
  refine Gated.alone_n Γ h2 (by kernel_rfl) fun u hu => ?_
  have hc := hu.topCell hi
  rw [← hT] at hc
  have Hu := Lib.hid hu
  clear hu hT
  go_wp2_with fail
  refine (aload _ _ _ hc).mono ?_
  rintro e u1 ⟨rfl, rfl⟩
  go_wp2
  refine ⟨rfl, a2, Hu.out, Sm.refl _ _, fun w3 h3 => ?_⟩
  clear hc Hu h2
  show cps _ _ _ _ _ _
  refine cps_seq O ?_
  (refine cps_region O ?_; simp only [List.size_toArray, List.length_cons, List.length_nil, Nat.reduceAdd, Nat.zero_add, List.range, List.range.loop])
  refine valE O Γ.P (g) rfl rfl (fun _ => by simp [go_sem]) (fun _ => by go_simp; try (first | rfl | (simp [*]))) ?_; try walk_nrm
  refine valE O Γ.P (.int .u64 j) rfl rfl (fun _ => by simp [go_sem]) (fun _ => by go_simp; try (first | rfl | (simp [*]))) ?_; try walk_nrm
  refine callE O Γ.P (f := 67) (vals := #[.int .u64 j]) rfl rfl rfl Try.func67 rfl rfl rfl (nextWord_e O Γ.P j (by omega) ?_)
  try walk_nrm
  refine callE O Γ.P (f := 45) (vals := #[g, .int .u8 2, .int .i64 (2 + 2 * (j : Int))]) rfl rfl rfl Try.func45 rfl rfl rfl ?_
  have hs := Γ.step h3
  rw [← hg] at hs
  refine cpsC.mono hs ?_
  rintro m4 v w4 ⟨rfl, k4, a4, hk4, h4⟩
  clear hs h3
  try walk_nrm
  refine cpsR_nil O ?_
  show cps _ _ _ _ _ _
  have hx : (stkJob S N n).exec (.g2 i j T r) a4 = ({ a4 with m := List.set (SSt.m a4) (2 * j) (T % 4294967296) }, .inl (.g3 i j T r)) := exec_g2
  rw [hx] at h4
  clear hx
  refine cps_seq O ?_
  refine Gated.alone_n Γ h4 (by kernel_rfl) fun u hu => ?_
  have hcn := hu.nodes
  have hcw2 : ∃ x, u.cell? ⟨N, j * 2, none⟩ = some x := ⟨_, by rw [Nat.mul_comm]; exact hu.word (j := 2 * j) (by omega)⟩
  obtain ⟨x4, hcw2⟩ := hcw2
  have hf2 : u.frozen? ⟨N, j * 2, none⟩ = false := hu.stk.rN.free _
  have hand : bits .and .u64 (T : Int) 4294967295 = ((T % 4294967296 : Nat) : Int) := and_low T ht1
  obtain ⟨lo, hlo⟩ : ∃ lo, lo = T % 4294967296 := ⟨_, rfl⟩
  rw [← hlo] at hand ht2 h4
  have Hu := Lib.hid hu
  have Hlo := Lib.hid hlo
  clear hu hlo
  have hjn2 : decide (j < n) = true := by simpa using hj
  go_wp2_with fail
  refine (astore _ _ _ _ hcw2 hf2).mono ?_
  rintro e u1 ⟨rfl, rfl⟩
  go_wp2
  have hlo := Hlo.out
  refine ⟨rfl, { a4 with m := List.set (SSt.m a4) (2 * j) (T % 4294967296) }, ?_, (Sm.refl _ _).setCell (.inr rfl) _, fun w5 h5 => ?_⟩
  · have := Hu.out.setWord (x := 2 * j) (v := lo) (by omega) (by omega) (fun _ => ht2)
    rw [Nat.mul_comm 2 j, hlo] at this
    rw [Nat.mul_comm 2 j, hlo]
    exact this
  rw [← hlo] at h5
  clear hcn hcw2 h4 hf2 hand
  clear Hu
  show cps _ _ _ _ _ _
  refine cps_seq O ?_
  (refine cps_region O ?_; simp only [List.size_toArray, List.length_cons, List.length_nil, Nat.reduceAdd, Nat.zero_add, List.range, List.range.loop])
  refine valE O Γ.P (g) rfl rfl (fun _ => by simp [go_sem]) (fun _ => by go_simp; try (first | rfl | (simp [*]))) ?_; try walk_nrm
  refine valE O Γ.P (.int .i64 i) rfl rfl (fun _ => by simp [go_sem]) (fun _ => by go_simp; try (first | rfl | (simp [*]))) ?_; try walk_nrm
  refine callE O Γ.P (f := 45) (vals := #[g, .int .u8 5, .int .i64 i]) rfl rfl rfl Try.func45 rfl rfl rfl ?_
  have hs := Γ.step h5
  rw [← hg] at hs
  refine cpsC.mono hs ?_
  rintro m6 v w6 ⟨rfl, k6, a6, hk6, h6⟩
  clear hs h5
  try walk_nrm
  refine cpsR_nil O ?_
  show cps _ _ _ _ _ _
  have hw1 : IntKind.u64.wrap ((j : Int) + 1) = (j : Int) + 1 := by rw [IntKind.wrap_u64]; omega
  by_cases ht : SSt.top a6 i = T
  · have hx : (stkJob S N n).exec (.g3 i j T r) a6 = (SSt.setTop a6 i (fol T (j + 1)), .inr (.done r)) := exec_g3h (i := i) (j := j) (r := r) (a := a6) ht
    rw [hx] at h6
    clear hx
    refine cps_seq O ?_
    refine cps_seq O ?_
    refine Gated.alone_n Γ h6 (by kernel_rfl) fun u hu => ?_
    have hc3 := hu.topCell hi
    rw [ht] at hc3
    have hf3 : u.frozen? ⟨S, i, none⟩ = false := hu.stk.rS.free i
    have Hu := Lib.hid hu
    have Ht := Lib.hid ht
    clear hu ht
    go_region_with (first | (go_at_call 69; refine (follower_s T j ht1 (by omega) _).mono ?_; rintro e w' ⟨rfl, rfl⟩) | (go_at_call 68; refine (acas_hit _ _ _ u.drew hc3 hf3).mono ?_; rintro e w' ⟨rfl, rfl⟩))
    all_goals
      refine ⟨rfl, SSt.setTop a6 i (fol T (j + 1)), Hu.out.setTop hi (fol_lt _ _ (by omega)) (by rw [fol_low _ _ (by omega)]; omega), (Sm.refl _ _).drew.setCell (.inl rfl) _, fun w7 h7 => ?_⟩
      show cps _ _ _ _ _ _
      refine cps_cond O (v := false) rfl ?_
      simp only [Bool.false_eq_true, if_false]
      refine cps_skip O ?_
      show cps _ _ _ _ _ _
      exact cps_ret O (hQ _ _ _ _ ⟨.inr rfl, .tuple #[], ret0E O Γ.P rfl, Hq.out _ _ _ _ (by omega) h7⟩)
  · have hx : (stkJob S N n).exec (.g3 i j T r) a6 = (a6, .inl (.g1 i j r)) := exec_g3m (i := i) (j := j) (r := r) (a := a6) ht
    rw [hx] at h6
    clear hx
    refine cps_seq O ?_
    refine cps_seq O ?_
    refine Gated.alone_n Γ h6 (by kernel_rfl) fun u hu => ?_
    have hc3 := hu.topCell hi
    obtain ⟨T6, hT6⟩ : ∃ T6, T6 = SSt.top a6 i := ⟨_, rfl⟩
    rw [← hT6] at hc3 ht
    clear hT6
    have hf3 : u.frozen? ⟨S, i, none⟩ = false := hu.stk.rS.free i
    have hd : SRep S N n a6 u.drew := hu.drew
    have Hd := Lib.hid hd
    have Ht : Hid (¬ (T6 : Int) = (T : Int)) := Lib.hid (by omega)
    clear hu ht hd
    go_region_with (first | (go_at_call 69; refine (follower_s T j ht1 (by omega) _).mono ?_; rintro e w' ⟨rfl, rfl⟩) | (go_at_call 68; refine (acas_miss _ _ _ _ u.drew hc3 hf3 Ht.out).mono ?_; rintro e w' ⟨rfl, rfl⟩))
    all_goals
      refine ⟨rfl, a6, Hd.out, (Sm.refl _ _).drew, fun w7 h7 => ?_⟩
      show cps _ _ _ _ _ _
      refine cps_cond O (v := true) rfl (show cps _ (.exit 1) _ _ _ _ from cps_exit O ?_)
      refine ⟨k6, by omega, a6, ?_⟩
      repeat (apply Exists.intro)
      refine ⟨by omega, h7, ?_⟩
      walk_nrm
      rw [← hg]
end
end Go.Proofs.Ytmcffabfghhpaaa
