/- Plain words: a play in which all have ended: the seats are shut. No condition. -/
import Derived.Test.YtdedmmjmiakidaaFwAH
import Derived.Conc.WgGenWait
set_option linter.unusedVariables false
set_option linter.unusedSimpArgs false
/- Plain words: a play in which all have ended: the seats are shut. No condition. -/
namespace Go.Proofs.Ytdedmmjmiakidaa
open Go.Conc Go.RowKit
open Go.ConcN (sumTo upd sumTo_upd upd_ne upd_same)
open Go.ConcR (KK wgBlock WgAt stA smA rd wr mk)
section
variable {X : Spec} {W : Machine → Trace → Prop} {Wg : Nat} {A : MI X} {w : World}
/-- Main beside goroutines that all leave: nothing stands any more. -/
def MI.over (A : MI X) : MI X := { A with θ := [], still := fun _ => False }
theorem PastW.drop {Still Sh Wg : Loc → Prop} {Mem Hear Loose : Nat → Prop} {B h : Nat} {t : Trace} (H : PastW Still Sh Wg Mem Hear Loose B h t) (hL : ∀ g, ¬ Loose g) : PastW (fun _ => False) Sh Wg Mem Hear Loose B h t :=
  ⟨H.clean, fun i a ha hm => (H.known i a ha hm).imp id (Or.imp (fun ⟨_, _, g, _, hl⟩ => absurd hl (hL g)) id), fun _ _ _ _ h => h.elim, H.hears, H.shut, H.seen⟩
theorem overM (hW : Back Try.prog W) (hA : A.Ok Wg) (hall : ∀ p ∈ A.thr, p.2 = none) {g : Goroutine} (h : (envM W X Wg).Go A.over g w) : (envM W X Wg).Go A g w :=
  goM fun w₁ hR ct gs T q B hsz hg => by
    have hno : ∀ x, A.seat Wg x = none := fun x => by
      cases e : A.seat Wg x with
      | none => rfl
      | some st =>
        obtain ⟨i, s, pc, n, _, hi, _⟩ := MI.seat_inv e
        have := hall _ (List.mem_of_getElem? hi)
        cases this
    refine winM (A := A.over) hW ⟨hA.pos, fun s hs => ?_, fun s hs => ?_, fun l hl => hl.elim⟩ (GoesI.rely envM_ok.rtrans h hR) ct gs T q ?_ hsz hg
    · obtain ⟨v, hv⟩ := hs; cases hv
    · obtain ⟨v, hv⟩ := hs; cases hv
    · have e4 : A.over.seat Wg = A.seat Wg := rfl
      rw [e4]
      refine ⟨fun x y hx hy => ?_, fun c hc => ?_, fun i s e => (by rw [hno] at e; cases e), B.inj, B.above, B.past.drop (fun g hl => hl.2 (hno g)), B.deaf, fun s hs => ?_, fun l hl => hl.elim, B.wg, B.few, B.ones, B.busy⟩
      · have := B.idle x y hx hy
        rw [hno] at this ⊢
        exact this
      · obtain ⟨s, hs, _⟩ := hc
        obtain ⟨v, hv⟩ := hs; cases hv
      · obtain ⟨v, hv⟩ := hs; cases hv
end
section
variable {Y : Core} {W : Machine → Trace → Prop} {Wg B0 pb rb off : Nat} {o₀ : Own} {A : MI Y.spec} {w : World} {σ : PSt Y} {γ : Nat → Y.Pg} {svs : List SV} {tr : List Turned} {a : Y.Full} {vs vt : Value}
/-- A play that is over, in memory; the first i seats are shut. -/
structure PE (Y : Core) (Wg B0 pb : Nat) (o₀ : Own) (a : Y.Full) (svs : List SV) (tr : List Turned) (vs vt : Value) (i : Nat) (w : World) : Prop where
  wg : ∃ st sm, WgAt tWg Wg w st sm
  mem : PMem B0 pb svs tr vs vt w
  old : Keeps o₀ w
  os : w.os = o₀.os
  out : w.output = o₀.out
  rep : Y.Rep a w
  foot : ∀ b, Y.foot a b → b ≠ Wg ∧ ¬ mineB o₀ pb vs vt b
  mine : ∀ b, mineB o₀ pb vs vt b → b ≠ Wg
  oc : ∀ b ob, o₀ b = some ob → b < B0 ∧ (b < Y.base ∨ ∀ cap buf cl x r t, ob ≠ .chan cap buf cl x r t)
  base : B0 ≤ pb
  seat : ∀ s ∈ svs, s.blk ≠ Wg ∧ (Wg < s.stop ∧ Y.base ≤ s.stop) ∧ w.heap[s.blk]? = some (.cells (seatCells s zx zy (.bool true)) tSeat (0, 0))
  stop : ∀ (j : Nat) (s : SV), svs[j]? = some s → i ≤ j → ∃ k, w.heap[s.stop]? = some (.chan 0 #[] false k k false)
  apart : ∀ (j k : Nat) (s s' : SV), svs[j]? = some s → svs[k]? = some s' → j ≠ k → s.stop ≠ s'.stop
theorem PE.keep {w' : World} {i i' : Nat} (h : PE Y Wg B0 pb o₀ a svs tr vs vt i w) (hwg : ∃ st sm, WgAt tWg Wg w' st sm) (hb : ∀ b, b ≠ Wg → (b < Y.base ∨ ∀ cap buf cl x r t, w.heap[b]? ≠ some (.chan cap buf cl x r t)) → b < w.heap.size → w'.heap[b]? = w.heap[b]?)
    (hst : ∀ (j : Nat) (s : SV), svs[j]? = some s → i' ≤ j → ∃ k, w'.heap[s.stop]? = some (.chan 0 #[] false k k false)) (hos : w'.os = w.os ∧ w'.output = w.output) : PE Y Wg B0 pb o₀ a svs tr vs vt i' w' := by
  have cell : ∀ {b c T}, w.heap[b]? = some (.cells c T (0, 0)) → b ≠ Wg → w'.heap[b]? = some (.cells c T (0, 0)) := fun hc hne => by
    rw [hb _ hne (.inr fun _ _ _ _ _ _ e => by rw [hc] at e; cases e) (Array.getElem?_eq_some_iff.1 hc).1]; exact hc
  refine ⟨hwg, ⟨cell h.mem.row (h.mine pb (.inr (.inl rfl))), ownsRow_of h.mem.seats fun b e => ?_, ownsRow_of h.mem.trace fun b e => ?_⟩, fun b ob hob => ?_, hos.1.trans h.os, hos.2.trans h.out, Y.frame a w w' (fun b hf => ?_) h.rep, h.foot, h.mine, h.oc, h.base, fun s hs => ⟨(h.seat s hs).1, (h.seat s hs).2.1, cell (h.seat s hs).2.2 (h.seat s hs).1⟩, hst, h.apart⟩
  · obtain ⟨_, c, hc⟩ := own_base h.mem.seats e
    rw [cell hc (h.mine b (.inr (.inr (.inl e))))]; exact hc.symm
  · obtain ⟨_, c, hc⟩ := own_base h.mem.trace e
    rw [cell hc (h.mine b (.inr (.inr (.inr e))))]; exact hc.symm
  · have h0 := h.old b ob hob
    rw [hb b (h.mine b (.inl (by rw [hob]; simp))) ((h.oc b ob hob).2.imp id fun hn _ _ _ _ _ _ e => by rw [h0] at e; exact hn _ _ _ _ _ _ (Option.some.inj e)) (Array.getElem?_eq_some_iff.1 h0).1]; exact h0
  · obtain ⟨ob, h1, h2, _⟩ := Y.real a w b h.rep hf
    exact hb b (h.foot b hf).1 (.inr fun _ _ _ _ _ _ e => by rw [h1] at e; exact h2 _ _ _ _ _ _ (Option.some.inj e)) (Array.getElem?_eq_some_iff.1 h1).1
theorem PE.rwg {w' : World} {i : Nat} (h : PE Y Wg B0 pb o₀ a svs tr vs vt i w) (hR : RWg tWg Wg w w') : PE Y Wg B0 pb o₀ a svs tr vs vt i w' :=
  h.keep (hR.wg h.wg) (fun b hb _ _ => hR.block b hb) (fun j s hj hi => by
    obtain ⟨k, hk⟩ := h.stop j s hj hi
    exact ⟨k, by rw [hR.block _ (Nat.ne_of_gt (h.seat s (List.mem_of_getElem? hj)).2.1.1)]; exact hk⟩) ⟨hR.os, hR.output⟩
/-- All have ended. -/
theorem LP.over (h : LP Wg B0 pb off o₀ A σ γ vs vt w) (hall : ∀ p ∈ A.thr, p.2 = none) : PE Y Wg B0 pb o₀ (σ.a, γ) (A.thr.map (·.1)) σ.tr vs vt 0 w := by
  have hu := spoil_ps (P := Try.prog) no_steps (real_of h.ok.off h.pk.wd.kt h.pk.wd.wg)
  obtain ⟨h1, h2⟩ := h.pk.rep _ hu
  have hF : ∀ b, Y.foot (σ.a, γ) b → ¬ inF Wg A.θ b := fun b hf hb => by
    obtain ⟨ob, e, _, e2⟩ := Y.real (σ.a, γ) _ b h1 hf
    rw [hu.bad b hb] at e
    exact e2 _ (Option.some.inj e).symm
  refine ⟨h.pk.wd.wg, h.pk.mem, h.keeps, h.pk.os, h.pk.out, Y.frame (σ.a, γ) _ w (fun b hf => (hu.heap b (hF b hf)).symm) h1, fun b hf => ⟨fun e => hF b hf (.inl e), fun hm => ?_⟩, fun b hb => h.pk.neW hb, fun b ob hob => ⟨(h.pk.old b ob hob).2, ?_⟩, h.pk.base, fun s hs => ?_, fun j s hj _ => ?_, fun j k s s' hj hk hne => ?_⟩
  · obtain ⟨ob, hob⟩ := mine_lt h.pk hm
    exact (h2.on b ob (snap_some.2 ⟨hm, hob⟩)).2.1 hf
  · exact (h2.on b ob (snap_some.2 ⟨.inl (by rw [hob]; simp), (h.pk.old b ob hob).1⟩)).2.2
  · obtain ⟨p, hp, rfl⟩ := List.mem_map.1 hs
    have hm : List.Mem (p.1, lastV Y.spec p.2) A.θ := by rw [h.θ]; exact List.mem_map.2 ⟨p, hp, rfl⟩
    have hoff := h.ok.off p.1 ⟨_, hm⟩
    rw [hall p hp] at hm
    exact ⟨hoff.1, ⟨hoff.2.2.2.1, Nat.le_trans h.pk.low' (Nat.le_of_lt hoff.2.2.2.1)⟩, h.pk.wd.lt _ _ _ _ hm⟩
  · rw [List.getElem?_map] at hj
    obtain ⟨p, hp, rfl⟩ := Option.map_eq_some_iff.1 hj
    exact h.pk.wd.ch _ ⟨p.1, h.lone.seats p (List.mem_of_getElem? hp), .inr (.inl rfl)⟩
  · rw [List.getElem?_map] at hj hk
    obtain ⟨p, hp, rfl⟩ := Option.map_eq_some_iff.1 hj
    obtain ⟨p', hp', rfl⟩ := Option.map_eq_some_iff.1 hk
    exact fun e => h.lone.two j k p p' hp hp' hne _ (.inr (.inl rfl)) (.inr (.inl e))
/-- The text in which the seats are shut. -/
noncomputable def c28 : Code := match (Try.f37.body.getD .skip) with
  | .seq _ (.seq _ (.seq _ (.seq _ (.seq _ (.seq _ (.seq _ (.seq _ (.seq c _)))))))) => c
  | c => c
theorem dh_close {A : MI Y.spec} {w w' : World} {c : Nat} (hθ : A.θ = []) (hcW : c ≠ Wg) (hl : c < w.heap.size) (hw' : w' = w.setChan c 0 #[] true 0 0 false ∨ ∃ k, w' = w.setChan c 0 #[] true k k false) : DH Wg (WgL Wg) (KT A.θ) A.still (isCh A.θ) w w' #[⟨.obj c, false, true⟩, ⟨.obj c, true, true⟩] := by
  have hw : ∃ k, w' = w.setChan c 0 #[] true k k false := hw'.elim (fun e => ⟨0, e⟩) id
  obtain ⟨k, rfl⟩ := hw
  refine ⟨fun c' k' hc' => ?_, ?_, fun _ s hs => ?_, ?_, fun e he => ?_⟩
  · obtain ⟨s, hs, _⟩ := hc'
    rw [hθ] at hs
    obtain ⟨v, hv⟩ := hs; cases hv
  · simp only [World.setChan]
    rw [Array.getElem?_setIfInBounds_ne hcW]
  · rw [hθ] at hs
    obtain ⟨v, hv⟩ := hs; cases hv
  · simp [World.setChan]
  · have hsz : c < (w.setChan c 0 #[] true k k false).heap.size := by simp [World.setChan, hl]
    simp only [List.mem_toArray, List.mem_cons, List.not_mem_nil, or_false] at he
    rcases he with rfl | rfl
    · refine ⟨fun q hq => ?_, by simp, by simp, hsz⟩
      simp [MemAct.ofEvent, MemAct.touch?] at hq
      subst hq
      exact ⟨fun _ => rfl, fun h => by obtain ⟨a, e, _⟩ := h; cases e⟩
    · exact ⟨fun q hq => (by simp [MemAct.ofEvent, MemAct.touch?] at hq), by simp, by simp, hsz⟩
set_option maxRecDepth 100000 in
set_option maxHeartbeats 8000000 in
theorem close_c (hW : Back Try.prog W) (hA : A.Ok Wg) (hAθ : A.θ = []) (h : PE Y Wg B0 pb o₀ a svs tr vs vt 0 w) (h16 : svs.length ≤ 16)
    {x0 x1 x2 x3 x5 x6 x9 x10 x11 x12 x13 x14 x15 x16 x17 x18 x19 x20 x21 x22 x23 x24 x25 x26 x27 x28 x29 x30 x31 x32 x33 x34 x35 x36 x37 x38 x39 x40 x41 x42 x43 x44 x45 x46 x47 x48 x49 x50 x51 x52 x53 x54 x55 x56 x57 x58 x59 x60 x61 x62 x63 x64 x65 x66 x67 x68 x69 x70 x71 x72 x73 x74 x75 x76 x77 x78 x79 x80 x81 x82 x83 x84 x85 x86 x87 x88 x89 x90 x91 x92 x93 x94 x95 x96 x97 x98 x99 x100 : Value} {Q : MI Y.spec → Exit → Array Value → World → Prop}
    (hq : ∀ w' y71 y72 y73 y74 y75 y76 y77 y78 y16 y17 y79 y80 y81 y82 y83 y84 y93 y94 y95 y96 y97, PE Y Wg B0 pb o₀ a svs tr vs vt svs.length w' → Q A .normal #[x0, x1, x2, x3, .pointer (some ⟨rb, 0, none⟩), x5, x6, .pointer (some ⟨Wg, 0, none⟩), .pointer (some ⟨pb, 0, none⟩), x9, x10, x11, x12, x13, x14, x15, y16, y17, x18, x19, x20, x21, x22, x23, x24, x25, x26, x27, x28, x29, x30, x31, x32, x33, x34, x35, x36, x37, x38, x39, x40, x41, x42, x43, x44, x45, x46, x47, x48, x49, x50, x51, x52, x53, x54, x55, x56, x57, x58, x59, x60, x61, x62, x63, x64, x65, x66, x67, x68, x69, x70, y71, y72, y73, y74, y75, y76, y77, y78, y79, y80, y81, y82, y83, y84, x85, x86, x87, x88, x89, x90, x91, x92, y93, y94, y95, y96, y97, x98, x99, x100] w') :
    cps (envM W Y.spec Wg) c28 Q A #[x0, x1, x2, x3, .pointer (some ⟨rb, 0, none⟩), x5, x6, .pointer (some ⟨Wg, 0, none⟩), .pointer (some ⟨pb, 0, none⟩), x9, x10, x11, x12, x13, x14, x15, x16, x17, x18, x19, x20, x21, x22, x23, x24, x25, x26, x27, x28, x29, x30, x31, x32, x33, x34, x35, x36, x37, x38, x39, x40, x41, x42, x43, x44, x45, x46, x47, x48, x49, x50, x51, x52, x53, x54, x55, x56, x57, x58, x59, x60, x61, x62, x63, x64, x65, x66, x67, x68, x69, x70, x71, x72, x73, x74, x75, x76, x77, x78, x79, x80, x81, x82, x83, x84, x85, x86, x87, x88, x89, x90, x91, x92, x93, x94, x95, x96, x97, x98, x99, x100] w := by
  have O := envM_ok (W := W) (X := Y.spec) (Wg := Wg)
  have hpW : pb ≠ Wg := h.mine pb (.inr (.inl rfl))
  obtain ⟨av, cv, hvs⟩ := own_form0 h.mem.seats
  have Hq := Lib.hid hq
  have Hθ := Lib.hid hAθ
  clear hq hAθ
  simp only [c28, Try.f37, Option.getD_some]
  subst hvs
  have hp0 : w.cell? ⟨pb, 0, none⟩ = some (.slice av svs.length cv) := by
    have := h.mem.row
    simp [World.cell?, this]
  try walk_nrm
  refine cps_seq O ?_
  (refine cps_region O ?_; simp only [List.size_toArray, List.length_cons, List.length_nil, Nat.reduceAdd, Nat.zero_add, List.range, List.range.loop])
  refine valR (.pointer (some ⟨pb, 0, none⟩)) rfl rfl (fun _ => by simp [go_sem]) (fun _ => by go_simp; try (first | rfl | (simp [*]))) ?_; try walk_nrm
  refine readR (ad := ⟨pb, 0, none⟩) (v := .slice av svs.length cv) hpW hp0 rfl rfl (fun w₁ hc => by simp [go_sem, hc]) (fun w₁ hc => by go_simp) ?_; try walk_nrm
  refine valR (.int .i64 svs.length) rfl rfl (fun _ => by simp [go_sem]) (fun _ => by go_simp; try (first | rfl | (simp [*]))) ?_; try walk_nrm
  refine valR (.int .i64 0) rfl rfl (fun _ => by simp [go_sem]) (fun _ => by go_simp; try (first | rfl | (simp [*]))) ?_; try walk_nrm
  refine cpsR_nil O ?_
  clear hp0
  show cps _ _ _ _ _ _
  refine cps_block O ?_
  refine cps_loopm O (fun m A' t w' => A' = A ∧ ∃ (i : Nat) (y71 y75 y76 y77 y78 y16 y17 y79 y80 y81 y82 y83 y84 y93 y94 y95 y96 y97 : Value), m + i = svs.length ∧ PE Y Wg B0 pb o₀ a svs tr (.slice av svs.length cv) vt i w' ∧ t = #[x0, x1, x2, x3, .pointer (some ⟨rb, 0, none⟩), x5, x6, .pointer (some ⟨Wg, 0, none⟩), .pointer (some ⟨pb, 0, none⟩), x9, x10, x11, x12, x13, x14, x15, y16, y17, x18, x19, x20, x21, x22, x23, x24, x25, x26, x27, x28, x29, x30, x31, x32, x33, x34, x35, x36, x37, x38, x39, x40, x41, x42, x43, x44, x45, x46, x47, x48, x49, x50, x51, x52, x53, x54, x55, x56, x57, x58, x59, x60, x61, x62, x63, x64, x65, x66, x67, x68, x69, x70, y71, .slice av svs.length cv, .int .i64 svs.length, .int .i64 i, y75, y76, y77, y78, y79, y80, y81, y82, y83, y84, x85, x86, x87, x88, x89, x90, x91, x92, y93, y94, y95, y96, y97, x98, x99, x100]) ?_ (m := svs.length) ⟨rfl, 0, _, _, _, _, _, _, _, _, _, _, _, _, _, _, _, _, _, _, rfl, h, rfl⟩
  rintro m A' t w' ⟨rfl, i, y71, y75, y76, y77, y78, y16, y17, y79, y80, y81, y82, y83, y84, y93, y94, y95, y96, y97, hmi, hL, rfl⟩
  have HL := Lib.hid hL
  clear hL h
  by_cases hi : i < svs.length
  · have h1 : decide (i < svs.length) = true := by simpa using hi
    have h2 : decide ((i : Int) < (svs.length : Int)) = true := by simp; omega
    obtain ⟨s, hs⟩ : ∃ s, svs[i]? = some s := ⟨_, List.getElem?_eq_getElem hi⟩
    obtain ⟨hsW, ⟨hstW', _⟩, hrow⟩ := HL.out.seat s (List.mem_of_getElem? hs)
    have hstW := Nat.ne_of_gt hstW'
    obtain ⟨kc, hch⟩ := HL.out.stop i s hs (Nat.le_refl _)
    obtain ⟨g, cap, e⟩ := own_form HL.out.mem.seats (by omega)
    cases e
    have hgi : w'.cell? ⟨g, i, none⟩ = some (.pointer (some ⟨s.blk, 0, none⟩)) := by
      have hc := HL.out.mem.seats.cells (g := g) rfl i (.pointer (some ⟨s.blk, 0, none⟩)) (by simp [hs])
      have e : ((⟨g, 0, none⟩ : Addr).add i) = ⟨g, i, none⟩ := by
        unfold Addr.add
        split <;> simp_all
      rw [e] at hc
      exact hc
    have hgW : g ≠ Wg := HL.out.mine g (.inr (.inr (.inl rfl)))
    have hz : w'.cell? ⟨s.blk, 5, none⟩ = some (.bool true) := by simp [World.cell?, hrow, seatCells]
    have hz1 : w'.cell? ⟨s.blk, 1, none⟩ = some (.chan (some s.stop)) := by simp [World.cell?, hrow, seatCells]
    have h4 : decide (i < svs.length) = true := by simpa using hi
    have h7 : i < svs.length := hi
    have h8 : (i : Int) < svs.length := by omega
    have Hs := Lib.hid hs
    have Hch := Lib.hid hch
    clear hs hch hrow
    refine cps_seq O ?_
    (refine cps_region O ?_; simp only [List.size_toArray, List.length_cons, List.length_nil, Nat.reduceAdd, Nat.zero_add, List.range, List.range.loop])
    refine valR (.bool true) rfl rfl (fun _ => by simp [go_sem]) (fun _ => by go_simp; try (first | rfl | (simp [*]))) ?_; try walk_nrm
    refine cpsR_nil O ?_
    show cps _ _ _ _ _ _
    refine cps_seq O ?_
    refine cps_cond O (v := true) rfl ?_
    simp only [if_true]
    refine cps_skip O ?_
    show cps _ _ _ _ _ _
    refine cps_seq O ?_
    refine cps_block O ?_
    refine cps_seq O ?_
    (refine cps_region O ?_; simp only [List.size_toArray, List.length_cons, List.length_nil, Nat.reduceAdd, Nat.zero_add, List.range, List.range.loop])
    refine valR (.int .i64 i) rfl rfl (fun _ => by simp [go_sem]) (fun _ => by go_simp; try (first | rfl | (simp [*]))) ?_; try walk_nrm
    refine valR (.pointer (some ⟨g, i, none⟩)) rfl rfl (fun _ => by simp [go_sem, *]) (fun _ => by go_simp; try (first | rfl | (simp [*]))) ?_; try walk_nrm
    refine readR (ad := ⟨g, i, none⟩) (v := .pointer (some ⟨s.blk, 0, none⟩)) hgW hgi rfl rfl (fun w₁ hc => by simp [go_sem, hc]) (fun w₁ hc => by go_simp) ?_; try walk_nrm
    refine valR (.int .i64 i) rfl rfl (fun _ => by simp [go_sem]) (fun _ => by go_simp; try (first | rfl | (simp [*]))) ?_; try walk_nrm
    refine valR (.pointer (some ⟨s.blk, 0, none⟩)) rfl rfl (fun _ => by simp [go_sem]) (fun _ => by go_simp; try (first | rfl | (simp [*]))) ?_; try walk_nrm
    refine cpsR_nil O ?_
    show cps _ _ _ _ _ _
    refine cps_seq O ?_
    refine cps_seq O ?_
    (refine cps_region O ?_; simp only [List.size_toArray, List.length_cons, List.length_nil, Nat.reduceAdd, Nat.zero_add, List.range, List.range.loop])
    refine valR (.pointer (some ⟨s.blk, 0, none⟩)) rfl rfl (fun _ => by simp [go_sem]) (fun _ => by go_simp; try (first | rfl | (simp [*]))) ?_; try walk_nrm
    refine valR (.pointer (some ⟨s.blk, 0, none⟩)) rfl rfl (fun _ => by simp [go_sem]) (fun _ => by go_simp; try (first | rfl | (simp [*]))) ?_; try walk_nrm
    refine valR (.pointer (some ⟨s.blk, 3, none⟩)) rfl rfl (fun _ => by simp [go_sem]) (fun _ => by go_simp; try (first | rfl | (simp [*]))) ?_; try walk_nrm
    refine valR (.pointer (some ⟨s.blk, 5, none⟩)) rfl rfl (fun _ => by simp [go_sem]) (fun _ => by go_simp; try (first | rfl | (simp [*]))) ?_; try walk_nrm
    refine readR (ad := ⟨s.blk, 5, none⟩) (v := .bool true) hsW hz rfl rfl (fun w₁ hc => by simp [go_sem, hc]) (fun w₁ hc => by go_simp) ?_; try walk_nrm
    refine valR (.bool false) rfl rfl (fun _ => by simp [go_sem]) (fun _ => by go_simp; try (first | rfl | (simp [*]))) ?_; try walk_nrm
    refine cpsR_nil O ?_
    show cps _ _ _ _ _ _
    refine cps_cond O (v := false) rfl ?_
    simp only [Bool.false_eq_true, if_false]
    refine cps_skip O ?_
    show cps _ _ _ _ _ _
    (refine cps_region O ?_; simp only [List.size_toArray, List.length_cons, List.length_nil, Nat.reduceAdd, Nat.zero_add, List.range, List.range.loop])
    refine valR (.pointer (some ⟨s.blk, 0, none⟩)) rfl rfl (fun _ => by simp [go_sem]) (fun _ => by go_simp; try (first | rfl | (simp [*]))) ?_; try walk_nrm
    refine valR (.pointer (some ⟨s.blk, 0, none⟩)) rfl rfl (fun _ => by simp [go_sem]) (fun _ => by go_simp; try (first | rfl | (simp [*]))) ?_; try walk_nrm
    refine valR (.pointer (some ⟨s.blk, 1, none⟩)) rfl rfl (fun _ => by simp [go_sem]) (fun _ => by go_simp; try (first | rfl | (simp [*]))) ?_; try walk_nrm
    refine readR (ad := ⟨s.blk, 1, none⟩) (v := .chan (some s.stop)) hsW hz1 rfl rfl (fun w₁ hc => by simp [go_sem, hc]) (fun w₁ hc => by go_simp) ?_; try walk_nrm
    refine anyR rfl rfl fun w₁ hR => ?_
    have hch1 : w₁.heap[s.stop]? = some (.chan 0 #[] false kc kc false) := by rw [hR.block _ hstW]; exact Hch.out
    refine ⟨.tuple #[], w₁.setChan s.stop 0 #[] true kc kc false, #[⟨.obj s.stop, false, true⟩, ⟨.obj s.stop, true, true⟩], .inl ?_, dh_close Hθ.out hstW (Array.getElem?_eq_some_iff.1 hch1).1 (.inr ⟨kc, rfl⟩), ?_⟩
    · rw [Sem.runT_eq]
      have hr := run_close_open (P := Try.prog) (w := w₁) #[158] 0 hch1
      have he := events_close_open (P := Try.prog) (w := w₁) (es := #[]) #[158] 0 hch1
      refine Prod.ext ?_ ?_
      · simp [go_sem, hr]
        rfl
      · simp [go_sem, he]
    have hL1 := HL.out.rwg hR
    have hL2 : PE Y Wg B0 pb o₀ a svs tr (.slice (some ⟨g, 0, none⟩) svs.length cv) vt (i + 1) (w₁.setChan s.stop 0 #[] true kc kc false) := by
      have hsame : ∀ b, b ≠ s.stop → (w₁.setChan s.stop 0 #[] true kc kc false).heap[b]? = w₁.heap[b]? := fun b hb => by
        simp only [World.setChan]
        rw [Array.getElem?_setIfInBounds_ne (fun e => hb e.symm)]
      refine hL1.keep ?_ (fun b hb hnc _ => hsame b fun e => ?_) (fun j s' hj hji => ?_) ⟨rfl, rfl⟩
      · obtain ⟨st, sm, hw⟩ := hL1.wg
        refine ⟨st, sm, ?_⟩
        unfold WgAt at *
        rw [hsame Wg hstW.symm]; exact hw
      · subst e; exact hnc.elim (fun hl => by have := (hL1.seat s (List.mem_of_getElem? Hs.out)).2.1.2; omega) fun hnc => hnc _ _ _ _ _ _ hch1
      · obtain ⟨k, hk⟩ := hL1.stop j s' hj (by omega)
        exact ⟨k, by rw [hsame _ (hL1.apart j i s' s hj Hs.out (by omega))]; exact hk⟩
    have HL2 := Lib.hid hL2
    clear hL1 hL2 hch1
    try walk_nrm
    refine cpsR_nil O ?_
    show cps _ _ _ _ _ _
    (refine cps_region O ?_; simp only [List.size_toArray, List.length_cons, List.length_nil, Nat.reduceAdd, Nat.zero_add, List.range, List.range.loop])
    have hw1 := wrap_i64 ((i : Int) + 1) (by omega) (by omega)
    refine valR (.int .i64 (i + 1)) rfl rfl (fun _ => by simp [go_sem]) (fun _ => by go_simp; try (first | rfl | (simp [*]))) ?_; try walk_nrm
    refine valR (.int .i64 (i + 1)) rfl rfl (fun _ => by simp [go_sem]) (fun _ => by go_simp; try (first | rfl | (simp [*]))) ?_; try walk_nrm
    refine cpsR_nil O ?_
    exact ⟨m - 1, by omega, rfl, i + 1, _, _, _, _, _, _, _, _, _, _, _, _, _, _, _, _, _, _, by omega, HL2.out, rfl⟩
  · have h1 : decide (i < svs.length) = false := by simpa using hi
    have h2 : decide ((i : Int) < (svs.length : Int)) = false := by simp; omega
    refine cps_seq O ?_
    (refine cps_region O ?_; simp only [List.size_toArray, List.length_cons, List.length_nil, Nat.reduceAdd, Nat.zero_add, List.range, List.range.loop])
    refine valR (.bool false) rfl rfl (fun _ => by simp [go_sem]) (fun _ => by go_simp; try (first | rfl | (simp [*]))) ?_; try walk_nrm
    refine cpsR_nil O ?_
    show cps _ _ _ _ _ _
    refine cps_seq O ?_
    refine cps_cond O (v := false) rfl ?_
    simp only [Bool.false_eq_true, if_false]
    refine cps_exit O ?_
    have hei : i = svs.length := by omega
    have hL' := HL.out
    rw [hei] at hL'
    exact Hq.out w' _ _ _ _ _ _ _ _ _ _ _ _ _ _ _ _ _ _ _ _ _ hL'
end
end Go.Proofs.Ytdedmmjmiakidaa
/- Plain words: goroutine 0 waits for the group. No condition. -/
namespace Go.Proofs.Ytdedmmjmiakidaa
open Go.Conc Go.RowKit Go.Conc.Lib Go.ConcR.Gen Go.ConcN.Gen
open Go.ConcN (sumTo upd sumTo_upd upd_ne upd_same)
open Go.ConcR (KK wgBlock WgAt stA smA rd wr mk)
/-- At most so many are counted; how deaf it is; whether it has said that it waits; how many goroutines there are. -/
structure WX where
  m : Nat
  d : Nat
  b : Bool
  N : Nat
/-- From here all is well. -/
def StW (W : Machine → Trace → Prop) (Wg : Nat) (x : WX) (g : Goroutine) (w : World) : Prop :=
  ∀ ph gs T q, WB Try.prog tWg Wg (WgL Wg) x.m x.d x.b x.N ph gs T w q → gs[0]? = some g → Win W gs w T
noncomputable def envW (W : Machine → Trace → Prop) (Wg : Nat) : Env where
  P := Try.prog
  main := true
  R := RWg tWg Wg
  ι := WX
  D := fun _ => DH Wg (WgL Wg) (fun _ => True) (fun _ => False) (fun _ => False)
  le := fun _ _ => True
  St := fun x => StW W Wg x
  cs := fun _ => True
section
variable {W : Machine → Trace → Prop} {Wg : Nat} {x : WX} {w : World}
theorem envW_ok : (envW W Wg).Ok where
  rrefl := RWg.refl
  rtrans := RWg.trans
  lrefl := fun _ => trivial
  ltrans := fun _ _ _ _ _ => trivial
  still := fun n w => ⟨fun _ _ _ h => h, rfl, id, Nat.le_refl _, by simp⟩
  draw := fun n w => ⟨fun _ _ _ h => h, rfl, fun _ => trivial, Nat.le_refl _, by simp⟩
  rdraw := fun w w₁ h => RWg.trans _ _ _ h (RWg.at w₁ _)
  sub := fun n w w' es es' h hs => ⟨h.ch, h.wg, h.keep, h.size, fun e he => h.ev e (hs e he)⟩
  push := fun _ _ _ _ _ _ _ => trivial
theorem winW (hW : Back Try.prog W) (hm : x.m < 2147483647) {g : Goroutine} (h : (envW W Wg).Go x g w) : StW W Wg x g w := fun ph gs T q B hg => by
  have hmono : ∀ ph gs T w q m', sumTo x.N (cnt4 ph) ≤ m' → WB Try.prog tWg Wg (WgL Wg) x.m x.d x.b x.N ph gs T w q → WB Try.prog tWg Wg (WgL Wg) m' x.d x.b x.N ph gs T w q := fun ph gs T w q m' h B => ⟨B.size, B.idle, B.above, B.zero, B.past, B.deaf, B.wg, h⟩
  refine whold_walk hm hW (fun _ h => h) h ph gs T w q (RWg.refl w) B hg fun ph gs' a' w' T' q' hst B' ha' => hst ph gs' T' q' B' ha'
theorem goW {g : Goroutine} (h : ∀ w₁, RWg tWg Wg w w₁ → StW W Wg x g w₁) : (envW W Wg).Go x g w := GoesI.stop h
/-- A step that touches the group, or makes it deaf or hearing. -/
theorem opW (hW : Back Try.prog W) (hm : x.m < 2147483647) {a : Goroutine} (hr : a.status = .running)
    (k : ∀ w₁ ph st sm, RWg tWg Wg w w₁ → WgAt tWg Wg w₁ st sm → WMode x.N ph x.b st sm → sumTo x.N (cnt4 ph) ≤ x.m → ∃ a' w' es d' b' m', stepG Try.prog true a w₁ = .go a' w' es ∧ w₁.heap.size ≤ w'.heap.size ∧ (∃ st sm, WgAt tWg Wg w' st sm ∧ WMode x.N ph b' st sm) ∧ deafBehind x.d es = d' ∧ sumTo x.N (cnt4 ph) ≤ m' ∧ m' ≤ x.m ∧
      (∀ e ∈ es, (∀ y, (MemAct.ofEvent e).touch? = some y → WgL Wg y.loc → y.kind ≠ .plain) ∧ (MemAct.ofEvent e).low w'.heap.size) ∧ (envW W Wg).Go ⟨m', d', b', x.N⟩ a' w') : (envW W Wg).Go x a w := goW fun w0 hR0 ph gs T q B hg => by
  refine wop hm hW (fun _ h => h) hr hg B fun w₁ ph₁ st sm hR hwg hmode hfew => ?_
  obtain ⟨a', w', es, d', b', m', hst, hsz, hwg', hd, hm', hle, hev, hG⟩ := k w₁ ph₁ st sm (RWg.trans _ _ _ hR0 hR) hwg hmode hfew
  refine ⟨a', w', es, d', b', hst, hsz, hwg', hd, hev, fun gs' T' q' B' ha' => ?_⟩
  exact winW (x := ⟨m', d', b', x.N⟩) hW (Nat.lt_of_le_of_lt hle hm) hG ph₁ gs' T' q' ⟨B'.size, B'.idle, B'.above, B'.zero, B'.past, B'.deaf, B'.wg, hm'⟩ ha'
/-- A mark. -/
theorem markW (hW : Back Try.prog W) (hm : x.m < 2147483647) {a a' : Goroutine} (hr : a.status = .running) {es : Array Event} {d' : Nat} (hwg : ∃ st sm, WgAt tWg Wg w st sm) (hst : ∀ w₁, stepG Try.prog true a w₁ = .go a' w₁ es) (hd : deafBehind x.d es = d')
    (hev : ∀ n, Wg < n → ∀ e ∈ es, (∀ y, (MemAct.ofEvent e).touch? = some y → WgL Wg y.loc → y.kind ≠ .plain) ∧ (MemAct.ofEvent e).low n) (h : (envW W Wg).Go { x with d := d' } a' w) : (envW W Wg).Go x a w :=
  opW hW hm hr fun w₁ ph st sm hR hwg hmode hfew => ⟨a', w₁, es, d', x.b, x.m, hst w₁, Nat.le_refl _, ⟨st, sm, hwg, hmode⟩, hd, hfew, Nat.le_refl _, hev _ (Array.getElem?_eq_some_iff.1 hwg).1, GoesI.rely envW_ok.rtrans h hR⟩
/-- It sleeps until the last one has left. -/
theorem blockW (hW : Back Try.prog W) (hm : x.m < 2147483647) (hb : x.b = true) {a a' : Goroutine} (hoff : a.offers = none) (hrun : a.status = .running)
    (hwait : ∀ w₁ st, WgAt tWg Wg w₁ st 0 → stepG Try.prog true a w₁ = .go { a with status := .blocked } w₁ #[])
    (hgo : ∀ w₁, WgAt tWg Wg w₁ 0 1 → stepG Try.prog true a w₁ = .go a' (w₁.setCell (smA Wg) (.int .u32 0)) (semEvents (smA Wg)))
    (h : (envW W Wg).Go ⟨0, x.d, false, x.N⟩ a' w) : (envW W Wg).Go x a w := goW fun w0 hR0 ph gs T q B hg => by
  obtain ⟨m, d, b, N⟩ := x
  subst hb
  have h0 := GoesI.rely envW_ok.rtrans h hR0
  refine wblocked (w := w0) (a' := a') hm hW (fun _ h => h) hoff hrun (fun w₁ st _ hw => hwait w₁ st hw) (fun w₁ _ hw => hgo w₁ hw) (fun gs T w₁ q hR B ha => ?_) _ true ph gs T w0 q (RWg.refl _) (Nat.le_refl _) (by simp) B hg
  exact winW (x := ⟨0, d, false, N⟩) hW (show (0 : Nat) < 2147483647 by decide) (GoesI.rely envW_ok.rtrans h0 hR) _ gs T q ⟨B.size, B.idle, B.above, B.zero, B.past, B.deaf, B.wg, by rw [cnt4_none]; exact Nat.le_refl _⟩ ha
theorem goI_pureW {b : Frame} {a : Act} {k : List Item} {cs : List Frame} {ops : Array Oper} {i : Nat} {l : List Nat} {o : Oper} (ho : ops[i]? = some o) (hw : Region.wanted o (yielded ops a.tmps) = true) (hke : b.kind ≠ .early) (he : ∀ w₁, (execOp a.eval o).events Try.prog w₁ #[] = #[])
    (h : ∀ w₁, ∀ K' : Act → Prop, (∀ a', (envW W Wg).Go x (G (b.at a' (.inRegion ops l :: k)) cs) w → K' a') → uponK o a (fun a' w' => w' = w₁ ∧ K' a') ((execOp a.eval o).run Try.prog w₁)) : (envW W Wg).Go x (G (b.at a (.inRegion ops (i :: l) :: k)) cs) w :=
  goI_pure envW_ok ho hw hke he h
theorem callW {b : Frame} {a : Act} {k : List Item} {cs : List Frame} {ops : Array Oper} {i : Nat} {rest : List Nat} {o : Oper} {f : FuncId} {fn : Func} {c : Code} {args : Array Operand} {ats : Array TypeId}
    (ho : ops[i]? = some o) (hw : Region.wanted o (yielded ops a.tmps) = true) (hk : b.kind ≠ .early) (hop : o.op = .call { callee := .value (.func f), args, argTypes := ats })
    (hf : Try.prog.funcs[f]? = some fn) (hname : (fn.name == "runtime.NumGoroutine") = false) (hb : fn.body = some c)
    (h : (envW W Wg).Go x (G ((base f).at { tmps := args.map a.eval ++ Array.replicate (fn.ntmps - (args.map a.eval).size) undef, defers := [] } [.code c]) (b.at a (.inRegion ops (i :: rest) :: k) :: cs)) w) : (envW W Wg).Go x (G (b.at a (.inRegion ops (i :: rest) :: k)) cs) w := by
  refine envW_ok.step1 rfl (fun v => ?_) h
  have hg : (stepG Try.prog true (G (b.at a (.inRegion ops (i :: rest) :: k)) cs) v).goes (fun g' w' es => g' = G ((base f).at { tmps := args.map a.eval ++ Array.replicate (fn.ntmps - (args.map a.eval).size) undef, defers := [] } [.code c]) (b.at a (.inRegion ops (i :: rest) :: k) :: cs) ∧ w' = v ∧ es = #[]) :=
    goes_call ho hw hk hop hf hname hb ⟨rfl, rfl, rfl⟩
  show stepG Try.prog true _ v = _
  generalize stepG Try.prog true (G (b.at a (.inRegion ops (i :: rest) :: k)) cs) v = st at hg ⊢
  cases st with
  | go g' w' ev =>
    have hg : _ ∧ _ ∧ _ := hg
    obtain ⟨h1, h2, h3⟩ := hg
    rw [h1, h2, h3]
  | _ => exact hg.elim
theorem leave1W {b b₀ : Frame} {a a₀ : Act} {todo : List Item} {k : List Item} {cs : List Frame} {ops : Array Oper} {i : Nat} {rest : List Nat} {fn : Func} {t : Tmp} (hn : b.kind = .normal) (hd : a.defers = []) (hf : Try.prog.funcs[b.fn]? = some fn) (hr : fn.results = #[.tmp t])
    (h : (envW W Wg).Go x (G (b₀.at (a₀.put ((ops[i]?).bind (·.dst)) (a.tmps.getD t undef)) (.inRegion ops rest :: k)) cs) w) : (envW W Wg).Go x (G { b.at a todo with mode := .returning } (b₀.at a₀ (.inRegion ops (i :: rest) :: k) :: cs)) w := by
  refine envW_ok.step1 rfl (fun w => ?_) h
  show stepG Try.prog true _ w = _
  rw [stepG_leave hn hd hf (results_tmp hr _ _ w) (events_results_tmp hr _ _), Frame.finish_at]
theorem leave0W {b b₀ : Frame} {a a₀ : Act} {todo : List Item} {k : List Item} {cs : List Frame} {ops : Array Oper} {i : Nat} {rest : List Nat} {fn : Func} (hn : b.kind = .normal) (hd : a.defers = []) (hf : Try.prog.funcs[b.fn]? = some fn) (hr : fn.results = #[])
    (h : (envW W Wg).Go x (G (b₀.at (a₀.put ((ops[i]?).bind (·.dst)) (.tuple #[])) (.inRegion ops rest :: k)) cs) w) : (envW W Wg).Go x (G { b.at a todo with mode := .returning } (b₀.at a₀ (.inRegion ops (i :: rest) :: k) :: cs)) w := by
  refine envW_ok.step1 rfl (fun w => ?_) h
  show stepG Try.prog true _ w = _
  rw [stepG_leave hn hd hf (results_none hr _ _ w) (events_results_none hr _ _), Frame.finish_at]
theorem goI_wgW (hwg : ∃ st sm, WgAt tWg Wg w st sm) {b : Frame} {a : Act} {k : List Item} {cs : List Frame} {ops : Array Oper} {i : Nat} {l : List Nat} {o : Oper} {v : Value} (ho : ops[i]? = some o) (hw : Region.wanted o (yielded ops a.tmps) = true) (hke : b.kind ≠ .early)
    (he : ∀ w₁ st sm, WgAt tWg Wg w₁ st sm → (execOp a.eval o).events Try.prog w₁ #[] = #[]) (hr : ∀ w₁ st sm, WgAt tWg Wg w₁ st sm → (execOp a.eval o).run Try.prog w₁ = .ok (.value v) w₁)
    (h : (envW W Wg).Go x (G (b.at (a.put o.dst v) (.inRegion ops l :: k)) cs) w) : (envW W Wg).Go x (G (b.at a (.inRegion ops (i :: l) :: k)) cs) w := by
  refine GoesI.one rfl fun w₁ hR => ?_
  obtain ⟨st1, sm1, hw1⟩ := (show RWg tWg Wg w w₁ from hR).wg hwg
  refine ⟨_, w₁, _, stepG_value ho hw hke (hr w₁ st1 sm1 hw1), ?_, GoesI.rely envW_ok.rtrans h hR⟩
  have : Go.Conc.listed Try.prog b.fn a o w₁ = #[] := by unfold Go.Conc.listed; rw [he w₁ st1 sm1 hw1, seen_none]
  show (envW W Wg).D x w₁ w₁ (Go.Conc.listed Try.prog b.fn a o w₁)
  rw [this]
  exact envW_ok.still _ _
theorem evw_mark {n : Nat} {m : Mark} (hm : (MemAct.ofEvent (mk m)).touch? = none) (hl : (MemAct.ofEvent (mk m)).low n) : ∀ e ∈ #[mk m], (∀ x, (MemAct.ofEvent e).touch? = some x → WgL Wg x.loc → x.kind ≠ .plain) ∧ (MemAct.ofEvent e).low n := by
  intro e he
  simp only [List.mem_toArray, List.mem_cons, List.not_mem_nil, or_false] at he
  subst he
  exact ⟨fun x hx => (by rw [hm] at hx; cases hx), hl⟩
theorem evw_write {n : Nat} (hn : Wg < n) : ∀ e ∈ #[mk (.write ⟨Wg, 1, none⟩)], (∀ x, (MemAct.ofEvent e).touch? = some x → WgL Wg x.loc → x.kind ≠ .plain) ∧ (MemAct.ofEvent e).low n := by
  intro e he
  simp only [List.mem_toArray, List.mem_cons, List.not_mem_nil, or_false] at he
  subst he
  refine ⟨fun x hx => ?_, ?_⟩
  · simp [mk, MemAct.ofEvent, MemAct.touch?] at hx
    try subst hx
    exact fun _ => by simp
  · first | exact hn | trivial
theorem evw_rd {n : Nat} (hn : Wg < n) : ∀ e ∈ #[rd (stA Wg)], (∀ x, (MemAct.ofEvent e).touch? = some x → WgL Wg x.loc → x.kind ≠ .plain) ∧ (MemAct.ofEvent e).low n := by
  intro e he
  simp only [List.mem_toArray, List.mem_cons, List.not_mem_nil, or_false] at he
  subst he
  refine ⟨fun x hx => ?_, hn⟩
  simp [rd, MemAct.ofEvent, MemAct.touch?] at hx
  subst hx
  exact fun _ => by simp
theorem evw_rw {n : Nat} (hn : Wg < n) : ∀ e ∈ #[rd (stA Wg), wr (stA Wg)], (∀ x, (MemAct.ofEvent e).touch? = some x → WgL Wg x.loc → x.kind ≠ .plain) ∧ (MemAct.ofEvent e).low n := by
  intro e he
  simp only [List.mem_toArray, List.mem_cons, List.not_mem_nil, or_false] at he
  rcases he with rfl | rfl
  · exact evw_rd hn _ (by simp)
  · refine ⟨fun x hx => ?_, hn⟩
    simp [wr, MemAct.ofEvent, MemAct.touch?] at hx
    subst hx
    exact fun _ => by simp
set_option maxRecDepth 100000 in
set_option maxHeartbeats 16000000 in
/-- The loop of Wait. -/
theorem wait_loop (hW : Back Try.prog W) {N : Nat} {b₀ : Frame} {a₀ : Act} {ops₀ : Array Oper} {i₀ : Nat} {rest₀ : List Nat} {k₀ : List Item} {cs : List Frame} : ∀ (m : Nat), m < 2147483647 → ∀ (T : Array Value) (w : World), T.size = 84 → T[0]? = some (.pointer (some ⟨Wg, 0, none⟩)) → (∃ st sm, WgAt tWg Wg w st sm) →
    (∀ w', RWg tWg Wg w w' → (envW W Wg).Go ⟨0, 0, false, N⟩ (G (b₀.at (a₀.put ((ops₀[i₀]?).bind (·.dst)) (.tuple #[])) (.inRegion ops₀ rest₀ :: k₀)) cs) w') →
    (envW W Wg).Go ⟨m, 1, false, N⟩ (G ((base wgLink.wait).at ⟨T, []⟩ [.code (L7 wgLink), .inLoop (L7 wgLink), .inBlock 0]) (b₀.at a₀ (.inRegion ops₀ (i₀ :: rest₀) :: k₀) :: cs)) w := by
  intro m
  induction m using Nat.strongRecOn with
  | _ m ih =>
  intro hm T w hT84 t0 hwg hk
  have O := envW_ok (W := W) (Wg := Wg)
  obtain ⟨L, hL⟩ : ∃ L, L = wgLink := ⟨_, rfl⟩
  have H : WgLib Try.prog L := hL ▸ wgLib
  have htw : L.tWg = tWg := by rw [hL]
  rw [← hL] at ih ⊢
  clear hL
  lib_facts
  obtain ⟨v0, v1, v2, v3, v4, v5, v6, v7, v8, v9, v10, v11, v12, v13, v14, v15, v16, v17, v18, v19, v20, v21, v22, v23, v24, v25, v26, v27, v28, v29, v30, v31, v32, v33, v34, v35, v36, v37, v38, v39, v40, v41, v42, v43, v44, v45, v46, v47, v48, v49, v50, v51, v52, v53, v54, v55, v56, v57, v58, v59, v60, v61, v62, v63, v64, v65, v66, v67, v68, v69, v70, v71, v72, v73, v74, v75, v76, v77, v78, v79, v80, v81, v82, v83, rfl⟩ := array84 T hT84
  simp only [List.getElem?_toArray, List.getElem?_cons_zero, Option.some.injEq] at t0
  subst t0
  simp only [L7, body_wait, waitFn, Option.getD_some]
  refine O.step1 rfl (fun _ => stepG_block) ?_
  refine O.step1 rfl (fun _ => stepG_seq) ?_
  refine O.step1 rfl (fun _ => stepG_region) ?_; simp only [List.size_toArray, List.length_cons, List.length_nil, Nat.reduceAdd, Nat.zero_add, List.range, List.range.loop]
  refine goI_pureW rfl rfl (by k_ne) (fun _ => by simp [go_sem, *]) (fun wz K hK => ?_); go_simp; (first | refine ⟨rfl, hK _ ?_⟩ | refine hK _ ?_); clear hK K wz; try w_num
  refine goI_pureW rfl rfl (by k_ne) (fun _ => by simp [go_sem, *]) (fun wz K hK => ?_); go_simp; (first | refine ⟨rfl, hK _ ?_⟩ | refine hK _ ?_); clear hK K wz; try w_num
  refine goI_pureW rfl rfl (by k_ne) (fun _ => by simp [go_sem, *]) (fun wz K hK => ?_); go_simp; (first | refine ⟨rfl, hK _ ?_⟩ | refine hK _ ?_); clear hK K wz; try w_num
  refine callW rfl rfl (by k_ne) rfl H.f_uLoad (nm_uLoad L) rfl ?_; walk_nrmf uLoadFn
  refine O.step1 rfl (fun _ => stepG_seq) ?_
  refine O.step1 rfl (fun _ => stepG_region) ?_; simp only [List.size_toArray, List.length_cons, List.length_nil, Nat.reduceAdd, Nat.zero_add, List.range, List.range.loop]
  refine goI_pureW rfl rfl (by k_ne) (fun _ => by simp [go_sem, *]) (fun wz K hK => ?_); go_simp; (first | refine ⟨rfl, hK _ ?_⟩ | refine hK _ ?_); clear hK K wz; try w_num
  refine O.step1 rfl (fun _ => stepG_region_end) ?_
  refine O.step1 rfl (fun _ => stepG_seq) ?_
  refine O.step1 rfl (fun _ => stepG_region) ?_; simp only [List.size_toArray, List.length_cons, List.length_nil, Nat.reduceAdd, Nat.zero_add, List.range, List.range.loop]
  refine goI_pureW rfl rfl (by k_ne) (fun _ => by simp [go_sem, *]) (fun wz K hK => ?_); go_simp; (first | refine ⟨rfl, hK _ ?_⟩ | refine hK _ ?_); clear hK K wz; try w_num
  refine goI_pureW rfl rfl (by k_ne) (fun _ => by simp [go_sem, *]) (fun wz K hK => ?_); go_simp; (first | refine ⟨rfl, hK _ ?_⟩ | refine hK _ ?_); clear hK K wz; try w_num
  refine goI_pureW rfl rfl (by k_ne) (fun _ => by simp [go_sem, *]) (fun wz K hK => ?_); go_simp; (first | refine ⟨rfl, hK _ ?_⟩ | refine hK _ ?_); clear hK K wz; try w_num
  refine opW hW hm rfl fun w₁ ph st sm hR hw hmode hfew => ?_
  generalize hb0 : (⟨m, 1, false, N⟩ : WX).b = b0 at hmode
  change sumTo N (cnt4 ph) ≤ m at hfew
  cases hmode with
  | reg => cases hb0
  | last => cases hb0
  | rel => cases hb0
  | semd => cases hb0
  | opn hph =>
  clear hb0
  replace hk : ∀ w', RWg tWg Wg w₁ w' → (envW W Wg).Go ⟨0, 0, false, N⟩ (G (b₀.at (a₀.put ((ops₀[i₀]?).bind (·.dst)) (.tuple #[])) (.inRegion ops₀ rest₀ :: k₀)) cs) w' := fun w' h => hk w' (RWg.trans _ _ _ hR h)
  replace hwg : ∃ st sm, WgAt tWg Wg w₁ st sm := ⟨_, _, hw⟩
  have hlow : Wg < w₁.heap.size := (Array.getElem?_eq_some_iff.1 hw).1
  clear hR
  have hmode : WMode N ph false (((sumTo N (cnt4 ph) : Nat) : Int) * KK) 0 := .opn hph
  generalize hv : sumTo N (cnt4 ph) = v at hw hmode hfew
  rcases Nat.eq_zero_or_pos v with rfl | hvp
  · -- nobody is counted
    have hw0 : WgAt L.tWg Wg w₁ 0 0 := by rw [htw]; simpa using hw
    refine ⟨_, w₁, #[rd (stA Wg)], 1, false, 0, stepG_load_atomic (v := 0) rfl rfl (by k_ne) rfl H.f_loadU64 (x_loadU64_n L) (x_loadU64_b L) (x_loadU64_x L) .u64 (x_loadU64_f L) rfl hw0.cellSt, Nat.le_refl _, ⟨_, _, hw, hmode⟩, rfl, (by first | exact Nat.le_of_eq hv | exact Nat.le_refl _), Nat.zero_le _, evw_rd hlow, ?_⟩
    clear hw hw0 hmode hv hph ih hfew hm
    have hm : (0 : Nat) < 2147483647 := by decide
    walk_nrm
    refine goI_pureW rfl rfl (by k_ne) (fun _ => by simp [go_sem, *]) (fun wz K hK => ?_); go_simp; (first | refine ⟨rfl, hK _ ?_⟩ | refine hK _ ?_); clear hK K wz; try w_num
    refine O.step1 rfl (fun _ => stepG_region_end) ?_
    refine O.step1 rfl (fun _ => stepG_ret') ?_
    refine leave1W rfl rfl H.f_uLoad rfl ?_; walk_nrm
    refine goI_pureW rfl rfl (by k_ne) (fun _ => by simp [go_sem, *]) (fun wz K hK => ?_); go_simp; (first | refine ⟨rfl, hK _ ?_⟩ | refine hK _ ?_); clear hK K wz; try w_num
    refine O.step1 rfl (fun _ => stepG_region_end) ?_
    refine O.step1 rfl (fun _ => stepG_seq) ?_
    refine O.step1 rfl (fun _ => stepG_region) ?_; simp only [List.size_toArray, List.length_cons, List.length_nil, Nat.reduceAdd, Nat.zero_add, List.range, List.range.loop]
    refine goI_pureW rfl rfl (by k_ne) (fun _ => by simp [go_sem, *]) (fun wz K hK => ?_); go_simp; (first | refine ⟨rfl, hK _ ?_⟩ | refine hK _ ?_); clear hK K wz; try w_num
    refine goI_pureW rfl rfl (by k_ne) (fun _ => by simp [go_sem, *]) (fun wz K hK => ?_); go_simp; (first | refine ⟨rfl, hK _ ?_⟩ | refine hK _ ?_); clear hK K wz; try w_num
    refine goI_pureW rfl rfl (by k_ne) (fun _ => by simp [go_sem, *]) (fun wz K hK => ?_); go_simp; (first | refine ⟨rfl, hK _ ?_⟩ | refine hK _ ?_); clear hK K wz; try w_num
    refine goI_pureW rfl rfl (by k_ne) (fun _ => by simp [go_sem, *]) (fun wz K hK => ?_); go_simp; (first | refine ⟨rfl, hK _ ?_⟩ | refine hK _ ?_); clear hK K wz; try w_num
    refine O.step1 rfl (fun _ => stepG_region_end) ?_
    refine O.step1 rfl (fun _ => stepG_seq) ?_
    refine O.step1 rfl (fun _ => stepG_region) ?_; simp only [List.size_toArray, List.length_cons, List.length_nil, Nat.reduceAdd, Nat.zero_add, List.range, List.range.loop]
    refine goI_pureW rfl rfl (by k_ne) (fun _ => by simp [go_sem, *]) (fun wz K hK => ?_); go_simp; (first | refine ⟨rfl, hK _ ?_⟩ | refine hK _ ?_); clear hK K wz; try w_num
    refine goI_pureW rfl rfl (by k_ne) (fun _ => by simp [go_sem, *]) (fun wz K hK => ?_); go_simp; (first | refine ⟨rfl, hK _ ?_⟩ | refine hK _ ?_); clear hK K wz; try w_num
    refine goI_pureW rfl rfl (by k_ne) (fun _ => by simp [go_sem, *]) (fun wz K hK => ?_); go_simp; (first | refine ⟨rfl, hK _ ?_⟩ | refine hK _ ?_); clear hK K wz; try w_num
    refine goI_pureW rfl rfl (by k_ne) (fun _ => by simp [go_sem, *]) (fun wz K hK => ?_); go_simp; (first | refine ⟨rfl, hK _ ?_⟩ | refine hK _ ?_); clear hK K wz; try w_num
    refine O.step1 rfl (fun _ => stepG_region_end) ?_
    refine O.step1 rfl (fun _ => stepG_seq) ?_
    refine O.step1 rfl (fun _ => stepG_seq) ?_
    refine O.step1 rfl (fun _ => stepG_region) ?_; simp only [List.size_toArray, List.length_cons, List.length_nil, Nat.reduceAdd, Nat.zero_add, List.range, List.range.loop]
    refine goI_pureW rfl rfl (by k_ne) (fun _ => by simp [go_sem, *]) (fun wz K hK => ?_); go_simp; (first | refine ⟨rfl, hK _ ?_⟩ | refine hK _ ?_); clear hK K wz; try w_num
    refine goI_pureW rfl rfl (by k_ne) (fun _ => by simp [go_sem, *]) (fun wz K hK => ?_); go_simp; (first | refine ⟨rfl, hK _ ?_⟩ | refine hK _ ?_); clear hK K wz; try w_num
    refine O.step1 rfl (fun _ => stepG_region_end) ?_
    refine O.step1 rfl (fun _ => stepG_cond (t := true) rfl) ?_; simp only [if_true, if_false, Bool.false_eq_true, ↓reduceIte]
    refine O.step1 rfl (fun _ => stepG_seq) ?_
    refine O.step1 rfl (fun _ => stepG_cond (t := true) rfl) ?_; simp only [if_true, if_false, Bool.false_eq_true, ↓reduceIte]
    refine O.step1 rfl (fun _ => stepG_seq) ?_
    refine O.step1 rfl (fun _ => stepG_region) ?_; simp only [List.size_toArray, List.length_cons, List.length_nil, Nat.reduceAdd, Nat.zero_add, List.range, List.range.loop]
    refine markW hW hm rfl hwg (fun w₁ => stepG_mark0 .enable (by simp) rfl rfl (by k_ne) rfl H.f_enable (x_enable_n L) (x_enable_b L) (x_enable_x L) (x_enable_f L)) rfl (fun n hn => evw_mark rfl trivial) ?_
    walk_nrm
    refine O.step1 rfl (fun _ => stepG_region_end) ?_
    refine O.step1 rfl (fun _ => stepG_region) ?_; simp only [List.size_toArray, List.length_cons, List.length_nil, Nat.reduceAdd, Nat.zero_add, List.range, List.range.loop]
    refine goI_pureW rfl rfl (by k_ne) (fun _ => by simp [go_sem, *]) (fun wz K hK => ?_); go_simp; (first | refine ⟨rfl, hK _ ?_⟩ | refine hK _ ?_); clear hK K wz; try w_num
    refine goI_wgW hwg (v := .pointer (some ⟨Wg, 0, none⟩)) rfl rfl (by k_ne) (fun w st sm hw => ?_) (fun w st sm hw => ?_) ?_
    · have hc0 : w.cell? ⟨Wg, 0, none⟩ = some (.int .u64 st) := hw.cellSt
      have hce := fun es => events_convert_to_unsafe (P := Try.prog) H.underlying_tWgP H.underlying_tUP H.room_tWg hc0 es
      simp [go_sem, hce]
    · have hc0 : w.cell? ⟨Wg, 0, none⟩ = some (.int .u64 st) := hw.cellSt
      have hcv := run_convert_to_unsafe (P := Try.prog) H.underlying_tWgP H.underlying_tUP H.room_tWg hc0
      go_simp
    walk_nrm
    refine markW hW hm rfl hwg (fun w₁ => stepG_markAt .acquire (by simp) rfl rfl (by k_ne) rfl H.f_acquire (x_acquire_n L) (x_acquire_b L) (x_acquire_x L) (x_acquire_f L) (ad := stA Wg) (by simp [Act.eval, stA])) rfl (fun n hn => evw_mark rfl (by first | trivial | exact hn)) ?_
    walk_nrm
    refine O.step1 rfl (fun _ => stepG_region_end) ?_
    refine O.step1 rfl (fun _ => stepG_seq) ?_
    refine O.step1 rfl (fun _ => stepG_seq) ?_
    refine O.step1 rfl (fun _ => stepG_region) ?_; simp only [List.size_toArray, List.length_cons, List.length_nil, Nat.reduceAdd, Nat.zero_add, List.range, List.range.loop]
    refine goI_pureW rfl rfl (by k_ne) (fun _ => by simp [go_sem, *]) (fun wz K hK => ?_); go_simp; (first | refine ⟨rfl, hK _ ?_⟩ | refine hK _ ?_); clear hK K wz; try w_num
    refine goI_pureW rfl rfl (by k_ne) (fun _ => by simp [go_sem, *]) (fun wz K hK => ?_); go_simp; (first | refine ⟨rfl, hK _ ?_⟩ | refine hK _ ?_); clear hK K wz; try w_num
    refine goI_pureW rfl rfl (by k_ne) (fun _ => by simp [go_sem, *]) (fun wz K hK => ?_); go_simp; (first | refine ⟨rfl, hK _ ?_⟩ | refine hK _ ?_); clear hK K wz; try w_num
    refine goI_pureW rfl rfl (by k_ne) (fun _ => by simp [go_sem, *]) (fun wz K hK => ?_); go_simp; (first | refine ⟨rfl, hK _ ?_⟩ | refine hK _ ?_); clear hK K wz; try w_num
    refine goI_pureW rfl rfl (by k_ne) (fun _ => by simp [go_sem, *]) (fun wz K hK => ?_); go_simp; (first | refine ⟨rfl, hK _ ?_⟩ | refine hK _ ?_); clear hK K wz; try w_num
    refine goI_pureW rfl rfl (by k_ne) (fun _ => by simp [go_sem, *]) (fun wz K hK => ?_); go_simp; (first | refine ⟨rfl, hK _ ?_⟩ | refine hK _ ?_); clear hK K wz; try w_num
    refine goI_pureW rfl rfl (by k_ne) (fun _ => by simp [go_sem, *]) (fun wz K hK => ?_); go_simp; (first | refine ⟨rfl, hK _ ?_⟩ | refine hK _ ?_); clear hK K wz; try w_num
    refine goI_pureW rfl rfl (by k_ne) (fun _ => by simp [go_sem, *]) (fun wz K hK => ?_); go_simp; (first | refine ⟨rfl, hK _ ?_⟩ | refine hK _ ?_); clear hK K wz; try w_num
    refine O.step1 rfl (fun _ => stepG_unwanted rfl rfl) ?_; walk_nrm
    refine O.step1 rfl (fun _ => stepG_unwanted rfl rfl) ?_; walk_nrm
    refine goI_pureW rfl rfl (by k_ne) (fun _ => by simp [go_sem, *]) (fun wz K hK => ?_); go_simp; (first | refine ⟨rfl, hK _ ?_⟩ | refine hK _ ?_); clear hK K wz; try w_num
    refine O.step1 rfl (fun _ => stepG_region_end) ?_
    refine O.step1 rfl (fun _ => stepG_cond (t := false) rfl) ?_; simp only [if_true, if_false, Bool.false_eq_true, ↓reduceIte]
    refine O.step1 rfl (fun _ => stepG_skip) ?_
    refine O.step1 rfl (fun _ => stepG_ret') ?_
    refine leave0W rfl rfl H.f_wait rfl ?_; walk_nrm
    exact hk _ (RWg.refl _)
  · -- v are counted
    obtain ⟨S, hS⟩ : ∃ S : Int, (v : Int) * KK = S := ⟨_, rfl⟩
    have hv2 : v < 2147483647 := by omega
    have a1 : S / 4294967296 = (v : Int) := by rw [← hS]; simp only [KK]; omega
    have b1 : bits .and .u64 S 2147483648 = 0 := by rw [← hS]; have := Go.ConcN.st_flag v 0 (by omega) (by omega); simpa [KK] using this
    have b2 : bits .and .u64 S 2147483647 = 0 := by rw [← hS]; have := Go.ConcN.st_waiters v 0 (by omega) (by omega); simpa [KK] using this
    have c1 : IntKind.i32.wrap (v : Int) = (v : Int) := by rw [IntKind.wrap_i32]; omega
    have w1 : IntKind.u64.wrap (S + 1) = S + 1 := by rw [IntKind.wrap_u64, ← hS]; simp only [KK]; omega
    have q3 : decide ((v : Int) < 0) = false := decide_eq_false (by omega)
    have q4 : decide (0 < (v : Int)) = true := decide_eq_true (by omega)
    have q5 : ((v : Int) == 0) = false := by simp; omega
    have q6 : decide ((v : Int) = 0) = false := decide_eq_false (by omega)
    rw [hS] at hw hmode
    refine ⟨_, w₁, #[rd (stA Wg)], 1, false, v, stepG_load_atomic (v := S) rfl rfl (by k_ne) rfl H.f_loadU64 (x_loadU64_n L) (x_loadU64_b L) (x_loadU64_x L) .u64 (x_loadU64_f L) rfl hw.cellSt, Nat.le_refl _, ⟨_, _, hw, hmode⟩, rfl, (by first | exact Nat.le_of_eq hv | exact Nat.le_refl _), hfew, evw_rd hlow, ?_⟩
    clear hw hmode hv hph ph hlow
    have ihv : ∀ m', m' < v → _ := fun m' h => ih m' (Nat.lt_of_lt_of_le h hfew) (Nat.lt_trans h hv2)
    clear ih
    replace hm := hv2
    clear hfew hv2
    have HS := Lib.hid (And.intro hS hm)
    have HI := Lib.hid ihv
    have HK := Lib.hid (And.intro hk hwg)
    clear hS hm ihv hk hwg
    walk_nrm
    refine goI_pureW rfl rfl (by k_ne) (fun _ => by simp [go_sem, *]) (fun wz K hK => ?_); go_simp; (first | refine ⟨rfl, hK _ ?_⟩ | refine hK _ ?_); clear hK K wz; try w_num
    refine O.step1 rfl (fun _ => stepG_region_end) ?_
    refine O.step1 rfl (fun _ => stepG_ret') ?_
    refine leave1W rfl rfl H.f_uLoad rfl ?_; walk_nrm
    refine goI_pureW rfl rfl (by k_ne) (fun _ => by simp [go_sem, *]) (fun wz K hK => ?_); go_simp; (first | refine ⟨rfl, hK _ ?_⟩ | refine hK _ ?_); clear hK K wz; try w_num
    refine O.step1 rfl (fun _ => stepG_region_end) ?_
    refine O.step1 rfl (fun _ => stepG_seq) ?_
    refine O.step1 rfl (fun _ => stepG_region) ?_; simp only [List.size_toArray, List.length_cons, List.length_nil, Nat.reduceAdd, Nat.zero_add, List.range, List.range.loop]
    refine goI_pureW rfl rfl (by k_ne) (fun _ => by simp [go_sem, *]) (fun wz K hK => ?_); go_simp; (first | refine ⟨rfl, hK _ ?_⟩ | refine hK _ ?_); clear hK K wz; try w_num
    refine goI_pureW rfl rfl (by k_ne) (fun _ => by simp [go_sem, *]) (fun wz K hK => ?_); go_simp; (first | refine ⟨rfl, hK _ ?_⟩ | refine hK _ ?_); clear hK K wz; try w_num
    refine goI_pureW rfl rfl (by k_ne) (fun _ => by simp [go_sem, *]) (fun wz K hK => ?_); go_simp; (first | refine ⟨rfl, hK _ ?_⟩ | refine hK _ ?_); clear hK K wz; try w_num
    refine goI_pureW rfl rfl (by k_ne) (fun _ => by simp [go_sem, *]) (fun wz K hK => ?_); go_simp; (first | refine ⟨rfl, hK _ ?_⟩ | refine hK _ ?_); clear hK K wz; try w_num
    refine O.step1 rfl (fun _ => stepG_region_end) ?_
    refine O.step1 rfl (fun _ => stepG_seq) ?_
    refine O.step1 rfl (fun _ => stepG_region) ?_; simp only [List.size_toArray, List.length_cons, List.length_nil, Nat.reduceAdd, Nat.zero_add, List.range, List.range.loop]
    refine goI_pureW rfl rfl (by k_ne) (fun _ => by simp [go_sem, *]) (fun wz K hK => ?_); go_simp; (first | refine ⟨rfl, hK _ ?_⟩ | refine hK _ ?_); clear hK K wz; try w_num
    refine goI_pureW rfl rfl (by k_ne) (fun _ => by simp [go_sem, *]) (fun wz K hK => ?_); go_simp; (first | refine ⟨rfl, hK _ ?_⟩ | refine hK _ ?_); clear hK K wz; try w_num
    refine goI_pureW rfl rfl (by k_ne) (fun _ => by simp [go_sem, *]) (fun wz K hK => ?_); go_simp; (first | refine ⟨rfl, hK _ ?_⟩ | refine hK _ ?_); clear hK K wz; try w_num
    refine goI_pureW rfl rfl (by k_ne) (fun _ => by simp [go_sem, *]) (fun wz K hK => ?_); go_simp; (first | refine ⟨rfl, hK _ ?_⟩ | refine hK _ ?_); clear hK K wz; try w_num
    refine O.step1 rfl (fun _ => stepG_region_end) ?_
    refine O.step1 rfl (fun _ => stepG_seq) ?_
    refine O.step1 rfl (fun _ => stepG_seq) ?_
    refine O.step1 rfl (fun _ => stepG_region) ?_; simp only [List.size_toArray, List.length_cons, List.length_nil, Nat.reduceAdd, Nat.zero_add, List.range, List.range.loop]
    refine goI_pureW rfl rfl (by k_ne) (fun _ => by simp [go_sem, *]) (fun wz K hK => ?_); go_simp; (first | refine ⟨rfl, hK _ ?_⟩ | refine hK _ ?_); clear hK K wz; try w_num
    refine goI_pureW rfl rfl (by k_ne) (fun _ => by simp [go_sem, *]) (fun wz K hK => ?_); go_simp; (first | refine ⟨rfl, hK _ ?_⟩ | refine hK _ ?_); clear hK K wz; try w_num
    refine O.step1 rfl (fun _ => stepG_region_end) ?_
    refine O.step1 rfl (fun _ => stepG_cond (t := false) (by first | rfl | (simp [Act.eval]; omega))) ?_; simp only [if_true, if_false, Bool.false_eq_true, ↓reduceIte]
    refine O.step1 rfl (fun _ => stepG_skip) ?_
    refine O.step1 rfl (fun _ => stepG_seq) ?_
    refine O.step1 rfl (fun _ => stepG_region) ?_; simp only [List.size_toArray, List.length_cons, List.length_nil, Nat.reduceAdd, Nat.zero_add, List.range, List.range.loop]
    refine goI_pureW rfl rfl (by k_ne) (fun _ => by simp [go_sem, *]) (fun wz K hK => ?_); go_simp; (first | refine ⟨rfl, hK _ ?_⟩ | refine hK _ ?_); clear hK K wz; try w_num
    refine goI_pureW rfl rfl (by k_ne) (fun _ => by simp [go_sem, *]) (fun wz K hK => ?_); go_simp; (first | refine ⟨rfl, hK _ ?_⟩ | refine hK _ ?_); clear hK K wz; try w_num
    refine goI_pureW rfl rfl (by k_ne) (fun _ => by simp [go_sem, *]) (fun wz K hK => ?_); go_simp; (first | refine ⟨rfl, hK _ ?_⟩ | refine hK _ ?_); clear hK K wz; try w_num
    refine goI_pureW rfl rfl (by k_ne) (fun _ => by simp [go_sem, *]) (fun wz K hK => ?_); go_simp; (first | refine ⟨rfl, hK _ ?_⟩ | refine hK _ ?_); clear hK K wz; try w_num
    refine goI_pureW rfl rfl (by k_ne) (fun _ => by simp [go_sem, *]) (fun wz K hK => ?_); go_simp; (first | refine ⟨rfl, hK _ ?_⟩ | refine hK _ ?_); clear hK K wz; try w_num
    refine goI_pureW rfl rfl (by k_ne) (fun _ => by simp [go_sem, *]) (fun wz K hK => ?_); go_simp; (first | refine ⟨rfl, hK _ ?_⟩ | refine hK _ ?_); clear hK K wz; try w_num
    refine callW rfl rfl (by k_ne) rfl H.f_uCas (nm_uCas L) rfl ?_; walk_nrmf uCasFn
    refine O.step1 rfl (fun _ => stepG_seq) ?_
    refine O.step1 rfl (fun _ => stepG_region) ?_; simp only [List.size_toArray, List.length_cons, List.length_nil, Nat.reduceAdd, Nat.zero_add, List.range, List.range.loop]
    refine goI_pureW rfl rfl (by k_ne) (fun _ => by simp [go_sem, *]) (fun wz K hK => ?_); go_simp; (first | refine ⟨rfl, hK _ ?_⟩ | refine hK _ ?_); clear hK K wz; try w_num
    refine O.step1 rfl (fun _ => stepG_region_end) ?_
    refine O.step1 rfl (fun _ => stepG_seq) ?_
    refine O.step1 rfl (fun _ => stepG_region) ?_; simp only [List.size_toArray, List.length_cons, List.length_nil, Nat.reduceAdd, Nat.zero_add, List.range, List.range.loop]
    refine goI_pureW rfl rfl (by k_ne) (fun _ => by simp [go_sem, *]) (fun wz K hK => ?_); go_simp; (first | refine ⟨rfl, hK _ ?_⟩ | refine hK _ ?_); clear hK K wz; try w_num
    refine goI_pureW rfl rfl (by k_ne) (fun _ => by simp [go_sem, *]) (fun wz K hK => ?_); go_simp; (first | refine ⟨rfl, hK _ ?_⟩ | refine hK _ ?_); clear hK K wz; try w_num
    refine goI_pureW rfl rfl (by k_ne) (fun _ => by simp [go_sem, *]) (fun wz K hK => ?_); go_simp; (first | refine ⟨rfl, hK _ ?_⟩ | refine hK _ ?_); clear hK K wz; try w_num
    refine goI_pureW rfl rfl (by k_ne) (fun _ => by simp [go_sem, *]) (fun wz K hK => ?_); go_simp; (first | refine ⟨rfl, hK _ ?_⟩ | refine hK _ ?_); clear hK K wz; try w_num
    refine goI_pureW rfl rfl (by k_ne) (fun _ => by simp [go_sem, *]) (fun wz K hK => ?_); go_simp; (first | refine ⟨rfl, hK _ ?_⟩ | refine hK _ ?_); clear hK K wz; try w_num
    unfold Hid at HS HI HK
    have ihv := HI
    obtain ⟨hS, hm⟩ := HS
    obtain ⟨hk, hwg⟩ := HK
    clear HI
    refine opW hW hm rfl fun w₂ ph st sm hR hw hmode hfew => ?_
    generalize hb0 : (⟨v, 1, false, N⟩ : WX).b = b0 at hmode
    change sumTo N (cnt4 ph) ≤ v at hfew
    cases hmode with
    | reg => cases hb0
    | last => cases hb0
    | rel => cases hb0
    | semd => cases hb0
    | opn hph =>
    clear hb0
    replace hk : ∀ w', RWg tWg Wg w₂ w' → (envW W Wg).Go ⟨0, 0, false, N⟩ (G (b₀.at (a₀.put ((ops₀[i₀]?).bind (·.dst)) (.tuple #[])) (.inRegion ops₀ rest₀ :: k₀)) cs) w' := fun w' h => hk w' (RWg.trans _ _ _ hR h)
    replace hwg : ∃ st sm, WgAt tWg Wg w₂ st sm := ⟨_, _, hw⟩
    have hlow : Wg < w₂.heap.size := (Array.getElem?_eq_some_iff.1 hw).1
    clear hR
    have hmode : WMode N ph false (((sumTo N (cnt4 ph) : Nat) : Int) * KK) 0 := .opn hph
    generalize hv : sumTo N (cnt4 ph) = v' at hw hmode hfew
    by_cases e : v' = v
    · -- it hits
      subst e
      rw [hS] at hw hmode
      have hw2 := hw.setSt (S + 1)
      have hreg : WMode N ph true (S + 1) 0 := by
        have := WMode.reg (N := N) (ph := ph) hph (by rw [hv]; exact hvp)
        rw [hv, hS] at this
        exact this
      have hsz := (aside_setCell w₂ (stA Wg) (.int .u64 (S + 1))).size
      refine ⟨_, w₂.setCell (stA Wg) (.int .u64 (S + 1)), #[rd (stA Wg), wr (stA Wg)], 1, true, v', (stepG_cas_hit (v := S) (n := S + 1) rfl rfl (by k_ne) rfl H.f_casU64 (x_casU64_n L) (x_casU64_b L) (x_casU64_x L) .u64 (x_casU64_f L) rfl rfl rfl hw.cellSt (hw.thaw 0)).trans (by rfl), Nat.le_of_eq hsz.symm, ⟨_, _, hw2, hreg⟩, rfl, (by first | exact Nat.le_of_eq hv | exact Nat.le_refl _), Nat.le_refl _, evw_rw (by rw [hsz]; exact hlow), ?_⟩
      replace hk : ∀ w', RWg tWg Wg (w₂.setCell (stA Wg) (.int .u64 (S + 1))) w' → (envW W Wg).Go ⟨0, 0, false, N⟩ (G (b₀.at (a₀.put ((ops₀[i₀]?).bind (·.dst)) (.tuple #[])) (.inRegion ops₀ rest₀ :: k₀)) cs) w' := fun w' h => hk w' (RWg.trans _ _ _ (rwg_set (v := S + 1) hw) h)
      replace hwg : ∃ st sm, WgAt tWg Wg (w₂.setCell (stA Wg) (.int .u64 (S + 1))) st sm := ⟨_, _, hw2⟩
      clear hw hw2 hreg hmode hv hph ph hlow hsz ihv hfew hS
      change (envW W Wg).Go ⟨v', 1, true, N⟩ _ _
      walk_nrm
      refine goI_pureW rfl rfl (by k_ne) (fun _ => by simp [go_sem, *]) (fun wz K hK => ?_); go_simp; (first | refine ⟨rfl, hK _ ?_⟩ | refine hK _ ?_); clear hK K wz; try w_num
      refine O.step1 rfl (fun _ => stepG_region_end) ?_
      refine O.step1 rfl (fun _ => stepG_ret') ?_
      refine leave1W rfl rfl H.f_uCas rfl ?_; walk_nrm
      refine O.step1 rfl (fun _ => stepG_region_end) ?_
      refine O.step1 rfl (fun _ => stepG_cond (t := true) rfl) ?_; simp only [if_true, if_false, Bool.false_eq_true, ↓reduceIte]
      refine O.step1 rfl (fun _ => stepG_seq) ?_
      refine O.step1 rfl (fun _ => stepG_seq) ?_
      refine O.step1 rfl (fun _ => stepG_region) ?_; simp only [List.size_toArray, List.length_cons, List.length_nil, Nat.reduceAdd, Nat.zero_add, List.range, List.range.loop]
      refine goI_pureW rfl rfl (by k_ne) (fun _ => by simp [go_sem, *]) (fun wz K hK => ?_); go_simp; (first | refine ⟨rfl, hK _ ?_⟩ | refine hK _ ?_); clear hK K wz; try w_num
      refine goI_pureW rfl rfl (by k_ne) (fun _ => by simp [go_sem, *]) (fun wz K hK => ?_); go_simp; (first | refine ⟨rfl, hK _ ?_⟩ | refine hK _ ?_); clear hK K wz; try w_num
      refine goI_pureW rfl rfl (by k_ne) (fun _ => by simp [go_sem, *]) (fun wz K hK => ?_); go_simp; (first | refine ⟨rfl, hK _ ?_⟩ | refine hK _ ?_); clear hK K wz; try w_num
      refine goI_pureW rfl rfl (by k_ne) (fun _ => by simp [go_sem, *]) (fun wz K hK => ?_); go_simp; (first | refine ⟨rfl, hK _ ?_⟩ | refine hK _ ?_); clear hK K wz; try w_num
      refine O.step1 rfl (fun _ => stepG_region_end) ?_
      refine O.step1 rfl (fun _ => stepG_cond (t := true) rfl) ?_; simp only [if_true, if_false, Bool.false_eq_true, ↓reduceIte]
      refine O.step1 rfl (fun _ => stepG_region) ?_; simp only [List.size_toArray, List.length_cons, List.length_nil, Nat.reduceAdd, Nat.zero_add, List.range, List.range.loop]
      refine goI_pureW rfl rfl (by k_ne) (fun _ => by simp [go_sem, *]) (fun wz K hK => ?_); go_simp; (first | refine ⟨rfl, hK _ ?_⟩ | refine hK _ ?_); clear hK K wz; try w_num
      refine goI_pureW rfl rfl (by k_ne) (fun _ => by simp [go_sem, *]) (fun wz K hK => ?_); go_simp; (first | refine ⟨rfl, hK _ ?_⟩ | refine hK _ ?_); clear hK K wz; try w_num
      refine goI_pureW rfl rfl (by k_ne) (fun _ => by simp [go_sem, *]) (fun wz K hK => ?_); go_simp; (first | refine ⟨rfl, hK _ ?_⟩ | refine hK _ ?_); clear hK K wz; try w_num
      refine goI_wgW hwg (v := .pointer (some ⟨Wg, 1, none⟩)) rfl rfl (by k_ne) (fun w st sm hw => ?_) (fun w st sm hw => ?_) ?_
      · have hc0 : w.cell? ⟨Wg, 1, none⟩ = some (.int .u32 sm) := hw.cellSm
        have hce := fun es => events_convert_to_unsafe (P := Try.prog) H.underlying_tPU32 H.underlying_tUP H.room_tU32 hc0 es
        simp [go_sem, hce]
      · have hc0 : w.cell? ⟨Wg, 1, none⟩ = some (.int .u32 sm) := hw.cellSm
        have hcv := run_convert_to_unsafe (P := Try.prog) H.underlying_tPU32 H.underlying_tUP H.room_tU32 hc0
        go_simp
      walk_nrm
      refine markW hW hm rfl hwg (fun w₁ => stepG_markAt .write (by simp) rfl rfl (by k_ne) rfl H.f_raceWrite (x_raceWrite_n L) (x_raceWrite_b L) (x_raceWrite_x L) (x_raceWrite_f L) (ad := ⟨Wg, 1, none⟩) (by simp [Act.eval])) rfl (fun n hn => evw_write hn) ?_
      walk_nrm
      refine O.step1 rfl (fun _ => stepG_region_end) ?_
      refine O.step1 rfl (fun _ => stepG_seq) ?_
      refine O.step1 rfl (fun _ => stepG_region) ?_; simp only [List.size_toArray, List.length_cons, List.length_nil, Nat.reduceAdd, Nat.zero_add, List.range, List.range.loop]
      refine goI_pureW rfl rfl (by k_ne) (fun _ => by simp [go_sem, *]) (fun wz K hK => ?_); go_simp; (first | refine ⟨rfl, hK _ ?_⟩ | refine hK _ ?_); clear hK K wz; try w_num
      refine O.step1 rfl (fun _ => stepG_region_end) ?_
      refine O.step1 rfl (fun _ => stepG_seq) ?_
      refine O.step1 rfl (fun _ => stepG_seq) ?_
      refine O.step1 rfl (fun _ => stepG_region) ?_; simp only [List.size_toArray, List.length_cons, List.length_nil, Nat.reduceAdd, Nat.zero_add, List.range, List.range.loop]
      refine goI_pureW rfl rfl (by k_ne) (fun _ => by simp [go_sem, *]) (fun wz K hK => ?_); go_simp; (first | refine ⟨rfl, hK _ ?_⟩ | refine hK _ ?_); clear hK K wz; try w_num
      refine goI_pureW rfl rfl (by k_ne) (fun _ => by simp [go_sem, *]) (fun wz K hK => ?_); go_simp; (first | refine ⟨rfl, hK _ ?_⟩ | refine hK _ ?_); clear hK K wz; try w_num
      refine goI_pureW rfl rfl (by k_ne) (fun _ => by simp [go_sem, *]) (fun wz K hK => ?_); go_simp; (first | refine ⟨rfl, hK _ ?_⟩ | refine hK _ ?_); clear hK K wz; try w_num
      refine goI_pureW rfl rfl (by k_ne) (fun _ => by simp [go_sem, *]) (fun wz K hK => ?_); go_simp; (first | refine ⟨rfl, hK _ ?_⟩ | refine hK _ ?_); clear hK K wz; try w_num
      refine O.step1 rfl (fun _ => stepG_unwanted rfl rfl) ?_; walk_nrm
      refine goI_pureW rfl rfl (by k_ne) (fun _ => by simp [go_sem, *]) (fun wz K hK => ?_); go_simp; (first | refine ⟨rfl, hK _ ?_⟩ | refine hK _ ?_); clear hK K wz; try w_num
      refine O.step1 rfl (fun _ => stepG_region_end) ?_
      refine O.step1 rfl (fun _ => stepG_cond (t := false) rfl) ?_; simp only [if_true, if_false, Bool.false_eq_true, ↓reduceIte]
      refine O.step1 rfl (fun _ => stepG_skip) ?_
      refine O.step1 rfl (fun _ => stepG_seq) ?_
      refine O.step1 rfl (fun _ => stepG_region) ?_; simp only [List.size_toArray, List.length_cons, List.length_nil, Nat.reduceAdd, Nat.zero_add, List.range, List.range.loop]
      refine goI_pureW rfl rfl (by k_ne) (fun _ => by simp [go_sem, *]) (fun wz K hK => ?_); go_simp; (first | refine ⟨rfl, hK _ ?_⟩ | refine hK _ ?_); clear hK K wz; try w_num
      refine goI_pureW rfl rfl (by k_ne) (fun _ => by simp [go_sem, *]) (fun wz K hK => ?_); go_simp; (first | refine ⟨rfl, hK _ ?_⟩ | refine hK _ ?_); clear hK K wz; try w_num
      refine goI_pureW rfl rfl (by k_ne) (fun _ => by simp [go_sem, *]) (fun wz K hK => ?_); go_simp; (first | refine ⟨rfl, hK _ ?_⟩ | refine hK _ ?_); clear hK K wz; try w_num
      refine goI_pureW rfl rfl (by k_ne) (fun _ => by simp [go_sem, *]) (fun wz K hK => ?_); go_simp; (first | refine ⟨rfl, hK _ ?_⟩ | refine hK _ ?_); clear hK K wz; try w_num
      refine blockW hW hm rfl rfl rfl (fun w₁ st hw => stepG_semacquire_wait rfl rfl rfl H.f_semacquire (x_semacquire_n L) (x_semacquire_b L) (x_semacquire_x L) (x_semacquire_f L) (by simp [Act.eval, smA]) hw.cellSm) (fun w₁ hw => (stepG_semacquire (n := 1) rfl rfl (by k_ne) rfl H.f_semacquire (x_semacquire_n L) (x_semacquire_b L) (x_semacquire_x L) (x_semacquire_f L) (by simp [Act.eval, smA]) hw.cellSm (by k_ne) (hw.thaw 1)).trans (by rfl)) ?_
      clear hm
      have hm : (0 : Nat) < 2147483647 := by decide
      walk_nrm
      refine O.step1 rfl (fun _ => stepG_region_end) ?_
      refine O.step1 rfl (fun _ => stepG_seq) ?_
      refine O.step1 rfl (fun _ => stepG_region) ?_; simp only [List.size_toArray, List.length_cons, List.length_nil, Nat.reduceAdd, Nat.zero_add, List.range, List.range.loop]
      refine goI_pureW rfl rfl (by k_ne) (fun _ => by simp [go_sem, *]) (fun wz K hK => ?_); go_simp; (first | refine ⟨rfl, hK _ ?_⟩ | refine hK _ ?_); clear hK K wz; try w_num
      refine goI_pureW rfl rfl (by k_ne) (fun _ => by simp [go_sem, *]) (fun wz K hK => ?_); go_simp; (first | refine ⟨rfl, hK _ ?_⟩ | refine hK _ ?_); clear hK K wz; try w_num
      refine goI_pureW rfl rfl (by k_ne) (fun _ => by simp [go_sem, *]) (fun wz K hK => ?_); go_simp; (first | refine ⟨rfl, hK _ ?_⟩ | refine hK _ ?_); clear hK K wz; try w_num
      refine callW rfl rfl (by k_ne) rfl H.f_uLoad (nm_uLoad L) rfl ?_; walk_nrmf uLoadFn
      refine O.step1 rfl (fun _ => stepG_seq) ?_
      refine O.step1 rfl (fun _ => stepG_region) ?_; simp only [List.size_toArray, List.length_cons, List.length_nil, Nat.reduceAdd, Nat.zero_add, List.range, List.range.loop]
      refine goI_pureW rfl rfl (by k_ne) (fun _ => by simp [go_sem, *]) (fun wz K hK => ?_); go_simp; (first | refine ⟨rfl, hK _ ?_⟩ | refine hK _ ?_); clear hK K wz; try w_num
      refine O.step1 rfl (fun _ => stepG_region_end) ?_
      refine O.step1 rfl (fun _ => stepG_seq) ?_
      refine O.step1 rfl (fun _ => stepG_region) ?_; simp only [List.size_toArray, List.length_cons, List.length_nil, Nat.reduceAdd, Nat.zero_add, List.range, List.range.loop]
      refine goI_pureW rfl rfl (by k_ne) (fun _ => by simp [go_sem, *]) (fun wz K hK => ?_); go_simp; (first | refine ⟨rfl, hK _ ?_⟩ | refine hK _ ?_); clear hK K wz; try w_num
      refine goI_pureW rfl rfl (by k_ne) (fun _ => by simp [go_sem, *]) (fun wz K hK => ?_); go_simp; (first | refine ⟨rfl, hK _ ?_⟩ | refine hK _ ?_); clear hK K wz; try w_num
      refine goI_pureW rfl rfl (by k_ne) (fun _ => by simp [go_sem, *]) (fun wz K hK => ?_); go_simp; (first | refine ⟨rfl, hK _ ?_⟩ | refine hK _ ?_); clear hK K wz; try w_num
      refine opW hW hm rfl fun w₄ ph st sm hR hw hmode hfew => ?_
      generalize hb0 : (⟨0, 1, false, N⟩ : WX).b = b0 at hmode
      change sumTo N (cnt4 ph) ≤ 0 at hfew
      cases hmode with
      | reg => cases hb0
      | last => cases hb0
      | rel => cases hb0
      | semd => cases hb0
      | opn hph =>
      clear hb0
      replace hk : ∀ w', RWg tWg Wg w₄ w' → (envW W Wg).Go ⟨0, 0, false, N⟩ (G (b₀.at (a₀.put ((ops₀[i₀]?).bind (·.dst)) (.tuple #[])) (.inRegion ops₀ rest₀ :: k₀)) cs) w' := fun w' h => hk w' (RWg.trans _ _ _ hR h)
      replace hwg : ∃ st sm, WgAt tWg Wg w₄ st sm := ⟨_, _, hw⟩
      have hlow : Wg < w₄.heap.size := (Array.getElem?_eq_some_iff.1 hw).1
      clear hR
      have hmode : WMode N ph false (((sumTo N (cnt4 ph) : Nat) : Int) * KK) 0 := .opn hph
      have hv : sumTo N (cnt4 ph) = 0 := by omega
      rw [hv] at hw hmode hfew
      have hw0 : WgAt L.tWg Wg w₄ 0 0 := by rw [htw]; simpa using hw
      refine ⟨_, w₄, #[rd (stA Wg)], 1, false, 0, stepG_load_atomic (v := 0) rfl rfl (by k_ne) rfl H.f_loadU64 (x_loadU64_n L) (x_loadU64_b L) (x_loadU64_x L) .u64 (x_loadU64_f L) rfl hw0.cellSt, Nat.le_refl _, ⟨_, _, hw, hmode⟩, rfl, (by first | exact Nat.le_of_eq hv | exact Nat.le_refl _), Nat.zero_le _, evw_rd hlow, ?_⟩
      clear hw hw0 hmode hv hph hfew
      walk_nrm
      refine goI_pureW rfl rfl (by k_ne) (fun _ => by simp [go_sem, *]) (fun wz K hK => ?_); go_simp; (first | refine ⟨rfl, hK _ ?_⟩ | refine hK _ ?_); clear hK K wz; try w_num
      refine O.step1 rfl (fun _ => stepG_region_end) ?_
      refine O.step1 rfl (fun _ => stepG_ret') ?_
      refine leave1W rfl rfl H.f_uLoad rfl ?_; walk_nrm
      refine goI_pureW rfl rfl (by k_ne) (fun _ => by simp [go_sem, *]) (fun wz K hK => ?_); go_simp; (first | refine ⟨rfl, hK _ ?_⟩ | refine hK _ ?_); clear hK K wz; try w_num
      refine goI_pureW rfl rfl (by k_ne) (fun _ => by simp [go_sem, *]) (fun wz K hK => ?_); go_simp; (first | refine ⟨rfl, hK _ ?_⟩ | refine hK _ ?_); clear hK K wz; try w_num
      refine O.step1 rfl (fun _ => stepG_region_end) ?_
      refine O.step1 rfl (fun _ => stepG_seq) ?_
      refine O.step1 rfl (fun _ => stepG_cond (t := true) rfl) ?_; simp only [if_true, if_false, Bool.false_eq_true, ↓reduceIte]
      refine O.step1 rfl (fun _ => stepG_seq) ?_
      refine O.step1 rfl (fun _ => stepG_region) ?_; simp only [List.size_toArray, List.length_cons, List.length_nil, Nat.reduceAdd, Nat.zero_add, List.range, List.range.loop]
      refine markW hW hm rfl hwg (fun w₁ => stepG_mark0 .enable (by simp) rfl rfl (by k_ne) rfl H.f_enable (x_enable_n L) (x_enable_b L) (x_enable_x L) (x_enable_f L)) rfl (fun n hn => evw_mark rfl trivial) ?_
      walk_nrm
      refine O.step1 rfl (fun _ => stepG_region_end) ?_
      refine O.step1 rfl (fun _ => stepG_region) ?_; simp only [List.size_toArray, List.length_cons, List.length_nil, Nat.reduceAdd, Nat.zero_add, List.range, List.range.loop]
      refine goI_pureW rfl rfl (by k_ne) (fun _ => by simp [go_sem, *]) (fun wz K hK => ?_); go_simp; (first | refine ⟨rfl, hK _ ?_⟩ | refine hK _ ?_); clear hK K wz; try w_num
      refine goI_wgW hwg (v := .pointer (some ⟨Wg, 0, none⟩)) rfl rfl (by k_ne) (fun w st sm hw => ?_) (fun w st sm hw => ?_) ?_
      · have hc0 : w.cell? ⟨Wg, 0, none⟩ = some (.int .u64 st) := hw.cellSt
        have hce := fun es => events_convert_to_unsafe (P := Try.prog) H.underlying_tWgP H.underlying_tUP H.room_tWg hc0 es
        simp [go_sem, hce]
      · have hc0 : w.cell? ⟨Wg, 0, none⟩ = some (.int .u64 st) := hw.cellSt
        have hcv := run_convert_to_unsafe (P := Try.prog) H.underlying_tWgP H.underlying_tUP H.room_tWg hc0
        go_simp
      walk_nrm
      refine markW hW hm rfl hwg (fun w₁ => stepG_markAt .acquire (by simp) rfl rfl (by k_ne) rfl H.f_acquire (x_acquire_n L) (x_acquire_b L) (x_acquire_x L) (x_acquire_f L) (ad := stA Wg) (by simp [Act.eval, stA])) rfl (fun n hn => evw_mark rfl (by first | trivial | exact hn)) ?_
      walk_nrm
      refine O.step1 rfl (fun _ => stepG_region_end) ?_
      refine O.step1 rfl (fun _ => stepG_seq) ?_
      refine O.step1 rfl (fun _ => stepG_seq) ?_
      refine O.step1 rfl (fun _ => stepG_region) ?_; simp only [List.size_toArray, List.length_cons, List.length_nil, Nat.reduceAdd, Nat.zero_add, List.range, List.range.loop]
      refine goI_pureW rfl rfl (by k_ne) (fun _ => by simp [go_sem, *]) (fun wz K hK => ?_); go_simp; (first | refine ⟨rfl, hK _ ?_⟩ | refine hK _ ?_); clear hK K wz; try w_num
      refine O.step1 rfl (fun _ => stepG_region_end) ?_
      refine O.step1 rfl (fun _ => stepG_cond (t := false) rfl) ?_; simp only [if_true, if_false, Bool.false_eq_true, ↓reduceIte]
      refine O.step1 rfl (fun _ => stepG_skip) ?_
      refine O.step1 rfl (fun _ => stepG_ret') ?_
      refine leave0W rfl rfl H.f_wait rfl ?_; walk_nrm
      exact hk _ (RWg.refl _)
    · -- it misses
      have hlt : v' < v := by omega
      refine ⟨_, w₂, #[rd (stA Wg)], 1, false, v', stepG_cas_miss (v := (v' : Int) * KK) (old := S) (n := S + 1) rfl rfl (by k_ne) rfl H.f_casU64 (x_casU64_n L) (x_casU64_b L) (x_casU64_x L) .u64 (x_casU64_f L) rfl rfl rfl hw.cellSt (hw.thaw 0) (by rw [← hS]; simp only [KK]; omega), Nat.le_refl _, ⟨_, _, hw, hmode⟩, rfl, (by first | exact Nat.le_of_eq hv | exact Nat.le_refl _), Nat.le_of_lt hlt, evw_rd hlow, ?_⟩
      clear hw hmode hv hph ph hlow hfew hS
      change (envW W Wg).Go ⟨v', 1, false, N⟩ _ _
      walk_nrm
      refine goI_pureW rfl rfl (by k_ne) (fun _ => by simp [go_sem, *]) (fun wz K hK => ?_); go_simp; (first | refine ⟨rfl, hK _ ?_⟩ | refine hK _ ?_); clear hK K wz; try w_num
      refine O.step1 rfl (fun _ => stepG_region_end) ?_
      refine O.step1 rfl (fun _ => stepG_ret') ?_
      refine leave1W rfl rfl H.f_uCas rfl ?_; walk_nrm
      refine O.step1 rfl (fun _ => stepG_region_end) ?_
      refine O.step1 rfl (fun _ => stepG_cond (t := false) rfl) ?_; simp only [if_true, if_false, Bool.false_eq_true, ↓reduceIte]
      refine O.step1 rfl (fun _ => stepG_skip) ?_
      refine O.step1 rfl (fun _ => stepG_inBlock) ?_
      refine O.step1 rfl (fun _ => stepG_inLoop) ?_
      exact ihv v' hlt _ w₂ (by simp) (by simp) hwg hk
set_option maxRecDepth 100000 in
set_option maxHeartbeats 4000000 in
/-- Wait, as its callers' steps see it. -/
theorem wait_go (hW : Back Try.prog W) {m N : Nat} (hm : m < 2147483647) {b₀ : Frame} {a₀ : Act} {ops₀ : Array Oper} {i₀ : Nat} {rest₀ : List Nat} {k₀ : List Item} {cs : List Frame} {w : World} (hwg : ∃ st sm, WgAt tWg Wg w st sm)
    (hk : ∀ w', RWg tWg Wg w w' → (envW W Wg).Go ⟨0, 0, false, N⟩ (G (b₀.at (a₀.put ((ops₀[i₀]?).bind (·.dst)) (.tuple #[])) (.inRegion ops₀ rest₀ :: k₀)) cs) w') :
    (envW W Wg).Go ⟨m, 0, false, N⟩ (G ((base wgLink.wait).at ⟨#[.pointer (some ⟨Wg, 0, none⟩)] ++ Array.replicate 83 undef, []⟩ [.code (body_wait wgLink)]) (b₀.at a₀ (.inRegion ops₀ (i₀ :: rest₀) :: k₀) :: cs)) w := by
  have O := envW_ok (W := W) (Wg := Wg)
  have hloop := wait_loop (Wg := Wg) (cs := cs) (b₀ := b₀) (a₀ := a₀) (ops₀ := ops₀) (i₀ := i₀) (rest₀ := rest₀) (k₀ := k₀) hW (N := N) m hm
  obtain ⟨L, hL⟩ : ∃ L, L = wgLink := ⟨_, rfl⟩
  have H : WgLib Try.prog L := hL ▸ wgLib
  rw [← hL] at hloop ⊢
  clear hL
  lib_facts
  have HL := Lib.hid hloop
  clear hloop
  simp only [body_wait, waitFn, Option.getD_some]
  refine O.step1 rfl (fun _ => stepG_seq) ?_
  refine O.step1 rfl (fun _ => stepG_cond (t := true) rfl) ?_; simp only [if_true, if_false, Bool.false_eq_true, ↓reduceIte]
  refine O.step1 rfl (fun _ => stepG_region) ?_; simp only [List.size_toArray, List.length_cons, List.length_nil, Nat.reduceAdd, Nat.zero_add, List.range, List.range.loop]
  refine markW hW hm rfl hwg (fun w₁ => stepG_mark0 .disable (by simp) rfl rfl (by k_ne) rfl H.f_disable (x_disable_n L) (x_disable_b L) (x_disable_x L) (x_disable_f L)) rfl (fun n hn => evw_mark rfl trivial) ?_
  walk_nrm
  refine O.step1 rfl (fun _ => stepG_region_end) ?_
  refine O.step1 rfl (fun _ => stepG_block) ?_
  refine O.step1 rfl (fun _ => stepG_loop) ?_
  unfold Hid at HL
  exact HL _ w (by simp) (by simp) hwg hk
end
end Go.Proofs.Ytdedmmjmiakidaa
/- Plain words: what a play asks of the threads that it is given. No condition. -/
namespace Go.Proofs.Ytdedmmjmiakidaa
open Go.Conc Go.RowKit
abbrev fNil : FuncId := 74
theorem fnil_run (d : FuncId) (caps : Array Value) (w : World) : Sem.run Try.prog (binOp .eql 94 (.func (.func d) #[] caps) .nilFunc) w = .ok (.bool false) w := by kernel_rfl
theorem fnil_ev (d : FuncId) (caps : Array Value) (w : World) : Sem.events Try.prog (binOp .eql 94 (.func (.func d) #[] caps) .nilFunc) w #[] = #[] := by kernel_rfl
section
variable {E : Env} {bad : E.ι → Nat → Prop} {n : E.ι} {w : World}
theorem retG (G : E.Good bad) {fn : Func} {t : Array Value} {i : Nat} {w : World} {v : Value} (h : fn.results = #[.tmp i]) (hi : t.getD i undef = v) : ∀ w₁, E.R w w₁ → ∃ es, (results fn t).runT E.P w₁ #[] = (.ok v w₁, es) ∧ E.D n w₁ w₁ es := fun w₁ _ => ⟨#[], by
  rw [G.prog, Sem.runT_eq, results_tmp (t := i) h, events_results_tmp (t := i) h, hi], G.ok.still _ _⟩
set_option maxRecDepth 100000 in
theorem isnil_c (G : E.Good bad) {d : FuncId} {caps : Array Value} {Q : E.ι → Value → World → Prop} (hq : Q n (.bool false) w) : cpsC E 74 #[.func (.func d) #[] caps] Q n w := by
  have O := G.ok
  refine cpsC_body O (by rw [G.prog]; exact Try.func74) rfl ?_
  simp only [Try.ntmps74]
  refine cps_opaque fun Q' hQ => ?_
  walk_nrm
  refine cps_seq O ?_
  (refine cps_region O ?_; simp only [List.size_toArray, List.length_cons, List.length_nil, Nat.reduceAdd, Nat.zero_add, List.range, List.range.loop])
  refine valG G (.bool false) rfl rfl (fun _ => by simp [go_sem]) (fun _ => by go_simp; try (first | rfl | (simp [*]))) ?_; try walk_nrm
  refine cpsR_nil O ?_
  show cps _ _ _ _ _ _
  refine cps_seq O ?_
  (refine cps_region O ?_; simp only [List.size_toArray, List.length_cons, List.length_nil, Nat.reduceAdd, Nat.zero_add, List.range, List.range.loop])
  refine valG G (.func (.func d) #[] caps) rfl rfl (fun _ => by simp [go_sem]) (fun _ => by go_simp; try (first | rfl | (simp [*]))) ?_; try walk_nrm
  refine valG G (.bool false) rfl rfl (fun _ => by simp [go_sem, fnil_ev]) (fun _ => by simp [go_sem, fnil_run]) ?_
  try walk_nrm
  refine valG G (.bool false) rfl rfl (fun _ => by simp [go_sem]) (fun _ => by go_simp; try (first | rfl | (simp [*]))) ?_; try walk_nrm
  refine cpsR_nil O ?_
  exact cps_ret O (hQ _ _ _ _ ⟨.inr rfl, .bool false, retG G rfl rfl, hq⟩)
/-- A row of functions. -/
structure FnRow (bad : Nat → Prop) (v : Value) (fs : List Value) (w : World) : Prop where
  row : w.ownsRow 0 tFn 1 v fs.length fs
  ok : ∀ b, v.ownBlock = some b → ¬ bad b
  fns : ∀ x ∈ fs, ∃ (d : FuncId) (caps : Array Value), x = .func (.func d) #[] caps
set_option maxRecDepth 100000 in
set_option maxHeartbeats 1000000 in
theorem nonil_c (G : E.Good bad) {v : Value} {fs : List Value} (h : FnRow (bad n) v fs w) (hl : fs.length < 1000000) {Q : E.ι → Value → World → Prop} (hq : Q n (.int .i64 (-1)) w) : cpsC E 97 #[v, .func (.func 74) #[] #[]] Q n w := by
  have O := G.ok
  refine cpsC_body O (by rw [G.prog]; exact Try.func97) rfl ?_
  simp only [Try.ntmps97]
  refine cps_opaque fun Q' hQ => ?_
  obtain ⟨ao, co, hv⟩ := own_form0 h.row
  subst hv
  have HH := Lib.hid h
  clear h
  walk_nrm
  refine cps_seq O ?_
  (refine cps_region O ?_; simp only [List.size_toArray, List.length_cons, List.length_nil, Nat.reduceAdd, Nat.zero_add, List.range, List.range.loop])
  refine valG G (.int .i64 0) rfl rfl (fun _ => by simp [go_sem]) (fun _ => by go_simp; try (first | rfl | (simp [*]))) ?_; try walk_nrm
  refine cpsR_nil O ?_
  show cps _ _ _ _ _ _
  refine cps_seq O ?_
  refine cps_seq O ?_
  (refine cps_region O ?_; simp only [List.size_toArray, List.length_cons, List.length_nil, Nat.reduceAdd, Nat.zero_add, List.range, List.range.loop])
  refine valG G (.slice ao fs.length co) rfl rfl (fun _ => by simp [go_sem]) (fun _ => by go_simp; try (first | rfl | (simp [*]))) ?_; try walk_nrm
  refine valG G (.int .i64 fs.length) rfl rfl (fun _ => by simp [go_sem]) (fun _ => by go_simp; try (first | rfl | (simp [*]))) ?_; try walk_nrm
  refine valG G (.int .i64 0) rfl rfl (fun _ => by simp [go_sem]) (fun _ => by go_simp; try (first | rfl | (simp [*]))) ?_; try walk_nrm
  refine cpsR_nil O ?_
  show cps _ _ _ _ _ _
  refine cps_block O ?_
  refine cps_loopm O (fun m n' t w' => n' = n ∧ w' = w ∧ ∃ (i : Nat) (y5 y9 y10 y11 y12 y13 y14 y15 y16 y17 y18 : Value), m + i = fs.length ∧ t = #[.slice ao fs.length co, .func (.func 74) #[] #[], undef, undef, .int .i64 0, y5, .slice ao fs.length co, .int .i64 fs.length, .int .i64 i, y9, y10, y11, y12, y13, y14, y15, y16, y17, y18]) ?_ (m := fs.length) ⟨rfl, rfl, 0, _, _, _, _, _, _, _, _, _, _, _, rfl, rfl⟩
  rintro m n' t w' ⟨rfl, rfl, i, y5, y9, y10, y11, y12, y13, y14, y15, y16, y17, y18, hmi, rfl⟩
  by_cases hi : i < fs.length
  · have h1 : decide (i < fs.length) = true := by simpa using hi
    have h2 : decide ((i : Int) < (fs.length : Int)) = true := by simp; omega
    obtain ⟨g, cap, e⟩ := own_form HH.out.row (by omega)
    cases e
    obtain ⟨x, hx⟩ : ∃ x, fs[i]? = some x := ⟨_, List.getElem?_eq_getElem hi⟩
    obtain ⟨d, caps, rfl⟩ := HH.out.fns x (List.mem_of_getElem? hx)
    have hcell : w'.cell? ⟨g, i, none⟩ = some (.func (.func d) #[] caps) := by
      have := HH.out.row.cells (g := g) rfl i (.func (.func d) #[] caps) (by simp [hx])
      have e : ((⟨g, 0, none⟩ : Addr).add i) = ⟨g, i, none⟩ := by
        unfold Addr.add
        split <;> simp_all
      rw [e] at this
      exact this
    have hg : ¬ bad n' g := HH.out.ok g rfl
    have h4 : decide (i < fs.length) = true := by simpa using hi
    have h7 : i < fs.length := hi
    have h8 : (i : Int) < fs.length := by omega
    clear hx
    refine cps_seq O ?_
    (refine cps_region O ?_; simp only [List.size_toArray, List.length_cons, List.length_nil, Nat.reduceAdd, Nat.zero_add, List.range, List.range.loop])
    refine valG G (.bool true) rfl rfl (fun _ => by simp [go_sem]) (fun _ => by go_simp; try (first | rfl | (simp [*]))) ?_; try walk_nrm
    refine cpsR_nil O ?_
    show cps _ _ _ _ _ _
    refine cps_seq O ?_
    refine cps_cond O (v := true) rfl ?_
    simp only [if_true]
    refine cps_skip O ?_
    show cps _ _ _ _ _ _
    refine cps_seq O ?_
    refine cps_block O ?_
    refine cps_seq O ?_
    (refine cps_region O ?_; simp only [List.size_toArray, List.length_cons, List.length_nil, Nat.reduceAdd, Nat.zero_add, List.range, List.range.loop])
    refine valG G (.int .i64 i) rfl rfl (fun _ => by simp [go_sem]) (fun _ => by go_simp; try (first | rfl | (simp [*]))) ?_; try walk_nrm
    refine valG G (.int .i64 i) rfl rfl (fun _ => by simp [go_sem]) (fun _ => by go_simp; try (first | rfl | (simp [*]))) ?_; try walk_nrm
    refine cpsR_nil O ?_
    show cps _ _ _ _ _ _
    refine cps_seq O ?_
    (refine cps_region O ?_; simp only [List.size_toArray, List.length_cons, List.length_nil, Nat.reduceAdd, Nat.zero_add, List.range, List.range.loop])
    refine valG G (.func (.func fNil) #[] #[]) rfl rfl (fun _ => by simp [go_sem]) (fun _ => by go_simp; try (first | rfl | (simp [*]))) ?_; try walk_nrm
    refine valG G (.slice (some ⟨g, 0, none⟩) fs.length co) rfl rfl (fun _ => by simp [go_sem]) (fun _ => by go_simp; try (first | rfl | (simp [*]))) ?_; try walk_nrm
    refine valG G (.int .i64 i) rfl rfl (fun _ => by simp [go_sem]) (fun _ => by go_simp; try (first | rfl | (simp [*]))) ?_; try walk_nrm
    refine valG G (.pointer (some ⟨g, i, none⟩)) rfl rfl (fun _ => by simp [go_sem, *]) (fun _ => by go_simp; try (first | rfl | (simp [*]))) ?_; try walk_nrm
    refine readG G (ad := ⟨g, i, none⟩) (v := .func (.func d) #[] caps) hg hcell rfl rfl (fun w₁ hc => by simp [go_sem, hc]) (fun w₁ hc => by go_simp) ?_; try walk_nrm
    refine callG G (f := 74) (vals := #[.func (.func d) #[] caps]) rfl rfl (fun w₁ => ?_) (fun w₁ => ?_) Try.func74 rfl rfl (isnil_c G ?_)
    · simp [go_sem, execOp, resolve, invoke, Deferred.ofValue, Act.eval]
    · simp [go_sem, execOp, resolve, invoke, Deferred.ofValue, Act.eval]
    try walk_nrm
    refine cpsR_nil O ?_
    show cps _ _ _ _ _ _
    refine cps_cond O (v := false) rfl ?_
    simp only [Bool.false_eq_true, if_false]
    refine cps_skip O ?_
    show cps _ _ _ _ _ _
    (refine cps_region O ?_; simp only [List.size_toArray, List.length_cons, List.length_nil, Nat.reduceAdd, Nat.zero_add, List.range, List.range.loop])
    have hw1 := wrap_i64 ((i : Int) + 1) (by omega) (by omega)
    refine valG G (.int .i64 (i + 1)) rfl rfl (fun _ => by simp [go_sem]) (fun _ => by go_simp; try (first | rfl | (simp [*]))) ?_; try walk_nrm
    refine valG G (.int .i64 (i + 1)) rfl rfl (fun _ => by simp [go_sem]) (fun _ => by go_simp; try (first | rfl | (simp [*]))) ?_; try walk_nrm
    refine cpsR_nil O ?_
    exact ⟨m - 1, by omega, rfl, rfl, i + 1, _, _, _, _, _, _, _, _, _, _, _, by omega, rfl⟩
  · have h1 : decide (i < fs.length) = false := by simpa using hi
    have h2 : decide ((i : Int) < (fs.length : Int)) = false := by simp; omega
    refine cps_seq O ?_
    (refine cps_region O ?_; simp only [List.size_toArray, List.length_cons, List.length_nil, Nat.reduceAdd, Nat.zero_add, List.range, List.range.loop])
    refine valG G (.bool false) rfl rfl (fun _ => by simp [go_sem]) (fun _ => by go_simp; try (first | rfl | (simp [*]))) ?_; try walk_nrm
    refine cpsR_nil O ?_
    show cps _ _ _ _ _ _
    refine cps_seq O ?_
    refine cps_cond O (v := false) rfl ?_
    simp only [Bool.false_eq_true, if_false]
    refine cps_exit O ?_
    show cps _ _ _ _ _ _
    refine cps_seq O ?_
    (refine cps_region O ?_; simp only [List.size_toArray, List.length_cons, List.length_nil, Nat.reduceAdd, Nat.zero_add, List.range, List.range.loop])
    refine valG G (.int .i64 (-1)) rfl rfl (fun _ => by simp [go_sem]) (fun _ => by go_simp; try (first | rfl | (simp [*]))) ?_; try walk_nrm
    refine cpsR_nil O ?_
    exact cps_ret O (hQ _ _ _ _ ⟨.inr rfl, .int .i64 (-1), retG G rfl rfl, hq⟩)
set_option maxRecDepth 100000 in
theorem hasnil_c (G : E.Good bad) {v : Value} {fs : List Value} (h : FnRow (bad n) v fs w) (hl : fs.length < 1000000) {Q : E.ι → Value → World → Prop} (hq : Q n (.bool false) w) : cpsC E 73 #[v, .func (.func 74) #[] #[]] Q n w := by
  have O := G.ok
  refine cpsC_body O (by rw [G.prog]; exact Try.func73) rfl ?_
  simp only [Try.ntmps73]
  refine cps_opaque fun Q' hQ => ?_
  obtain ⟨ao, co, hv⟩ := own_form0 h.row
  subst hv
  have HH := Lib.hid h
  clear h
  walk_nrm
  refine cps_seq O ?_
  (refine cps_region O ?_; simp only [List.size_toArray, List.length_cons, List.length_nil, Nat.reduceAdd, Nat.zero_add, List.range, List.range.loop])
  refine valG G (.bool false) rfl rfl (fun _ => by simp [go_sem]) (fun _ => by go_simp; try (first | rfl | (simp [*]))) ?_; try walk_nrm
  refine cpsR_nil O ?_
  show cps _ _ _ _ _ _
  refine cps_seq O ?_
  (refine cps_region O ?_; simp only [List.size_toArray, List.length_cons, List.length_nil, Nat.reduceAdd, Nat.zero_add, List.range, List.range.loop])
  refine valG G (.slice ao fs.length co) rfl rfl (fun _ => by simp [go_sem]) (fun _ => by go_simp; try (first | rfl | (simp [*]))) ?_; try walk_nrm
  refine valG G (.func (.func fNil) #[] #[]) rfl rfl (fun _ => by simp [go_sem]) (fun _ => by go_simp; try (first | rfl | (simp [*]))) ?_; try walk_nrm
  refine callS G (f := 97) (vals := #[.slice ao fs.length co, .func (.func 74) #[] #[]]) rfl rfl rfl Try.func97 rfl rfl rfl (nonil_c G HH.out hl ?_)
  try walk_nrm
  refine valG G (.bool false) rfl rfl (fun _ => by simp [go_sem]) (fun _ => by go_simp; try (first | rfl | (simp [*]))) ?_; try walk_nrm
  refine valG G (.bool false) rfl rfl (fun _ => by simp [go_sem]) (fun _ => by go_simp; try (first | rfl | (simp [*]))) ?_; try walk_nrm
  refine cpsR_nil O ?_
  exact cps_ret O (hQ _ _ _ _ ⟨.inr rfl, .bool false, retG G rfl rfl, hq⟩)
set_option maxRecDepth 100000 in
/-- Nothing is wrong. -/
theorem wrong_c (G : E.Good bad) {v : Value} {fs : List Value} (h : FnRow (bad n) v fs w) (hl : fs.length ≤ 16) (h0 : fs.length ≠ 0) {Q : E.ι → Value → World → Prop} (hq : Q n (.int .i64 0) w) : cpsC E 52 #[v] Q n w := by
  have O := G.ok
  refine cpsC_body O (by rw [G.prog]; exact Try.func52) rfl ?_
  simp only [Try.ntmps52]
  refine cps_opaque fun Q' hQ => ?_
  obtain ⟨ao, co, hv⟩ := own_form0 h.row
  subst hv
  have HH := Lib.hid h
  clear h
  have q1 : decide (fs.length = 0) = false := decide_eq_false h0
  have q2 : decide ((fs.length : Int) = 0) = false := decide_eq_false (by omega)
  have q3 : ((fs.length : Int) == 0) = false := by simp; exact fun h => h0 (by rw [h]; rfl)
  have q4 : decide ((16 : Int) < fs.length) = false := decide_eq_false (by omega)
  have q5 : decide (16 < fs.length) = false := decide_eq_false (by omega)
  walk_nrm
  refine cps_seq O ?_
  (refine cps_region O ?_; simp only [List.size_toArray, List.length_cons, List.length_nil, Nat.reduceAdd, Nat.zero_add, List.range, List.range.loop])
  refine valG G (.int .i64 0) rfl rfl (fun _ => by simp [go_sem]) (fun _ => by go_simp; try (first | rfl | (simp [*]))) ?_; try walk_nrm
  refine cpsR_nil O ?_
  show cps _ _ _ _ _ _
  refine cps_seq O ?_
  refine cps_block O ?_
  refine cps_seq O ?_
  (refine cps_region O ?_; simp only [List.size_toArray, List.length_cons, List.length_nil, Nat.reduceAdd, Nat.zero_add, List.range, List.range.loop])
  refine valG G (.slice ao fs.length co) rfl rfl (fun _ => by simp [go_sem]) (fun _ => by go_simp; try (first | rfl | (simp [*]))) ?_; try walk_nrm
  refine callS G (f := 73) (vals := #[.slice ao fs.length co, .func (.func 74) #[] #[]]) rfl rfl rfl Try.func73 rfl rfl rfl (hasnil_c G HH.out (by omega) ?_)
  try walk_nrm
  refine valG G (.bool false) rfl rfl (fun _ => by simp [go_sem]) (fun _ => by go_simp; try (first | rfl | (simp [*]))) ?_; try walk_nrm
  refine cpsR_nil O ?_
  show cps _ _ _ _ _ _
  refine cps_cond O (v := false) rfl ?_
  simp only [Bool.false_eq_true, if_false]
  refine cps_seq O ?_
  (refine cps_region O ?_; simp only [List.size_toArray, List.length_cons, List.length_nil, Nat.reduceAdd, Nat.zero_add, List.range, List.range.loop])
  refine valG G (.slice ao fs.length co) rfl rfl (fun _ => by simp [go_sem]) (fun _ => by go_simp; try (first | rfl | (simp [*]))) ?_; try walk_nrm
  refine valG G (.int .i64 fs.length) rfl rfl (fun _ => by simp [go_sem]) (fun _ => by go_simp; try (first | rfl | (simp [*]))) ?_; try walk_nrm
  refine valG G (.bool false) rfl rfl (fun _ => by simp [go_sem]) (fun _ => by go_simp; try (first | rfl | (simp [*]))) ?_; try walk_nrm
  refine valG G (.bool false) rfl rfl (fun _ => by simp [go_sem]) (fun _ => by go_simp; try (first | rfl | (simp [*]))) ?_; try walk_nrm
  refine cpsR_nil O ?_
  show cps _ _ _ _ _ _
  refine cps_cond O (v := false) rfl ?_
  simp only [Bool.false_eq_true, if_false]
  refine cps_seq O ?_
  (refine cps_region O ?_; simp only [List.size_toArray, List.length_cons, List.length_nil, Nat.reduceAdd, Nat.zero_add, List.range, List.range.loop])
  refine valG G (.slice ao fs.length co) rfl rfl (fun _ => by simp [go_sem]) (fun _ => by go_simp; try (first | rfl | (simp [*]))) ?_; try walk_nrm
  refine valG G (.int .i64 fs.length) rfl rfl (fun _ => by simp [go_sem]) (fun _ => by go_simp; try (first | rfl | (simp [*]))) ?_; try walk_nrm
  refine valG G (.bool false) rfl rfl (fun _ => by simp [go_sem]) (fun _ => by go_simp; try (first | rfl | (simp [*]))) ?_; try walk_nrm
  refine valG G (.bool false) rfl rfl (fun _ => by simp [go_sem]) (fun _ => by go_simp; try (first | rfl | (simp [*]))) ?_; try walk_nrm
  refine cpsR_nil O ?_
  show cps _ _ _ _ _ _
  refine cps_cond O (v := false) rfl ?_
  simp only [Bool.false_eq_true, if_false]
  refine cps_skip O ?_
  show cps _ _ _ _ _ _
  refine cps_seq O ?_
  (refine cps_region O ?_; simp only [List.size_toArray, List.length_cons, List.length_nil, Nat.reduceAdd, Nat.zero_add, List.range, List.range.loop])
  refine valG G (.int .i64 0) rfl rfl (fun _ => by simp [go_sem]) (fun _ => by go_simp; try (first | rfl | (simp [*]))) ?_; try walk_nrm
  refine cpsR_nil O ?_
  exact cps_ret O (hQ _ _ _ _ ⟨.inr rfl, .int .i64 0, retG G rfl rfl, hq⟩)
end
end Go.Proofs.Ytdedmmjmiakidaa
/- Plain words: into a play's company, into the wait, out of it. No condition. -/
namespace Go.Proofs.Ytdedmmjmiakidaa
open Go.Conc Go.RowKit
open Go.ConcN (sumTo upd sumTo_upd upd_ne upd_same)
open Go.ConcR (KK wgBlock WgAt stA smA rd wr mk)
section
variable {X : Spec} {W : Machine → Trace → Prop} {Wg : Nat} {A : MI X} {w : World} {x : LX} {g : Goroutine}
/-- A play that has not begun. -/
def MI.empty (X : Spec) (n : Nat) : MI X := ⟨[], [], n, 0, 0, fun _ => False⟩
theorem no_seat (s : SV) : ¬ (Membership.mem (γ := Tab) [] s) := fun ⟨v, hv⟩ => nomatch hv
theorem empty_ok {n : Nat} (h : 0 < n) : (MI.empty X n).Ok Wg := ⟨h, fun s hs => absurd hs (no_seat s), fun s hs => absurd hs (no_seat s), fun _ h => h.elim⟩
/-- The group is laid: into the play. -/
theorem intoM (hW : Back Try.prog W) (hx : x.wg = none) (hn : 0 < x.n) {b : Frame} {a : Act} {k : List Item} {cs : List Frame} {ops : Array Oper} {i : Nat} {l : List Nat} {o : Oper} {v : Value} {ob : Obj} (ho : ops[i]? = some o) (hw : Region.wanted o (yielded ops a.tmps) = true) (hke : b.kind ≠ .early)
    (he : ∀ w₁, (execOp a.eval o).events Try.prog w₁ #[] = #[]) (hr : ∀ w₁ : World, w₁.heap.size = w.heap.size → (execOp a.eval o).run Try.prog w₁ = .ok (.value v) (w₁.alloc ob)) (hob : ∀ w₁ : World, w₁.heap.size = w.heap.size → WgAt tWg w.heap.size (w₁.alloc ob) 0 0)
    (h : (envM W X w.heap.size).Go (MI.empty X x.n) (G (b.at (a.put o.dst v) (.inRegion ops l :: k)) cs) (w.alloc ob)) : (envL W).Go x (G (b.at a (.inRegion ops (i :: l) :: k)) cs) w := goL fun w0 hR0 gs T q L hP hg hsz => by
  refine lop hW rfl hg L hP fun w₁ hR => ?_
  have hat := atRel_trans _ _ _ hR0 hR
  obtain ⟨d, hd⟩ := hat
  have hs1 : w₁.heap.size = w.heap.size := by rw [hd]; rfl
  have hl : Go.Conc.listed Try.prog b.fn a o w₁ = #[] := by unfold Go.Conc.listed; rw [he w₁, seen_none]
  refine ⟨_, _, _, stepG_value ho hw hke (hr w₁ hs1), ⟨by rw [(alloc_at w₁ ob).2.1]; exact Nat.le_succ _, by rw [hl]; simp⟩, fun gs' T₀ q' fn pos hsz' L' hP' ha' hlow => ?_⟩
  have hbase : Base Try.prog tWg w.heap.size (WgL w.heap.size) (fun _ => True) (fun _ => False) (fun _ => False) (fun _ => none) 0 (fun x => x = 0) 0 0 (fun _ => 0) gs' (T₀ ++ MemOp.ofEvents 0 fn pos (Go.Conc.listed Try.prog b.fn a o w₁)) (w₁.alloc ob) q' := by
    refine Base.ofL (Shun := x.sh) L' hP' (fun l hl => ?_) (fun j acc hacc hwl => ?_) (hob w₁ hs1)
    · unfold LX.sh at hl
      rw [hx] at hl
      exact hl.elim
    · obtain ⟨ad, hloc, hblk⟩ := hwl
      unfold touchAt at hacc
      rw [hl] at hacc
      obtain ⟨op, h1, h2⟩ := Option.bind_eq_some_iff.1 hacc
      have h1 : (T₀.act? j) = some op := by simpa [MemOp.ofEvents] using h1
      obtain ⟨op', h3, rfl⟩ := Option.map_eq_some_iff.1 (show (T₀[j]?).map (·.act) = some op from h1)
      have := touch_low h2 (hlow op' (Array.mem_of_getElem? h3))
      rw [hloc] at this
      have this : ad.block < w₁.heap.size := this
      omega
  have hG : (envM W X w.heap.size).Go (MI.empty X x.n) (G (b.at (a.put o.dst v) (.inRegion ops l :: k)) cs) (w₁.alloc ob) := by
    have hR2 : RWg tWg w.heap.size (w.alloc ob) (w₁.alloc ob) := by
      rw [hd]
      refine ⟨fun _ _ => rfl, fun _ => ⟨0, 0, ?_⟩, fun _ hn => ?_, rfl, rfl, rfl, rfl⟩
      · have := hob w₁ hs1
        rw [hd] at this
        exact this
      · exact ⟨_, hn⟩
    exact GoesI.rely envM_ok.rtrans h hR2
  refine winM (A := MI.empty X x.n) hW (empty_ok hn) hG (fun _ => 0) gs' _ q' ?_ ?_ ha'
  · have e1 : KT (MI.empty X x.n).θ = fun _ => True := funext fun w => propext ⟨fun _ => trivial, fun _ s hs => absurd hs (no_seat s)⟩
    have e3 : isCh (MI.empty X x.n).θ = fun _ => False := funext fun c => propext ⟨fun ⟨s, hs, _⟩ => no_seat s hs, fun h => h.elim⟩
    have e4 : (MI.empty X x.n).seat w.heap.size = fun _ => none := by
      funext j
      unfold MI.seat MI.empty
      simp
    rw [e1, e3, e4]
    exact hbase
  · rw [hsz', hsz]; rfl
/-- Into the wait. -/
theorem intoW (hW : Back Try.prog W) (hall : ∀ p ∈ A.thr, p.2 = none) (hd : A.d = 0) (hcr : A.cr = 0) (hm : A.off + A.thr.length < 2147483647) (h : (envW W Wg).Go ⟨A.off + A.thr.length, 0, false, A.off + A.thr.length⟩ g w) : (envM W X Wg).Go A g w := goM fun w₁ hR ct gs T q B hsz hg => by
  have hno : A.seat Wg = fun _ => none := by
    funext x
    cases e : A.seat Wg x with
    | none => rfl
    | some st =>
      obtain ⟨i, s, pc, n, _, hi, _⟩ := MI.seat_inv e
      have := hall _ (List.mem_of_getElem? hi)
      cases this
  rw [hno, hd, hcr] at B
  have hct : ∀ i, ct i = 0 ∨ ct i = 1 := fun i => by have := (B.ones i).1; omega
  have hsum : ∀ N, sumTo N ct ≤ N := fun N => by
    induction N with
    | zero => exact Nat.le_refl _
    | succ N ih => show sumTo N ct + ct N ≤ N + 1; have := (B.ones N).1; omega
  have B2 := WB.ofBase B hct ((B.ones 0).2 rfl)
  refine winW (x := ⟨A.off + A.thr.length, 0, false, A.off + A.thr.length⟩) hW hm (GoesI.rely envW_ok.rtrans h hR) (fun i => if ct i = 1 then 4 else 0) gs T q ?_ hg
  have hs := hsum gs.size
  rw [hsz] at B2 hs
  exact ⟨B2.size, B2.idle, B2.above, B2.zero, B2.past, B2.deaf, B2.wg, Nat.le_trans B2.few hs⟩
/-- Out of it. -/
theorem outW (hW : Back Try.prog W) {N : Nat} (h : ∀ w₁, RWg tWg Wg w w₁ → (envL W).Go ⟨some Wg, N⟩ g w₁) : (envW W Wg).Go ⟨0, 0, false, N⟩ g w := goW fun w₁ hR ph gs T q B hg => by
  have hf : sumTo N (cnt4 ph) = 0 := Nat.le_zero.1 B.few
  obtain ⟨st, sm, _, hmode⟩ := B.wg
  have hph : ph = fun _ => 0 := by
    funext i
    cases hmode with
    | opn hz =>
      rcases Nat.lt_or_ge i N with hi | hi
      · exact (hz i).resolve_right (cnt4_zero hf i hi)
      · exact (B.above i hi).2
  rw [hph] at B
  obtain ⟨L, hP⟩ := WB.toL (m := 0) (N := N) B
  exact winL (x := ⟨some Wg, N⟩) hW (h w₁ hR) gs T q L hP hg B.size
end
end Go.Proofs.Ytdedmmjmiakidaa
