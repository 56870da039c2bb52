/- Plain words: main gives a thread a turn, whole. No condition. -/
import Derived.Test.YtdedmmjmiakidaaFwAF
import Derived.Conc.Own2
set_option linter.unusedVariables false
set_option linter.unusedSimpArgs false
/- Plain words: main gives a thread a turn, whole. No condition. -/
namespace Go.Proofs.Ytdedmmjmiakidaa
open Go.Conc Go.RowKit
open Go.ConcR (KK wgBlock WgAt stA smA rd wr mk)
section
variable {X : Spec} {W : Machine → Trace → Prop} {Wg : Nat} {A : MI X} {w : World}
theorem goI_readM {b : Frame} {a : Act} {k : List Item} {cs : List Frame} {ops : Array Oper} {i : Nat} {l : List Nat} {o : Oper} {ad : Addr} {v : Value} (hn : ad.block ≠ Wg) (hc : w.cell? ad = some v) (ho : ops[i]? = some o) (hw : Region.wanted o (yielded ops a.tmps) = true) (hke : b.kind ≠ .early)
    (he : ∀ w₁, w₁.cell? ad = some v → (execOp a.eval o).events Try.prog w₁ #[] = #[⟨.cell ad, false, false⟩]) (hr : ∀ w₁, w₁.cell? ad = some v → (execOp a.eval o).run Try.prog w₁ = .ok (.value v) w₁)
    (h : (envM W X Wg).Go A (G (b.at (a.put o.dst v) (.inRegion ops l :: k)) cs) w) : (envM W X Wg).Go A (G (b.at a (.inRegion ops (i :: l) :: k)) cs) w :=
  goI_read envM_ok (ad := ad) (v := v) ho hw hke (fun w₁ hR => he w₁ (rwg_cell hn hc hR)) (fun w₁ hR => hr w₁ (rwg_cell hn hc hR)) (fun w₁ hR => dh_reads fun e hel => by
    simp only [List.mem_toArray, List.mem_cons, List.not_mem_nil, or_false] at hel
    refine ⟨ad, hel, fun ⟨a, e, hb⟩ => hn ?_, size_of_cell (rwg_cell hn hc hR)⟩
    have e := Loc.cell.inj e
    subst e
    exact hb) h
/-- The play behind a turn that has been heard. -/
def MI.played (A : MI X) (i : Nat) (s : SV) (n : Nat) (p : Option X.Pc) : MI X :=
  { A with thr := A.thr.set i (s, p.map fun pc => (pc, n)), θ := tabOf X (A.thr.set i (s, p.map fun pc => (pc, n))), still := StT (tabOf X (A.thr.set i (s, p.map fun pc => (pc, n)))) }
/-- No two seats lie in one block. -/
def MI.Apart (A : MI X) : Prop := ∀ (i j : Nat) (p q : SV × Option (X.Pc × Nat)), A.thr[i]? = some p → A.thr[j]? = some q → i ≠ j → p.1.blk ≠ q.1.blk
end
section
variable {Y : Core} {W : Machine → Trace → Prop} {Wg B0 pb : Nat} {o₀ : Own} {A : MI Y.spec} {w : World} {a : Y.Full} {svs : List SV} {tr : List Turned} {vs vt : Value} {θ : Tab}
theorem said_parts (X : Spec) (n : Nat) (p : Option X.Pc) : ∃ (x y : Int) (z : Bool), saidP (X := X) p = .agg #[.int .u8 x, .int .i64 y, .bool z] ∧ lastV X (p.map fun pc => (pc, n)) = (.int .u8 x, .int .i64 y, .bool z) := by
  cases p with
  | none => exact ⟨0, 0, true, rfl, rfl⟩
  | some pc => exact ⟨(X.mark pc).1, (X.mark pc).2, false, rfl, rfl⟩
/-- What main says down in a seat. -/
theorem dh_seat {θ : Tab} {w w' : World} {s : SV} {x0 y0 z0 x y z : Value} {es : Array Event} (hsW : s.blk ≠ Wg) (hb : w.heap[s.blk]? = some (.cells (seatCells s x0 y0 z0) tSeat (0, 0))) (hb' : w'.heap[s.blk]? = some (.cells (seatCells s x y z) tSeat (0, 0)))
    (ho : ∀ b, b ≠ s.blk → w'.heap[b]? = w.heap[b]?) (hs : w'.heap.size = w.heap.size) (he : ∀ e ∈ es, ∃ o, 2 < o ∧ e = ⟨.cell ⟨s.blk, o, none⟩, true, false⟩) : DH Wg (WgL Wg) (KT θ) (StT θ) (isCh θ) w w' es := by
  refine ⟨fun c k hc hh => ?_, ho Wg hsW.symm, fun hk s' hs' => ?_, Nat.le_of_eq hs.symm, fun e hel => ?_⟩
  · rw [ho c fun e => by rw [e, hb] at hh; cases hh]
    exact hh
  · obtain ⟨⟨x', y', z', h1⟩, h2⟩ := hk s' hs'
    refine ⟨?_, ?_⟩
    · by_cases e : s'.blk = s.blk
      · rw [e] at h1 ⊢
        rw [hb] at h1
        refine ⟨x, y, z, ?_⟩
        rw [hb']
        simp only [Option.some.injEq, Obj.cells.injEq, seatCells, Array.mk.injEq, List.cons.injEq, and_true] at h1 ⊢
        simp_all
      · exact ⟨x', y', z', by rw [ho _ e]; exact h1⟩
    · rw [ho _ fun e => by rw [e, hb] at h2; simp [seatCells] at h2]
      exact h2
  · obtain ⟨o, h2, rfl⟩ := he e hel
    refine ⟨fun q hq => ?_, by simp, by simp, (Array.getElem?_eq_some_iff.1 hb').1⟩
    simp [MemAct.ofEvent, MemAct.touch?] at hq
    subst hq
    refine ⟨fun hS => ?_, fun hS => ?_⟩
    · exfalso
      obtain ⟨s', hs', h | h | h | h⟩ := hS <;> (have h := Loc.cell.inj h; simp only [Addr.mk.injEq] at h; omega)
    · obtain ⟨a, h, hb⟩ := hS
      have h := Loc.cell.inj h
      subst h
      exact absurd hb hsW
theorem mem_congr {Wg : Nat} {θ θ' : Tab} (h : ∀ s, s ∈ θ' ↔ s ∈ θ) : sig Wg θ' = sig Wg θ ∧ KT θ' = KT θ ∧ isCh θ' = isCh θ ∧ StT θ' = StT θ ∧ (Off Wg θ' ↔ Off Wg θ) ∧ inF Wg θ' = inF Wg θ := by
  have h1 : KT θ' = KT θ := by funext w; unfold KT; simp only [h]
  have h2 : isCh θ' = isCh θ := by funext w; unfold isCh; simp only [h]
  have h3 : inF Wg θ' = inF Wg θ := by funext w; unfold inF; simp only [h]
  refine ⟨?_, h1, h2, ?_, ?_, h3⟩
  · unfold sig
    have : tyF Wg θ' = tyF Wg θ := by
      funext b
      have hx : (∃ s ∈ θ', b = s.box) ↔ ∃ s ∈ θ, b = s.box := by simp only [h]
      unfold tyF
      by_cases e : b = Wg
      · rw [if_pos e, if_pos e]
      · rw [if_neg e, if_neg e]
        by_cases e2 : ∃ s ∈ θ, b = s.box
        · rw [if_pos e2, if_pos (hx.2 e2)]
        · rw [if_neg e2, if_neg fun z => e2 (hx.1 z)]
    rw [h2, h3, this]
  · funext l; unfold StT; simp only [h]
  · unfold Off; simp only [h]
theorem tab_set {X : Spec} {thr : List (SV × Option (X.Pc × Nat))} {i : Nat} {s : SV} {q q' : Option (X.Pc × Nat)} (hi : thr[i]? = some (s, q)) (s' : SV) : s' ∈ tabOf X (thr.set i (s, q')) ↔ s' ∈ tabOf X thr := by
  have hl := (List.getElem?_eq_some_iff.1 hi).1
  rw [tab_mem, tab_mem]
  constructor
  · rintro ⟨r, hr⟩
    rcases List.mem_or_eq_of_mem_set hr with h | h
    · exact ⟨r, h⟩
    · simp only [Prod.mk.injEq] at h
      exact ⟨q, by rw [h.1]; exact List.mem_of_getElem? hi⟩
  · rintro ⟨r, hr⟩
    obtain ⟨j, hj⟩ := List.mem_iff_getElem?.1 hr
    by_cases e : j = i
    · subst e
      rw [hi] at hj
      have := Option.some.inj hj
      simp only [Prod.mk.injEq] at this
      exact ⟨q', by rw [← this.1]; exact List.mem_of_getElem? (List.getElem?_set_self hl)⟩
    · exact ⟨r, List.mem_of_getElem? (by rw [List.getElem?_set_ne (fun z => e z.symm)]; exact hj)⟩
/-- What main knows behind what it has heard. -/
theorem toldG {θ' : Tab} {s : SV} {a' : Y.Full} {w₁ w5 : World} {x0 y0 z0 x y z : Value} (hA : Off Wg θ) (h : PK Y Wg B0 pb o₀ θ a svs tr vs vt w) (hmem : ∀ s', s' ∈ θ' ↔ s' ∈ θ) (hs : s ∈ θ) (hlt : ∀ s' x' y' z', List.Mem (s', x', y', z') θ' → (s' = s ∧ x' = x ∧ y' = y ∧ z' = z) ∨ (s'.blk ≠ s.blk ∧ List.Mem (s', x', y', z') θ))
    (hwd1 : Wd Wg θ w₁) (hr : RepT Y.spec Wg θ (a', snap (mineB o₀ pb vs vt) w) w₁) (hb0 : w₁.heap[s.blk]? = some (.cells (seatCells s x0 y0 z0) tSeat (0, 0))) (h5 : w5.heap[s.blk]? = some (.cells (seatCells s x y z) tSeat (0, 0)))
    (hoth : ∀ b, b ≠ s.blk → w5.heap[b]? = w₁.heap[b]?) (hszz : w5.heap.size = w₁.heap.size) (hos : w5.os = w₁.os ∧ w5.output = w₁.output) : PK Y Wg B0 pb o₀ θ' a' svs tr vs vt w5 := by
  obtain ⟨c1, c2, c3, c4, c5, c6⟩ := mem_congr (Wg := Wg) hmem
  have hsW : s.blk ≠ Wg := (hA s hs).1
  have hkt : KT θ w5 := (dh_seat (θ := θ) (es := #[]) hsW hb0 h5 hoth hszz (by simp)).keep hwd1.kt
  have hwd5 : Wd Wg θ' w5 := by
    refine ⟨by rw [c2]; exact hkt, ?_, fun c hc => ?_, fun s' x' y' z' hm => ?_⟩
    · obtain ⟨st, sm, hw⟩ := hwd1.wg
      refine ⟨st, sm, ?_⟩
      unfold WgAt at *
      rw [hoth Wg hsW.symm]; exact hw
    · rw [c3] at hc
      obtain ⟨k, hk⟩ := hwd1.ch c hc
      exact ⟨k, by rw [hoth c fun e => by rw [e, hb0] at hk; cases hk]; exact hk⟩
    · rcases hlt s' x' y' z' hm with ⟨rfl, rfl, rfl, rfl⟩ | ⟨hne, hm⟩
      · exact h5
      · rw [hoth s'.blk hne]
        exact hwd1.lt s' x' y' z' hm
  refine PK.behind hA h (fun b => by rw [c6]) hwd5 (fun u hu => ?_) (c5.2 hA)
  rw [c1] at hu
  refine hr u ⟨fun b hb => ?_, hu.bad, real_of hA hwd1.kt hwd1.wg, hu.size.trans hszz, hu.os.trans hos.1, hu.output.trans hos.2, fun j q hj => by omega, fun b _ _ _ => no_steps b⟩
  rw [hu.heap b hb]
  exact hoth b fun e => hb (by subst e; exact .inr ⟨s, hs, .inl rfl⟩)
theorem told {A : MI Y.spec} {i n : Nat} {s : SV} {pc : Y.Pc × Y.Pg} {a' : Y.Full} {p : Option (Y.Pc × Y.Pg)} {w₁ w5 : World} {x0 y0 z0 x y z : Value} (h : PK Y Wg B0 pb o₀ A.θ a svs tr vs vt w) (hA : A.Ok Wg) (hAp : A.Apart) (hθ : A.θ = tabOf Y.spec A.thr) (hi : A.thr[i]? = some (s, some (pc, n + 1)))
    (hwd1 : Wd Wg A.θ w₁) (hr : RepT Y.spec Wg A.θ (a', snap (mineB o₀ pb vs vt) w) w₁) (hlast : lastV Y.spec (p.map fun pc => (pc, n)) = (x, y, z)) (hb0 : w₁.heap[s.blk]? = some (.cells (seatCells s x0 y0 z0) tSeat (0, 0))) (h5 : w5.heap[s.blk]? = some (.cells (seatCells s x y z) tSeat (0, 0)))
    (hoth : ∀ b, b ≠ s.blk → w5.heap[b]? = w₁.heap[b]?) (hszz : w5.heap.size = w₁.heap.size) (hos : w5.os = w₁.os ∧ w5.output = w₁.output) : PK Y Wg B0 pb o₀ (A.played i s n p).θ a' svs tr vs vt w5 := by
  refine toldG hA.off h (fun s' => by rw [hθ]; exact tab_set hi s') (by rw [hθ]; exact tab_mem.2 ⟨_, List.mem_of_getElem? hi⟩) (fun s' x' y' z' hm => ?_) hwd1 hr hb0 h5 hoth hszz hos
  obtain ⟨⟨s2, q⟩, hm1, hm2⟩ := List.mem_map.1 hm
  simp only [Prod.mk.injEq] at hm2
  obtain ⟨rfl, hm2⟩ := hm2
  obtain ⟨j, hj⟩ := List.mem_iff_getElem?.1 hm1
  by_cases e : j = i
  · subst e
    rw [List.getElem?_set_self (List.getElem?_eq_some_iff.1 hi).1] at hj
    have := Option.some.inj hj
    simp only [Prod.mk.injEq] at this
    obtain ⟨rfl, rfl⟩ := this
    rw [hlast] at hm2
    simp only [Prod.mk.injEq] at hm2
    obtain ⟨rfl, rfl, rfl⟩ := hm2
    exact .inl ⟨rfl, rfl, rfl, rfl⟩
  · rw [List.getElem?_set_ne (fun z => e z.symm)] at hj
    refine .inr ⟨hAp j i _ _ hj hi e, ?_⟩
    rw [hθ]
    exact List.mem_map.2 ⟨(s2, q), List.mem_of_getElem? hj, by rw [hm2]⟩
/-- The text behind the turn's being written down. -/
noncomputable def r5code : Code := match (Try.f69.body.getD .skip) with
  | .seq _ (.seq _ (.seq _ (.seq _ c))) => c
  | c => c
set_option maxRecDepth 100000 in
set_option maxHeartbeats 4000000 in
theorem take_turn (hW : Back Try.prog W) (h : PK Y Wg B0 pb o₀ A.θ a svs tr vs vt w) (hA : A.Ok Wg) (hL : A.Lone) (hAp : A.Apart) (hd : A.d = 0) (hθ : A.θ = tabOf Y.spec A.thr) (hst : A.still = StT A.θ) {i : Nat} {s : SV} {pc : Y.Pc × Y.Pg} {n : Nat} (hi : A.thr[i]? = some (s, some (pc, n + 1))) (hok : a.2 (Y.tid pc.1) = pc.2)
    {Q : MI Y.spec → Exit → Array Value → World → Prop} {v0 v1 v2 v3 v4 z6 z7 z8 z9 z10 z11 z12 z13 z14 z15 z16 z17 z18 z19 z20 z21 z22 z23 z24 z25 z26 z27 z28 z29 z30 z31 z32 z33 z34 z35 z36 z37 z38 z39 z40 z41 z42 z43 z44 z45 z46 z47 z48 z49 z50 z51 z52 z53 z54 z55 z56 z57 z58 z59 z60 z61 z62 z63 : Value}
    (hq : ∀ (a' : Y.Full) (p' : Option (Y.Pc × Y.Pg)), Y.Step (Y.tid pc.1) a.2 (Y.next pc.1 a.1) a' p' → ∀ w' y64 y65 y66 y67 y68 y69 y70 y71 y72 y73 y74 y75 y76, PK Y Wg B0 pb o₀ (A.played i s n p').θ a' svs tr vs vt w' → Q (A.played i s n p') .ret #[v0, v1, v2, v3, .bool true, .pointer (some ⟨s.blk, 0, none⟩), z6, z7, z8, z9, z10, z11, z12, z13, z14, z15, z16, z17, z18, z19, z20, z21, z22, z23, z24, z25, z26, z27, z28, z29, z30, z31, z32, z33, z34, z35, z36, z37, z38, z39, z40, z41, z42, z43, z44, z45, z46, z47, z48, z49, z50, z51, z52, z53, z54, z55, z56, z57, z58, z59, z60, z61, z62, z63, y64, y65, y66, y67, y68, y69, y70, y71, y72, y73, y74, y75, y76] w') :
    cps (envM W Y.spec Wg) r5code Q A #[v0, v1, v2, v3, v4, .pointer (some ⟨s.blk, 0, none⟩), z6, z7, z8, z9, z10, z11, z12, z13, z14, z15, z16, z17, z18, z19, z20, z21, z22, z23, z24, z25, z26, z27, z28, z29, z30, z31, z32, z33, z34, z35, z36, z37, z38, z39, z40, z41, z42, z43, z44, z45, z46, z47, z48, z49, z50, z51, z52, z53, z54, z55, z56, z57, z58, z59, z60, z61, z62, z63, undef, undef, undef, undef, undef, undef, undef, undef, undef, undef, undef, undef, undef] w := by
  have O := envM_ok (W := W) (X := Y.spec) (Wg := Wg)
  have hm : List.Mem (s, Value.int .u8 (Y.mark pc.1).1, Value.int .i64 (Y.mark pc.1).2, Value.bool false) A.θ := by
    rw [hθ]
    exact List.mem_map.2 ⟨_, List.mem_of_getElem? hi, rfl⟩
  obtain ⟨hsx, hsy, _, _, _⟩ := LT.cells h.wd.lt hm
  have hs : s ∈ A.θ := ⟨_, hm⟩
  have hsW : s.blk ≠ Wg := (hA.off s hs).1
  have Hθ := Lib.hid hθ
  have Hst := Lib.hid hst
  have Hd := Lib.hid hd
  have Hi := Lib.hid hi
  clear hθ hst hd hi
  simp only [r5code, Try.f69, Option.getD_some]
  intro b k cs hf hk
  have hke : b.kind ≠ .early := by simpa using hf.kind
  refine O.step1 rfl (fun _ => stepG_seq) ?_
  refine O.step1 rfl (fun _ => stepG_region) ?_
  simp only [List.size_toArray, List.length_cons, List.length_nil, Nat.reduceAdd, Nat.zero_add, List.range, List.range.loop]
  refine goI_valM (.pointer (some ⟨s.blk, 0, none⟩)) rfl rfl hke (fun _ => by simp [go_sem]) (fun _ => by go_simp; try (first | rfl | (simp [*]))) ?_; try walk_nrm
  refine goI_valM (.pointer (some ⟨s.blk, 0, none⟩)) rfl rfl hke (fun _ => by simp [go_sem]) (fun _ => by go_simp; try (first | rfl | (simp [*]))) ?_; try walk_nrm
  refine goI_valM (.pointer (some ⟨s.blk, 0, none⟩)) rfl rfl hke (fun _ => by simp [go_sem]) (fun _ => by go_simp; try (first | rfl | (simp [*]))) ?_; try walk_nrm
  refine goI_readM (ad := ⟨s.blk, 0, none⟩) (v := .chan (some s.turn)) hsW hsx rfl rfl hke (fun w₁ hc => by simp [go_sem, hc]) (fun w₁ hc => by go_simp) ?_; try walk_nrm
  refine goI_valM (unitV) rfl rfl hke (fun _ => by simp [go_sem]) (fun _ => by go_simp; try (first | rfl | (simp [*]))) ?_; try walk_nrm
  refine turnM (hbW := h.low') (nh := 60) (z := .tuple #[]) (home := fun g₂ => ∀ z, Y.Leads (Y.tid pc.1) a.2 (snap (mineB o₀ pb vs vt) w) (Y.next pc.1 a.1) z → ∀ w', Wd Wg A.θ w' → RepT Y.spec Wg A.θ z.1 w' → (envM W Y.spec Wg).Go (A.turned i s n z.2) (g₂.finishComm Try.prog #[rcase s.says saidZ] (.recv false) 0 (saidP (X := Y.spec) z.2) true) w') hW hA hL Hd.out Hst.out Hi.out h.wd h.rep hok rfl (fun w₁ hR => comm_step rfl rfl hke ?_ ?_) ?_ fun z hz g₂ w' hh hwd hr => hh z hz w' hwd hr
  · simp [go_sem, execOp, Act.eval, scase, unitV]
  · simp [go_sem, execOp]
  · rw [finishComm_at rfl]
    refine .inl ⟨59, rfl, ?_⟩
    walk_nrm
    repeat (first | ((refine Lag.step rfl (fun w hw => ?_); first | rw [stepG_seq] | rw [stepG_skip] | rw [stepG_region_end] | rw [stepG_region]); simp only [goes_go, if_true, if_false, Bool.false_eq_true, ↓reduceIte, List.size_toArray, List.length_cons, List.length_nil, Nat.reduceAdd, Nat.zero_add, List.range, List.range.loop]; refine ⟨(by first | rfl | trivial), (by simp), ?_⟩; clear hw; try walk_nrm) | ((refine Lag.oper rfl rfl hke (fun w hw => by simp [go_sem, *]) (fun w hw K hK => ?_); go_simp; refine hK _ _ ⟨rfl, ?_⟩; clear hK K hw); try walk_nrm))
    refine Lag.read rfl rfl hke (ad := ⟨s.blk, 2, none⟩) (v := .chan (some s.says)) ⟨s, hs, .inr (.inr (.inl rfl))⟩ (fun w hk => ?_) (fun w hk => ?_) ?_
    · have hc := (KT.cell hs hk).2.2
      simp [go_sem, hc]
    · have hc := (KT.cell hs hk).2.2
      go_simp
    walk_nrm
    refine Or.inl ⟨_, rfl, rfl, rfl, rfl, ?_, fun w hw => comm_step rfl rfl hke ?_ ?_⟩
    · rintro ⟨⟨a', o'⟩, p'⟩ ⟨hz, ho'⟩ w' hwd' hr'
      have ho' : o' = snap (mineB o₀ pb vs vt) _ := ho'
      subst ho'
      have hz : Y.Step (Y.tid pc.1) a.2 (Y.next pc.1 a.1) a' p' := hz
      obtain ⟨x, y, z, hv, hlast⟩ := said_parts Y.spec n p'
      rw [finishComm_at rfl, show commResult #[rcase s.says saidZ] (.recv false) 0 (saidP (X := Y.spec) p') true = saidP (X := Y.spec) p' from by simp [commResult], hv]
      have Hlast := Lib.hid hlast
      clear hv hlast
      walk_nrm
      refine goI_valM (.pointer (some ⟨s.blk, 0, none⟩)) rfl rfl hke (fun _ => by simp [go_sem]) (fun _ => by go_simp; try (first | rfl | (simp [*]))) ?_; try walk_nrm
      refine goI_valM (.pointer (some ⟨s.blk, 3, none⟩)) rfl rfl hke (fun _ => by simp [go_sem]) (fun _ => by go_simp; try (first | rfl | (simp [*]))) ?_; try walk_nrm
      refine GoesI.one rfl fun w₁ hR => ?_
      have hR : RWg tWg Wg w' w₁ := hR
      have hwd1 := hwd'.rwg hA.off hR
      obtain ⟨⟨x0, y0, z0, hb0⟩, _⟩ := hwd1.kt s hs
      have hc3 : w₁.cell? ⟨s.blk, 3, none⟩ = some x0 := by simp [World.cell?, hb0, seatCells]
      have hc4 : w₁.cell? ⟨s.blk, 4, none⟩ = some y0 := by simp [World.cell?, hb0, seatCells]
      have hc5 : w₁.cell? ⟨s.blk, 5, none⟩ = some z0 := by simp [World.cell?, hb0, seatCells]
      have hfr : ∀ o, w₁.frozen? ⟨s.blk, o, none⟩ = false := fun o => by simp [World.frozen?, hb0]
      refine ⟨_, _, _, stepG_none rfl rfl hke (w' := ((w₁.setCell ⟨s.blk, 3, none⟩ (.int .u8 x)).setCell ⟨s.blk, 4, none⟩ (.int .i64 y)).setCell ⟨s.blk, 5, none⟩ (.bool z)) ?_, ?_, ?_⟩
      · show Sem.run Try.prog _ _ = _
        go_simp
      · have h3 := Row.set (w := w₁) (b := s.blk) (T := tSeat) hb0 3 (.int .u8 x)
        have h4 := Row.set h3 4 (.int .i64 y)
        have h5 := Row.set h4 5 (.bool z)
        show DH Wg (WgL Wg) (KT A.θ) A.still (isCh A.θ) _ _ _
        rw [Hst.out]
        refine dh_seat hsW hb0 (x := .int .u8 x) (y := .int .i64 y) (z := .bool z) ?_ (fun b hb => ?_) ?_ fun e he => ?_
        · exact h5
        · rw [Below.heap_setCell _ _ _ _ hb, Below.heap_setCell _ _ _ _ hb, Below.heap_setCell _ _ _ _ hb]
        · simp [World.setCell]
        · have he : e ∈ Sem.events Try.prog _ w₁ #[] := seen_sub _ _ _ e he
          have hes := fun w es => events_store Try.prog w es ⟨s.blk, 5, none⟩ (.bool z) .plain rfl
          simp [go_sem, hc3, hc4, hc5, hfr, hes] at he
          rcases he with rfl | rfl | rfl
          · exact ⟨3, by omega, rfl⟩
          · exact ⟨4, by omega, rfl⟩
          · exact ⟨5, by omega, rfl⟩
      · have h3 := Row.set (w := w₁) (b := s.blk) (T := tSeat) hb0 3 (.int .u8 x)
        have h4 := Row.set h3 4 (.int .i64 y)
        have h5 := Row.set h4 5 (.bool z)
        have hoth : ∀ b, b ≠ s.blk → (((w₁.setCell ⟨s.blk, 3, none⟩ (.int .u8 x)).setCell ⟨s.blk, 4, none⟩ (.int .i64 y)).setCell ⟨s.blk, 5, none⟩ (.bool z)).heap[b]? = w₁.heap[b]? := fun b hb => by
          rw [Below.heap_setCell _ _ _ _ hb, Below.heap_setCell _ _ _ _ hb, Below.heap_setCell _ _ _ _ hb]
        have hszz : (((w₁.setCell ⟨s.blk, 3, none⟩ (.int .u8 x)).setCell ⟨s.blk, 4, none⟩ (.int .i64 y)).setCell ⟨s.blk, 5, none⟩ (.bool z)).heap.size = w₁.heap.size := by simp [World.setCell]
        have hos : (((w₁.setCell ⟨s.blk, 3, none⟩ (.int .u8 x)).setCell ⟨s.blk, 4, none⟩ (.int .i64 y)).setCell ⟨s.blk, 5, none⟩ (.bool z)).os = w₁.os ∧ (((w₁.setCell ⟨s.blk, 3, none⟩ (.int .u8 x)).setCell ⟨s.blk, 4, none⟩ (.int .i64 y)).setCell ⟨s.blk, 5, none⟩ (.bool z)).output = w₁.output := ⟨rfl, rfl⟩
        obtain ⟨w5, hw5⟩ : ∃ w5, w5 = ((w₁.setCell ⟨s.blk, 3, none⟩ (.int .u8 x)).setCell ⟨s.blk, 4, none⟩ (.int .i64 y)).setCell ⟨s.blk, 5, none⟩ (.bool z) := ⟨_, rfl⟩
        rw [← hw5] at h5 hoth hszz hos ⊢
        clear hw5 h3 h4 hc3 hc4 hc5 hfr
        have hpk := told h hA hAp Hθ.out Hi.out (p := p') (n := n) hwd1 (hr'.rwg hA.off hwd' hR) Hlast.out (x := .int .u8 x) (y := .int .i64 y) (z := .bool z) hb0 h5 hoth hszz hos
        have hco := mem_congr (Wg := Wg) (θ := A.θ) (θ' := (A.played i s n p').θ) (by rw [Hθ.out]; exact tab_set Hi.out)
        show (envM W Y.spec Wg).Go (A.turned i s n p') _ w5
        refine reM (A := A.turned i s n p') (A' := A.played i s n p') hW ⟨hA.pos, hco.2.2.2.2.1.2 hA.off, ?_, ?_⟩ rfl rfl rfl rfl ?_ ?_ ?_ ?_ ?_
        · intro s' hs'
          have e := hco.2.2.1
          rw [e]
          exact hA.chan s' ((by rw [Hθ.out]; exact tab_set Hi.out s' : s' ∈ (A.played i s n p').θ ↔ s' ∈ A.θ).1 hs')
        · intro l hl
          have e : StT (A.played i s n p').θ = StT A.θ := hco.2.2.2.1
          have hl : StT (A.played i s n p').θ l := hl
          rw [e, ← Hst.out] at hl
          exact hA.still l hl
        · intro l
          show StT (A.played i s n p').θ l ↔ A.still l
          rw [hco.2.2.2.1, Hst.out]
        · intro w hw
          rw [hco.2.1]; exact hw
        · intro c
          show isCh (A.played i s n p').θ c ↔ isCh A.θ c
          rw [hco.2.2.1]
        · intro w hw
          rw [hco.2.1] at hw; exact hw
        walk_nrm
        refine O.step1 rfl (fun _ => stepG_region_end) ?_
        refine O.step1 rfl (fun _ => stepG_seq) ?_
        refine O.step1 rfl (fun _ => stepG_region) ?_
        simp only [List.size_toArray, List.length_cons, List.length_nil, Nat.reduceAdd, Nat.zero_add, List.range, List.range.loop]
        refine goI_valM (.bool true) rfl rfl hke (fun _ => by simp [go_sem]) (fun _ => by go_simp; try (first | rfl | (simp [*]))) ?_; try walk_nrm
        refine O.step1 rfl (fun _ => stepG_region_end) ?_
        refine O.step1 rfl (fun _ => stepG_ret') ?_
        exact hk _ trivial .ret _ _ (hq a' p' hz w5 _ _ _ _ _ _ _ _ _ _ _ _ _ hpk) _
    · simp [go_sem, execOp, Act.eval, mainSeat, Seat.one, rcase, saidZ]
    · simp [go_sem, execOp]
set_option maxRecDepth 100000 in
set_option maxHeartbeats 4000000 in
theorem take_go (hW : Back Try.prog W) (h : PK Y Wg B0 pb o₀ A.θ a svs tr vs vt w) (hA : A.Ok Wg) (hL : A.Lone) (hAp : A.Apart) (hd : A.d = 0) (hθ : A.θ = tabOf Y.spec A.thr) (hst : A.still = StT A.θ) {i : Nat} {s : SV} {pc : Y.Pc × Y.Pg} {n : Nat} (hi : A.thr[i]? = some (s, some (pc, n + 1))) (hok : a.2 (Y.tid pc.1) = pc.2) (hsv : svs[i]? = some s) (hl : svs.length < 1000000) (ht : tr.length < 16384)
    {Q : MI Y.spec → Value → World → Prop} (hq : ∀ (a' : Y.Full) (p' : Option (Y.Pc × Y.Pg)), Y.Step (Y.tid pc.1) a.2 (Y.next pc.1 a.1) a' p' → ∀ vt' w', PK Y Wg B0 pb o₀ (A.played i s n p').θ a' svs (tr ++ [(i, (Y.mark pc.1).1, (Y.mark pc.1).2)]) vs vt' w' → Q (A.played i s n p') (.bool true) w') :
    cpsC (envM W Y.spec Wg) 69 #[.pointer (some ⟨pb, 0, none⟩), .int .i64 i] Q A w := by
  have O := envM_ok (W := W) (X := Y.spec) (Wg := Wg)
  refine cpsC_body O Try.func69 rfl ?_
  simp only [Try.ntmps69]
  refine cps_opaque fun Q' hQ => ?_
  walk_nrm
  obtain ⟨hp0, hp1, _⟩ := h.pcell
  have hpW : pb ≠ Wg := h.neW (.inr (.inl rfl))
  obtain ⟨g, cap, rfl, hgi, hgW⟩ := h.seatAt hsv
  have hil : i < svs.length := (List.getElem?_eq_some_iff.1 hsv).1
  have hm : List.Mem (s, Value.int .u8 (Y.mark pc.1).1, Value.int .i64 (Y.mark pc.1).2, Value.bool false) A.θ := by
    rw [hθ]
    exact List.mem_map.2 ⟨_, List.mem_of_getElem? hi, rfl⟩
  obtain ⟨hsx, hsy, hx, hy, hz⟩ := LT.cells h.wd.lt hm
  have hsW : s.blk ≠ Wg := (hA.off s ⟨_, hm⟩).1
  obtain ⟨a₁, cap₁, rfl⟩ := own_form0 h.mem.trace
  have h1 : decide ((i : Int) < 0) = false := by simp
  have h2 : decide (svs.length ≤ i) = false := by simpa using hil
  have h3 : decide ((svs.length : Int) ≤ (i : Int)) = false := by simp; omega
  have h4 : decide (i < svs.length) = true := by simpa using hil
  have h5 : decide ((i : Int) < (svs.length : Int)) = true := by simp; omega
  have h7 : i < svs.length := hil
  have h8 : (i : Int) < svs.length := by omega
  have h10 : ((tr.length : Int) == 16384) = false := by simp; omega
  have h11 : decide ((tr.length : Int) = 16384) = false := by simp; omega
  have Hθ := Lib.hid hθ
  have Hst := Lib.hid hst
  have Hd := Lib.hid hd
  have Hi := Lib.hid hi
  have Hsv := Lib.hid hsv
  clear hθ hst hd hi hsv
  repeat refine cps_seq O ?_
  (refine cps_region O ?_; simp only [List.size_toArray, List.length_cons, List.length_nil, Nat.reduceAdd, Nat.zero_add, List.range, List.range.loop])
  refine valR (.bool false) rfl rfl (fun _ => by simp [go_sem, *]) (fun _ => by go_simp; try (first | rfl | (simp [*]))) ?_; try walk_nrm
  refine cpsR_nil O ?_
  repeat refine cps_seq O ?_
  (refine cps_region O ?_; simp only [List.size_toArray, List.length_cons, List.length_nil, Nat.reduceAdd, Nat.zero_add, List.range, List.range.loop])
  refine valR (.int .i64 i) rfl rfl (fun _ => by simp [go_sem, *]) (fun _ => by go_simp; try (first | rfl | (simp [*]))) ?_; try walk_nrm
  refine valR (.bool false) rfl rfl (fun _ => by simp [go_sem, *]) (fun _ => by go_simp; try (first | rfl | (simp [*]))) ?_; try walk_nrm
  refine valR (.bool false) rfl rfl (fun _ => by simp [go_sem, *]) (fun _ => by go_simp; try (first | rfl | (simp [*]))) ?_; try walk_nrm
  refine valR (.int .i64 i) rfl rfl (fun _ => by simp [go_sem, *]) (fun _ => by go_simp; try (first | rfl | (simp [*]))) ?_; try walk_nrm
  refine valR (.pointer (some ⟨pb, 0, none⟩)) rfl rfl (fun _ => by simp [go_sem, *]) (fun _ => by go_simp; try (first | rfl | (simp [*]))) ?_; try walk_nrm
  refine valR (.pointer (some ⟨pb, 0, none⟩)) rfl rfl (fun _ => by simp [go_sem, *]) (fun _ => by go_simp; try (first | rfl | (simp [*]))) ?_; try walk_nrm
  refine valR (.pointer (some ⟨pb, 0, none⟩)) rfl rfl (fun _ => by simp [go_sem, *]) (fun _ => by go_simp; try (first | rfl | (simp [*]))) ?_; try walk_nrm
  refine readR (ad := ⟨pb, 0, none⟩) (v := .slice (some ⟨g, 0, none⟩) svs.length cap) hpW hp0 rfl rfl (fun w₁ hc => by simp [go_sem, hc]) (fun w₁ hc => by go_simp) ?_; try walk_nrm
  refine valR (.int .i64 svs.length) rfl rfl (fun _ => by simp [go_sem, *]) (fun _ => by go_simp; try (first | rfl | (simp [*]))) ?_; try walk_nrm
  refine valR (.bool false) rfl rfl (fun _ => by simp [go_sem, *]) (fun _ => by go_simp; try (first | rfl | (simp [*]))) ?_; try walk_nrm
  refine valR (.bool false) rfl rfl (fun _ => by simp [go_sem, *]) (fun _ => by go_simp; try (first | rfl | (simp [*]))) ?_; try walk_nrm
  refine valR (.bool false) rfl rfl (fun _ => by simp [go_sem, *]) (fun _ => by go_simp; try (first | rfl | (simp [*]))) ?_; try walk_nrm
  refine valR (.pointer (some ⟨pb, 0, none⟩)) rfl rfl (fun _ => by simp [go_sem, *]) (fun _ => by go_simp; try (first | rfl | (simp [*]))) ?_; try walk_nrm
  refine valR (.pointer (some ⟨pb, 0, none⟩)) rfl rfl (fun _ => by simp [go_sem, *]) (fun _ => by go_simp; try (first | rfl | (simp [*]))) ?_; try walk_nrm
  refine valR (.pointer (some ⟨pb, 0, none⟩)) rfl rfl (fun _ => by simp [go_sem, *]) (fun _ => by go_simp; try (first | rfl | (simp [*]))) ?_; try walk_nrm
  refine readR (ad := ⟨pb, 0, none⟩) (v := .slice (some ⟨g, 0, none⟩) svs.length cap) hpW hp0 rfl rfl (fun w₁ hc => by simp [go_sem, hc]) (fun w₁ hc => by go_simp) ?_; try walk_nrm
  refine valR (.int .i64 i) rfl rfl (fun _ => by simp [go_sem, *]) (fun _ => by go_simp; try (first | rfl | (simp [*]))) ?_; try walk_nrm
  refine valR (.pointer (some ⟨g, i, none⟩)) rfl rfl (fun _ => by simp [go_sem, *]) (fun _ => by go_simp; try (first | rfl | (simp [*]))) ?_; try walk_nrm
  refine readR (ad := ⟨g, i, none⟩) (v := .pointer (some ⟨s.blk, 0, none⟩)) hgW hgi rfl rfl (fun w₁ hc => by simp [go_sem, hc]) (fun w₁ hc => by go_simp) ?_; try walk_nrm
  refine valR (.pointer (some ⟨s.blk, 0, none⟩)) rfl rfl (fun _ => by simp [go_sem, *]) (fun _ => by go_simp; try (first | rfl | (simp [*]))) ?_; try walk_nrm
  refine valR (.pointer (some ⟨s.blk, 3, none⟩)) rfl rfl (fun _ => by simp [go_sem, *]) (fun _ => by go_simp; try (first | rfl | (simp [*]))) ?_; try walk_nrm
  refine valR (.pointer (some ⟨s.blk, 5, none⟩)) rfl rfl (fun _ => by simp [go_sem, *]) (fun _ => by go_simp; try (first | rfl | (simp [*]))) ?_; try walk_nrm
  refine readR (ad := ⟨s.blk, 5, none⟩) (v := .bool false) hsW hz rfl rfl (fun w₁ hc => by simp [go_sem, hc]) (fun w₁ hc => by go_simp) ?_; try walk_nrm
  refine valR (.bool false) rfl rfl (fun _ => by simp [go_sem, *]) (fun _ => by go_simp; try (first | rfl | (simp [*]))) ?_; try walk_nrm
  refine valR (.bool false) rfl rfl (fun _ => by simp [go_sem, *]) (fun _ => by go_simp; try (first | rfl | (simp [*]))) ?_; try walk_nrm
  refine valR (.pointer (some ⟨pb, 0, none⟩)) rfl rfl (fun _ => by simp [go_sem, *]) (fun _ => by go_simp; try (first | rfl | (simp [*]))) ?_; try walk_nrm
  refine valR (.pointer (some ⟨pb, 0, none⟩)) rfl rfl (fun _ => by simp [go_sem, *]) (fun _ => by go_simp; try (first | rfl | (simp [*]))) ?_; try walk_nrm
  refine valR (.pointer (some ⟨pb, 1, none⟩)) rfl rfl (fun _ => by simp [go_sem, *]) (fun _ => by go_simp; try (first | rfl | (simp [*]))) ?_; try walk_nrm
  refine valR (.pointer (some ⟨pb, 1, none⟩)) rfl rfl (fun _ => by simp [go_sem, *]) (fun _ => by go_simp; try (first | rfl | (simp [*]))) ?_; try walk_nrm
  refine readR (ad := ⟨pb, 1, none⟩) (v := .slice a₁ tr.length cap₁) hpW hp1 rfl rfl (fun w₁ hc => by simp [go_sem, hc]) (fun w₁ hc => by go_simp) ?_; try walk_nrm
  refine valR (.int .i64 tr.length) rfl rfl (fun _ => by simp [go_sem, *]) (fun _ => by go_simp; try (first | rfl | (simp [*]))) ?_; try walk_nrm
  refine valR (.bool false) rfl rfl (fun _ => by simp [go_sem, *]) (fun _ => by go_simp; try (first | rfl | (simp [*]))) ?_; try walk_nrm
  refine valR (.bool false) rfl rfl (fun _ => by simp [go_sem, *]) (fun _ => by go_simp; try (first | rfl | (simp [*]))) ?_; try walk_nrm
  refine cpsR_nil O ?_
  refine cps_cond O (v := false) rfl ?_
  simp only [Bool.false_eq_true, if_false]
  refine cps_skip O ?_
  show cps _ _ _ _ _ _
  refine cps_seq O ?_
  (refine cps_region O ?_; simp only [List.size_toArray, List.length_cons, List.length_nil, Nat.reduceAdd, Nat.zero_add, List.range, List.range.loop])
  refine valR (.pointer (some ⟨pb, 0, none⟩)) rfl rfl (fun _ => by simp [go_sem, *]) (fun _ => by go_simp; try (first | rfl | (simp [*]))) ?_; try walk_nrm
  refine valR (.pointer (some ⟨pb, 0, none⟩)) rfl rfl (fun _ => by simp [go_sem, *]) (fun _ => by go_simp; try (first | rfl | (simp [*]))) ?_; try walk_nrm
  refine valR (.pointer (some ⟨pb, 0, none⟩)) rfl rfl (fun _ => by simp [go_sem, *]) (fun _ => by go_simp; try (first | rfl | (simp [*]))) ?_; try walk_nrm
  refine readR (ad := ⟨pb, 0, none⟩) (v := .slice (some ⟨g, 0, none⟩) svs.length cap) hpW hp0 rfl rfl (fun w₁ hc => by simp [go_sem, hc]) (fun w₁ hc => by go_simp) ?_; try walk_nrm
  refine valR (.int .i64 i) rfl rfl (fun _ => by simp [go_sem, *]) (fun _ => by go_simp; try (first | rfl | (simp [*]))) ?_; try walk_nrm
  refine valR (.pointer (some ⟨g, i, none⟩)) rfl rfl (fun _ => by simp [go_sem, *]) (fun _ => by go_simp; try (first | rfl | (simp [*]))) ?_; try walk_nrm
  refine readR (ad := ⟨g, i, none⟩) (v := .pointer (some ⟨s.blk, 0, none⟩)) hgW hgi rfl rfl (fun w₁ hc => by simp [go_sem, hc]) (fun w₁ hc => by go_simp) ?_; try walk_nrm
  refine valR (.pointer (some ⟨s.blk, 0, none⟩)) rfl rfl (fun _ => by simp [go_sem, *]) (fun _ => by go_simp; try (first | rfl | (simp [*]))) ?_; try walk_nrm
  refine cpsR_nil O ?_
  show cps _ _ _ _ _ _
  refine cps_seq O ?_
  refine take_trace h hA Hst.out hm (by omega) ht fun vt' w4 y46 y47 y48 y49 y50 y51 y52 y53 y54 y55 y56 y57 y58 y59 y60 y61 y62 y63 hk4 => ?_
  show cps _ _ _ _ _ _
  refine take_turn hW hk4 hA hL hAp Hd.out Hθ.out Hst.out Hi.out hok fun a' p' hz w' y64 y65 y66 y67 y68 y69 y70 y71 y72 y73 y74 y75 y76 hk5 => ?_
  refine hQ _ .ret _ _ ⟨.inr rfl, .bool true, fun w₁ _ => ⟨#[], ?_, O.still _ _⟩, hq a' p' hz _ _ hk5⟩
  rw [show (envM W Y.spec Wg).P = Try.prog from rfl, Sem.runT_eq, results_tmp (t := 4) rfl, events_results_tmp (t := 4) rfl]
  rfl
end
end Go.Proofs.Ytdedmmjmiakidaa
/- Plain words: main makes memory in the play; a new seat is known to all; a thread is born. No condition. -/
namespace Go.Proofs.Ytdedmmjmiakidaa
open Go.Conc Go.RowKit
open Go.ConcN (sumTo upd sumTo_upd upd_ne upd_same)
open Go.ConcR (KK wgBlock WgAt stA smA rd wr mk)
section
variable {X : Spec} {W : Machine → Trace → Prop} {Wg : Nat} {A A' : MI X} {w : World} {θ : Tab}
theorem alloc_at (w : World) (o : Obj) : (∀ b, b < w.heap.size → (w.alloc o).heap[b]? = w.heap[b]?) ∧ (w.alloc o).heap.size = w.heap.size + 1 ∧ (w.alloc o).heap[w.heap.size]? = some o := by
  refine ⟨(alloc_old w o).1, ?_, (alloc_old w o).2.2⟩
  unfold World.alloc; simp
theorem rwg_alloc {w₁ : World} {o : Obj} (hW : Wg < w.heap.size) (h : RWg tWg Wg w w₁) : RWg tWg Wg (w.alloc o) (w₁.alloc o) := by
  obtain ⟨a1, a2, a3⟩ := alloc_at w o
  obtain ⟨b1, b2, b3⟩ := alloc_at w₁ o
  have hs := h.size
  refine ⟨fun b hb => ?_, fun hx => ?_, fun c hc => ?_, by omega, h.tape, h.os, h.output⟩
  · by_cases hl : b < w.heap.size
    · rw [a1 b hl, b1 b (by omega), h.block b hb]
    · by_cases e : b = w.heap.size
      · subst e; rw [a3, ← hs, b3]
      · rw [Array.getElem?_eq_none (by omega), Array.getElem?_eq_none (by omega)]
  · unfold WgAt at *
    rw [a1 Wg hW] at hx
    rw [b1 Wg (by omega)]
    exact h.wg hx
  · rw [a1 Wg hW] at hc
    rw [b1 Wg (by omega)]
    exact h.shape c hc
theorem kr_alloc {o : Obj} (ho : Off Wg θ) (hwd : Wd Wg θ w) : KR Wg θ w (w.alloc o) := by
  obtain ⟨a1, a2, a3⟩ := alloc_at w o
  have hb : ∀ b, (∃ s ∈ θ, b = s.blk ∨ b = s.box) → (w.alloc o).heap[b]? = w.heap[b]? := fun b hb => by
    obtain ⟨c, hc⟩ := kt_types ho hwd.kt hb
    exact a1 b (Array.getElem?_eq_some_iff.1 hc).1
  refine ⟨fun hk => hk.of_keep hb, fun c k hc hh => by rw [a1 c (Array.getElem?_eq_some_iff.1 hh).1]; exact hh, fun ⟨st, sm, h⟩ => ⟨st, sm, ?_⟩, by omega, fun hl => hl.of_keep hb⟩
  unfold WgAt at *
  rw [a1 Wg (Array.getElem?_eq_some_iff.1 h).1]; exact h
theorem dh_alloc {Sh : Loc → Prop} {Still : Loc → Prop} {o : Obj} (ho : Off Wg θ) (hwd : Wd Wg θ w) : DH Wg Sh (KT θ) Still (isCh θ) w (w.alloc o) #[] := by
  obtain ⟨a1, a2, a3⟩ := alloc_at w o
  have hk := kr_alloc (o := o) ho hwd
  obtain ⟨st, sm, h⟩ := hwd.wg
  exact ⟨hk.ch, a1 Wg (Array.getElem?_eq_some_iff.1 h).1, hk.kt, by omega, by simp⟩
theorem touch_low {m : MemAct} {t : Touch} {B : Nat} (h : m.touch? = some t) (hl : m.low B) : t.loc.low B := by
  cases m with
  | access e => simp only [MemAct.touch?, Option.some.injEq] at h; subst h; exact hl
  | mark m => cases m <;> simp [MemAct.touch?] at h <;> (subst h; exact hl)
  | _ => simp [MemAct.touch?] at h
/-- Memory of main's own, made. -/
theorem goI_allocM (hA : A.Ok Wg) (hwd : Wd Wg A.θ w) {b : Frame} {a : Act} {k : List Item} {cs : List Frame} {ops : Array Oper} {i : Nat} {l : List Nat} {o : Oper} {ob : Obj} (v : Value) (ho : ops[i]? = some o) (hw : Region.wanted o (yielded ops a.tmps) = true) (hke : b.kind ≠ .early)
    (he : ∀ w₁, (execOp a.eval o).events Try.prog w₁ #[] = #[]) (hr : ∀ w₁ : World, w₁.heap.size = w.heap.size → (execOp a.eval o).run Try.prog w₁ = .ok (.value v) (w₁.alloc ob))
    (h : (envM W X Wg).Go A (G (b.at (a.put o.dst v) (.inRegion ops l :: k)) cs) (w.alloc ob)) : (envM W X Wg).Go A (G (b.at a (.inRegion ops (i :: l) :: k)) cs) w := by
  obtain ⟨st, sm, hwg⟩ := hwd.wg
  refine GoesI.one rfl fun w₁ hR => ?_
  have hR : RWg tWg Wg w w₁ := hR
  refine ⟨_, _, _, stepG_value ho hw hke (hr w₁ hR.size), ?_, GoesI.rely envM_ok.rtrans h (rwg_alloc (Array.getElem?_eq_some_iff.1 hwg).1 hR)⟩
  have : Go.Conc.listed Try.prog b.fn a o w₁ = #[] := by unfold Go.Conc.listed; rw [he w₁, seen_none]
  show (envM W X Wg).D A w₁ _ (Go.Conc.listed Try.prog b.fn a o w₁)
  rw [this]
  exact dh_alloc hA.off (hwd.rwg hA.off hR)
/-- Memory that all may look at, made: more stands from now on. -/
theorem growM (hW : Back Try.prog W) (hA : A.Ok Wg) (hA' : A'.Ok Wg) (h1 : A'.off = A.off) (h2 : A'.thr = A.thr) (h3 : A'.cr = A.cr) (h4 : A'.d = A.d) (hwd : Wd Wg A.θ w) {b : Frame} {a : Act} {k : List Item} {cs : List Frame} {ops : Array Oper} {i : Nat} {l : List Nat} {o : Oper} {ob : Obj} (v : Value) (ho : ops[i]? = some o) (hw : Region.wanted o (yielded ops a.tmps) = true) (hke : b.kind ≠ .early)
    (he : ∀ w₁, (execOp a.eval o).events Try.prog w₁ #[] = #[]) (hr : ∀ w₁ : World, w₁.heap.size = w.heap.size → (execOp a.eval o).run Try.prog w₁ = .ok (.value v) (w₁.alloc ob))
    (hk : ∀ w, KT A'.θ w → KT A.θ w) (hs : ∀ l, A.still l → A'.still l) (hc : ∀ c, isCh A.θ c → isCh A'.θ c) (hkw : Wd Wg A'.θ (w.alloc ob)) (hnew : ∀ l, A'.still l → A.still l ∨ ∃ o, l = .cell ⟨w.heap.size, o, none⟩) 
    (h : (envM W X Wg).Go A' (G (b.at (a.put o.dst v) (.inRegion ops l :: k)) cs) (w.alloc ob)) : (envM W X Wg).Go A (G (b.at a (.inRegion ops (i :: l) :: k)) cs) w := goM fun w0 hR0 ct gs T q B hsz hg => by
  obtain ⟨st, sm, hwg⟩ := hwd.wg
  have hWl : Wg < w.heap.size := (Array.getElem?_eq_some_iff.1 hwg).1
  refine hold_op (h := 0) hW (fun _ h => h) hA.keeps rfl (d' := A.d) (cr' := A.cr) hg B fun w₁ V hR hV hf hwg1 hkt hch => ?_
  have hR1 := RWg.trans _ _ _ hR0 hR
  obtain ⟨b1, b2, b3⟩ := alloc_at w₁ ob
  have hsz1 := hR1.size
  have hlist : Go.Conc.listed Try.prog b.fn a o w₁ = #[] := by unfold Go.Conc.listed; rw [he w₁, seen_none]
  have hwd1 := hwd.rwg hA.off hR1
  have hDH := dh_alloc (Sh := WgL Wg) (Still := A.still) (o := ob) hA.off hwd1
  have hRa := rwg_alloc (o := ob) hWl hR1
  have hkw1 := hkw.rwg hA'.off hRa
  refine ⟨_, w₁.alloc ob, #[], (stepG_value ho hw hke (hr w₁ hR1.size)).trans (by rw [hlist]), fun c hc => b1 c ?_, hDH.keep hkt, by omega, ?_, hf, rfl, by simp, fun ct2 gs2 T₀ q2 fn pos B2 hg2 hsz2 hT => ?_⟩
  · obtain ⟨n, hn⟩ := hch c hc
    exact (Array.getElem?_eq_some_iff.1 hn).1
  · unfold WgAt at *
    rw [hDH.wg]; exact hwg1
  · have hemp : MemOp.ofEvents 0 fn pos #[] = #[] := by simp [MemOp.ofEvents]
    rw [hemp] at B2 ⊢
    refine winM (A := A') hW hA' (GoesI.rely envM_ok.rtrans h hRa) ct2 gs2 _ q2 ?_ (by rw [h1, h2, hsz2]; exact hsz) hg2
    have e4 : A'.seat Wg = A.seat Wg := by funext x; unfold MI.seat; rw [h1, h2]
    rw [e4, h3, h4]
    refine B2.grow hk hs hc hkw1.kt (fun j x hx hst => ?_) hkw1.ch fun l hl => ?_
    · rcases hnew _ hst with h | ⟨o', e⟩
      · exact h
      · exfalso
        rw [Array.append_empty] at hx
        unfold touchAt Trace.act? at hx
        obtain ⟨m, hm, hx2⟩ := Option.bind_eq_some_iff.1 hx
        obtain ⟨op, hop, rfl⟩ := Option.map_eq_some_iff.1 hm
        have hlow := hT op (Array.mem_of_getElem? hop)
        have := touch_low hx2 hlow
        rw [e] at this
        have hlt : w.heap.size < w₁.heap.size := this
        omega
    · rcases hnew l hl with h | ⟨o', rfl⟩
      · exact B2.still l h
      · exact ⟨by show w.heap.size < (w₁.alloc ob).heap.size; omega, fun ⟨a, e, hb⟩ => by have e := Loc.cell.inj e; subst e; exact absurd hb (by show w.heap.size ≠ Wg; omega)⟩
/-- A child's first step. -/
theorem stepG_born {f : FuncId} {fn : Func} {c : Code} {caps : Array Value} (hf : Try.prog.funcs[f]? = some fn) (hname : (fn.name == "runtime.NumGoroutine") = false) (hb : fn.body = some c) (w : World) :
    stepG Try.prog false (born Try.prog { target := .fn (.func f) caps, args := #[] }) w = .go (G ((baseD f).at ⟨caps ++ Array.replicate (fn.ntmps - caps.size) undef, []⟩ [.code c]) [frame0]) w #[] := by
  have h1 : ¬ fn.name = "runtime.NumGoroutine" := by simpa using hname
  rw [← enter_atD caps hf hb]
  simp [born, G, stepG, unwind, callDeferred, invoke, callFunc, hf, h1, hb, GStep.after, seen_none, frame0, goexitEntry]
end
end Go.Proofs.Ytdedmmjmiakidaa
/- Plain words: what main knows, over new memory and a new seat; the orders of a region. No condition. -/
namespace Go.Proofs.Ytdedmmjmiakidaa
open Go.Conc Go.RowKit
open Go.ConcN (sumTo upd sumTo_upd upd_ne upd_same)
open Go.ConcR (KK wgBlock WgAt stA smA rd wr mk)
/-- A possible order of what has not come up yet. -/
inductive Ord (md : Region.Mode) (ops : Array Oper) : Array Bool → List Nat → Prop
  | nil {listed : Array Bool} (h : Region.ready md ops listed = []) : Ord md ops listed []
  | cons {listed : Array Bool} {i : Nat} {l : List Nat} (h : i ∈ Region.ready md ops listed) (hl : Ord md ops (listed.setIfInBounds i true) l) : Ord md ops listed (i :: l)
theorem ord_cases {md : Region.Mode} {ops : Array Oper} {listed : Array Bool} {l : List Nat} {rs : List Nat} (h : Ord md ops listed l) (hr : Region.ready md ops listed = rs) (hne : rs ≠ []) : ∃ i l', l = i :: l' ∧ i ∈ rs ∧ Ord md ops (listed.setIfInBounds i true) l' := by
  cases h with
  | nil h => exact absurd (hr.symm.trans h) hne
  | cons h hl => exact ⟨_, _, rfl, hr ▸ h, hl⟩
theorem ord_done {md : Region.Mode} {ops : Array Oper} {listed : Array Bool} {l : List Nat} (h : Ord md ops listed l) (hr : Region.ready md ops listed = []) : l = [] := by
  cases h with
  | nil h => rfl
  | cons h hl => rw [hr] at h; cases h
theorem ready_used {md : Region.Mode} {ops : Array Oper} {listed : Array Bool} {i : Nat} (h : i ∈ Region.ready md ops listed) : i < ops.size ∧ listed.getD i true = false := by
  obtain ⟨h1, o, h2, _⟩ := mem_ready.1 h
  exact ⟨(Array.getElem?_eq_some_iff.1 h2).1, h1⟩
/-- How many have not come up. -/
def unlisted (n : Nat) (listed : Array Bool) : Nat := ((List.range n).filter fun i => !listed.getD i true).length
theorem filter_less {p q : Nat → Bool} {i : Nat} : ∀ (l : List Nat), (∀ j, q j = true → p j = true) → i ∈ l → p i = true → q i = false → (l.filter q).length < (l.filter p).length
  | [], _, hi, _, _ => by cases hi
  | x :: l, hs, hi, hp, hq => by
    have hle : (l.filter q).length ≤ (l.filter p).length := by
      clear hi
      induction l with
      | nil => exact Nat.le_refl _
      | cons y l ih =>
        simp only [List.filter_cons]
        split
        · rename_i hy; rw [if_pos (hs y hy)]; exact Nat.succ_le_succ ih
        · split
          · exact Nat.le_succ_of_le ih
          · exact ih
    simp only [List.filter_cons]
    by_cases e : x = i
    · subst e
      rw [if_pos hp, if_neg (by simp [hq])]
      simp; omega
    · have hi' : i ∈ l := by
        rcases List.mem_cons.1 hi with h | h
        · exact absurd h.symm e
        · exact h
      have := filter_less l hs hi' hp hq
      split
      · rename_i hy; rw [if_pos (hs x hy)]; simp; exact this
      · split <;> simp <;> omega
theorem linearise_ord (md : Region.Mode) (ops : Array Oper) : ∀ (fuel t : Nat) (listed : Array Bool), unlisted ops.size listed ≤ fuel → Ord md ops listed (Region.linearise.go md ops fuel t listed []) := by
  intro fuel
  induction fuel with
  | zero =>
    intro t listed hu
    refine Ord.nil ?_
    cases hr : Region.ready md ops listed with
    | nil => rfl
    | cons x xs =>
      exfalso
      obtain ⟨h1, h2⟩ := ready_used (i := x) (by rw [hr]; exact List.mem_cons_self)
      have : x ∈ (List.range ops.size).filter fun i => !listed.getD i true := List.mem_filter.2 ⟨List.mem_range.2 h1, by simp [h2]⟩
      have := List.length_pos_of_mem this
      unfold unlisted at hu
      omega
  | succ fuel ih =>
    intro t listed hu
    simp only [Region.linearise.go]
    change Ord md ops listed (match (Region.ready md ops listed)[t % (Region.ready md ops listed).length]? with
      | some i => Region.linearise.go md ops fuel (t / (Region.ready md ops listed).length) (listed.setIfInBounds i true) [i]
      | none => [].reverse)
    cases hi : (Region.ready md ops listed)[t % (Region.ready md ops listed).length]? with
    | none =>
      have hnil : Region.ready md ops listed = [] := by
        cases hr : Region.ready md ops listed with
        | nil => rfl
        | cons x xs =>
          rw [hr] at hi
          have hlt : t % (x :: xs).length < (x :: xs).length := Nat.mod_lt _ (by simp)
          simp at hi
          simp at hlt
          omega
      exact Ord.nil hnil
    | some i =>
      simp only []
      rw [linearise_go_acc, List.reverse_singleton, List.singleton_append]
      have him := List.mem_of_getElem? hi
      obtain ⟨h1, h2⟩ := ready_used him
      refine Ord.cons him (ih _ _ ?_)
      have hlt : i < listed.size := by
        by_cases h : i < listed.size
        · exact h
        · simp [Array.getElem?_eq_none (Nat.le_of_not_lt h)] at h2
      have := filter_less (p := fun j => !listed.getD j true) (q := fun j => !(listed.setIfInBounds i true).getD j true) (i := i) (List.range ops.size) (fun j hj => by
        by_cases e : i = j
        · subst e; simp [hlt] at hj
        · rw [getD_set_ne true e] at hj; exact hj) (List.mem_range.2 h1) (by simp [h2]) (by simp [hlt])
      unfold unlisted at hu ⊢
      omega
theorem schedule_ord {P : Program} (hm : P.follows .mixedOrders = true) (ops : Array Oper) (t : Nat) : Ord .any ops (Array.replicate ops.size false) (Region.schedule (P.follows .mixedOrders) ops t) := by
  simp only [Region.schedule, hm, Bool.true_or, if_true]
  refine linearise_ord .any ops ops.size t _ ?_
  unfold unlisted
  have := List.length_filter_le (fun i => !(Array.replicate ops.size false).getD i true) (List.range ops.size)
  simpa using this

section
variable {Y : Core} {Wg B0 pb : Nat} {o₀ : Own} {w : World} {a : Y.Full} {svs : List SV} {tr : List Turned} {vs vt : Value} {θ : Tab}
theorem PK.allocW (ho : Off Wg θ) (h : PK Y Wg B0 pb o₀ θ a svs tr vs vt w) (ob : Obj) : PK Y Wg B0 pb o₀ θ a svs tr vs vt (w.alloc ob) := by
  obtain ⟨a1, a2, a3⟩ := alloc_at w ob
  refine h.move ho (h.wd.kr (kr_alloc ho h.wd)) ⟨by omega, fun b hb _ _ => a1 b hb, rfl, rfl⟩ (h.mem.of_same (o₀ := o₀) fun b hb => ?_) (.inl rfl) (.inl rfl) h.ne3
  obtain ⟨ob, hob⟩ := mine_lt h hb
  exact a1 b (Array.getElem?_eq_some_iff.1 hob).1
/-- All that it speaks of is there. -/
theorem PK.low (ho : Off Wg θ) (h : PK Y Wg B0 pb o₀ θ a svs tr vs vt w) : ∀ b, (mineB o₀ pb vs vt b ∨ inF Wg θ b ∨ isCh θ b ∨ Y.foot a b) → b < w.heap.size := by
  intro b hb
  rcases hb with hb | hb | hb | hb
  · obtain ⟨ob, hob⟩ := mine_lt h hb
    exact (Array.getElem?_eq_some_iff.1 hob).1
  · obtain ⟨c, hc⟩ := real_of ho h.wd.kt h.wd.wg b hb
    exact (Array.getElem?_eq_some_iff.1 hc).1
  · obtain ⟨k, hk⟩ := h.wd.ch b hb
    exact (Array.getElem?_eq_some_iff.1 hk).1
  · have hu := spoil_ps (P := Try.prog) no_steps (real_of ho h.wd.kt h.wd.wg)
    obtain ⟨o, h1, _⟩ := Y.real a _ b (h.rep _ hu).1 hb
    rw [← hu.size]
    exact (Array.getElem?_eq_some_iff.1 h1).1
/-- One more. -/
def Tab.add (θ : Tab) (s : SV) (x y z : Value) : Tab := List.append θ [(s, x, y, z)]
theorem mem_snoc {s s' : SV} {v : Value × Value × Value} : s' ∈ (θ.add s v.1 v.2.1 v.2.2) ↔ s' ∈ θ ∨ s' = s := by
  constructor
  · rintro ⟨x, hx⟩
    rcases List.mem_append.1 hx with h | h
    · exact .inl ⟨x, h⟩
    · simp only [List.mem_cons, List.not_mem_nil, or_false, Prod.mk.injEq] at h
      exact .inr h.1
  · rintro (⟨x, hx⟩ | rfl)
    · exact ⟨x, List.mem_append.2 (.inl hx)⟩
    · exact ⟨v, List.mem_append.2 (.inr (List.mem_cons_self))⟩
/-- One seat more. -/
theorem PK.seat {s : SV} {x y z : Value} (ho : Off Wg θ) (ho' : Off Wg (θ.add s x y z)) (h : PK Y Wg B0 pb o₀ θ a svs tr vs vt w) (hb : w.heap[s.blk]? = some (.cells (seatCells s x y z) tSeat (0, 0))) (hbox : w.heap[s.box]? = some (.cells #[.pointer (some ⟨s.blk, 0, none⟩)] tSeatP (0, 0)))
    (hch : ∀ c, c = s.turn ∨ c = s.stop ∨ c = s.says → ∃ k, w.heap[c]? = some (.chan 0 #[] false k k false)) (hm : ¬ mineB o₀ pb vs vt s.blk ∧ ¬ mineB o₀ pb vs vt s.box) (hf : ¬ Y.foot a s.blk ∧ ¬ Y.foot a s.box) : PK Y Wg B0 pb o₀ (θ.add s x y z) a svs tr vs vt w := by
  have hmem : ∀ s', s' ∈ (θ.add s x y z) ↔ s' ∈ θ ∨ s' = s := fun s' => mem_snoc (v := (x, y, z))
  have hwd' : Wd Wg (θ.add s x y z) w := by
    refine ⟨fun s' hs' => ?_, h.wd.wg, fun c hc => ?_, fun s' x' y' z' hm => ?_⟩
    · rcases (hmem s').1 hs' with h' | rfl
      · exact h.wd.kt s' h'
      · exact ⟨⟨x, y, z, hb⟩, hbox⟩
    · obtain ⟨s', hs', hc⟩ := hc
      rcases (hmem s').1 hs' with h' | rfl
      · exact h.wd.ch c ⟨s', h', hc⟩
      · exact hch c hc
    · rcases List.mem_append.1 hm with h' | h'
      · exact h.wd.lt s' x' y' z' h'
      · simp only [List.mem_cons, List.not_mem_nil, or_false, Prod.mk.injEq] at h'
        obtain ⟨rfl, rfl, rfl, rfl⟩ := h'
        exact hb
  have hinF : ∀ b, inF Wg (θ.add s x y z) b ↔ inF Wg θ b ∨ b = s.blk ∨ b = s.box := by
    intro b
    unfold inF
    constructor
    · rintro (e | ⟨s', hs', hbb⟩)
      · exact .inl (.inl e)
      · rcases (hmem s').1 hs' with h' | h'
        · exact .inl (.inr ⟨s', h', hbb⟩)
        · rw [h'] at hbb; exact .inr hbb
    · rintro ((e | ⟨s', hs', hb⟩) | hb)
      · exact .inl e
      · exact .inr ⟨s', (hmem s').2 (.inl hs'), hb⟩
      · exact .inr ⟨s, (hmem s).2 (.inr rfl), hb⟩
  have notF : ∀ b, mineB o₀ pb vs vt b → ¬ inF Wg (θ.add s x y z) b := fun b hb hF => by
    rcases (hinF b).1 hF with h' | rfl | rfl
    · exact h.notF b hb h'
    · exact hm.1 hb
    · exact hm.2 hb
  refine ⟨hwd', h.mem, fun u' hu' => ?_, h.old, h.os, h.out, notF, h.base, h.low', h.ne1, h.ne2, h.ne3⟩
  have real := real_of ho h.wd.kt h.wd.wg
  have hu := spoil_ps (P := Try.prog) no_steps real
  obtain ⟨h1, h2⟩ := h.rep _ hu
  refine ⟨Y.frame a _ u' (fun b hbf => ?_) h1, fun b ob hob => ?_, hu'.os, hu'.output⟩
  · by_cases hF : inF Wg θ b
    · rw [hu'.bad b ((hinF b).2 (.inl hF)), hu.bad b hF]
      obtain ⟨c, hc⟩ := real b hF
      obtain ⟨c', hc'⟩ := real_of ho' hwd'.kt hwd'.wg b ((hinF b).2 (.inl hF))
      rw [hc] at hc'
      simp only [Option.some.injEq, Obj.cells.injEq, and_true] at hc'
      rw [hc'.2]
    · have hF' : ¬ inF Wg (θ.add s x y z) b := fun z => by
        rcases (hinF b).1 z with h' | rfl | rfl
        · exact hF h'
        · exact hf.1 hbf
        · exact hf.2 hbf
      rw [hu'.heap b hF', hu.heap b hF]
  · obtain ⟨hmb, hob2⟩ := snap_some.1 hob
    obtain ⟨_, h3, h4⟩ := h2.on b ob hob
    exact ⟨by rw [hu'.heap b (notF b hmb)]; exact hob2, h3, h4⟩
end
end Go.Proofs.Ytdedmmjmiakidaa
/- Plain words: main starts a thread, and hears it. No condition. -/
namespace Go.Proofs.Ytdedmmjmiakidaa
open Go.Conc Go.RowKit Go.Conc.Lib Go.ConcR.Gen Go.ConcN.Gen
open Go.ConcN (sumTo upd sumTo_upd upd_ne upd_same)
open Go.ConcR (KK wgBlock WgAt stA smA rd wr mk)
section
variable {Y : Core} {W : Machine → Trace → Prop} {Wg B0 pb : Nat} {o₀ : Own} {A : MI Y.spec} {w : World} {a : Y.Full} {svs : List SV} {tr : List Turned} {vs vt : Value} {θ : Tab}
abbrev zx : Value := .int .u8 0
abbrev zy : Value := .int .i64 0
abbrev zz : Value := .bool false
/-- A seat that main has made, ahead of its thread's start. -/
structure Half (Y : Core) (Wg pb : Nat) (o₀ : Own) (θ : Tab) (a : Y.Full) (vs vt : Value) (N0 : Nat) (s : SV) (w : World) : Prop where
  row : w.heap[s.blk]? = some (.cells (seatCells s zx zy zz) tSeat (0, 0))
  ch : ∀ c, c = s.turn ∨ c = s.stop ∨ c = s.says → w.heap[c]? = some (.chan 0 #[] false 0 0 false)
  ne : s.turn ≠ s.stop ∧ s.turn ≠ s.says ∧ s.stop ≠ s.says
  low : ∀ b, (mineB o₀ pb vs vt b ∨ inF Wg θ b ∨ isCh θ b ∨ Y.foot a b) → b < N0
  hi : N0 ≤ s.blk ∧ N0 ≤ s.turn ∧ N0 ≤ s.stop ∧ N0 ≤ s.says ∧ N0 ≤ w.heap.size
/-- What a thread does, from its birth on. -/
structure ThrC (Y : Core) (i : Nat) (g0 : Y.Pg) (f : FuncId) (caps : Array Value) (start : Y.St → Y.St × Option Y.Pc) : Prop where
  fn : ∃ fn c, Try.prog.funcs[f]? = some fn ∧ (fn.name == "runtime.NumGoroutine") = false ∧ fn.body = some c
  tid : ∀ a p, (start a).2 = some p → Y.tid p = i
  run : ∀ (Wg : Nat) (s : SV) (θ : Tab) (n : Nat) (w : World) (a : Y.Full) (o : Own) (E : Y.spec.Due), s ∈ θ → Off Wg θ → ShOk (WgL Wg) Wg θ → Wd Wg θ w → RepT Y.spec Wg θ (a, o) w → a.2 i = g0 → (∀ z, Y.Leads i a.2 o (start a.1) z → E z) →
    cpsC (envT Y.spec Wg (WgL Wg) s) f (#[seatGate s] ++ caps) (ThrPost Y.spec Wg (WgL Wg) s) (n, E, θ) w
/-- The half seat's places that stand. -/
def halfL (s : SV) (l : Loc) : Prop := l = .cell ⟨s.blk, 0, none⟩ ∨ l = .cell ⟨s.blk, 1, none⟩ ∨ l = .cell ⟨s.blk, 2, none⟩
/-- Where main stands behind a start that has been heard. -/
def MI.started {X : Spec} (A : MI X) (s : SV) (n : Nat) (p : Option X.Pc) : MI X :=
  { A with thr := A.thr ++ [(s, p.map fun pc => (pc, n))], θ := tabOf X (A.thr ++ [(s, p.map fun pc => (pc, n))]), still := StT (tabOf X (A.thr ++ [(s, p.map fun pc => (pc, n))])) }
theorem chan_of {Wg : Nat} {θ : Tab} {w : World} (h : Wd Wg θ w) : ∀ s ∈ θ, ¬ isCh θ s.blk ∧ ¬ isCh θ s.box := fun s hs => by
  obtain ⟨⟨x, y, z, h1⟩, h2⟩ := h.kt s hs
  refine ⟨fun hc => ?_, fun hc => ?_⟩
  · obtain ⟨k, hk⟩ := h.ch _ hc
    rw [h1] at hk; cases hk
  · obtain ⟨k, hk⟩ := h.ch _ hc
    rw [h2] at hk; cases hk
theorem st_off {Wg : Nat} {θ : Tab} (h : Off Wg θ) : ∀ l, StT θ l → ¬ WgL Wg l := fun l hl hw => by
  obtain ⟨a, e, hb⟩ := hw
  obtain ⟨s, hs, h' | h' | h' | h'⟩ := hl <;> (rw [h'] at e; have e := Loc.cell.inj e; subst e; first | exact (h s hs).1 hb | exact (h s hs).2.1 hb)
/-- The region in which main hears a thread that it has started. -/
noncomputable def r63ops : Array Oper := match (Try.f68.body.getD .skip) with
  | .seq _ (.seq _ (.seq _ (.region _ ops _))) => ops
  | _ => #[]
theorem addM' {X : Spec} {A : MI X} {t : Array Value} (ht : t = #[.pointer (some ⟨Wg, 0, none⟩), .int .i64 1] ++ Array.replicate 115 undef) (hW : Back Try.prog W) (hA : A.Ok Wg) (hd : A.d = 0) (hN : A.off + A.thr.length + A.cr < 100000) (hwg : ∃ st sm, WgAt tWg Wg w st sm) {b₀ : Frame} {a₀ : Act} {ops₀ : Array Oper} {i₀ : Nat} {rest₀ : List Nat} {k₀ : List Item} {cs : List Frame}
    (hk : ∀ w', RWg tWg Wg w w' → (envM W X Wg).Go { A with cr := A.cr + 1, d := 0 } (G (b₀.at (a₀.put ((ops₀[i₀]?).bind (·.dst)) (.tuple #[])) (.inRegion ops₀ rest₀ :: k₀)) cs) w') :
    (envM W X Wg).Go A (G ((base wgLink.add).at ⟨t, []⟩ [.code (body_add wgLink)]) (b₀.at a₀ (.inRegion ops₀ (i₀ :: rest₀) :: k₀) :: cs)) w := by
  subst ht
  exact addM hW hA hd hN hwg hk
section seat
variable {N0 : Nat} {s : SV}
theorem Half.off (hA : Off Wg θ) (hh : Half Y Wg pb o₀ θ a vs vt N0 s w) (hbox : w.heap.size ≤ s.box) : Off Wg (θ.add s zx zy zz) := fun s' hs' => by
  rcases (mem_snoc (v := (zx, zy, zz))).1 hs' with h | rfl
  · exact hA s' h
  · have := hh.low Wg (.inr (.inl (.inl rfl)))
    obtain ⟨h1, h2, h3, h4, h5⟩ := hh.hi
    exact ⟨by omega, by omega, by omega, by omega, by omega⟩
/-- A seat of its own. -/
theorem Half.seat (hA : Off Wg θ) (h : PK Y Wg B0 pb o₀ θ a svs tr vs vt w) (hh : Half Y Wg pb o₀ θ a vs vt N0 s w) (hbox : w.heap.size = s.box) : PK Y Wg B0 pb o₀ (θ.add s zx zy zz) a svs tr vs vt (w.alloc (.cells #[.pointer (some ⟨s.blk, 0, none⟩)] tSeatP (0, 0))) := by
  obtain ⟨a1, a2, a3⟩ := alloc_at w (.cells #[.pointer (some ⟨s.blk, 0, none⟩)] tSeatP (0, 0))
  obtain ⟨h1, h2, h3, h4, h5⟩ := hh.hi
  refine (h.allocW hA _).seat hA (hh.off hA (by omega)) ?_ (by rw [← hbox]; exact a3) (fun c hc => ⟨0, ?_⟩) ⟨fun x => ?_, fun x => ?_⟩ ⟨fun x => ?_, fun x => ?_⟩
  · rw [a1 _ (Array.getElem?_eq_some_iff.1 hh.row).1]; exact hh.row
  · have := hh.ch c hc
    rw [a1 _ (Array.getElem?_eq_some_iff.1 this).1]; exact this
  · have := hh.low _ (.inl x); omega
  · have := hh.low _ (.inl x); omega
  · have := hh.low _ (.inr (.inr (.inr x))); omega
  · have := hh.low _ (.inr (.inr (.inr x))); omega
end seat
set_option maxRecDepth 100000 in
set_option maxHeartbeats 4000000 in
/-- Main on its way to hear. -/
theorem run_lag {s : SV} {home : Goroutine → Prop} (hs2 : s ∈ θ) {b : Frame} {k : List Item} {cs : List Frame} (hke : b.kind ≠ .early) {v1 v2 v4 v5 v6 v7 v8 : Value}
    (h1 : ∀ l, Ord .any r63ops #[true, true, true, true, true, true, false, false, false] l → home (G (b.at ⟨#[.pointer (some ⟨s.blk, 0, none⟩), v1, v2, .pointer (some ⟨s.box, 0, none⟩), v4, v5, v6, v7, v8, .pointer (some ⟨s.blk, 0, none⟩), .pointer (some ⟨s.blk, 0, none⟩), .pointer (some ⟨s.blk, 0, none⟩), .pointer (some ⟨s.blk, 2, none⟩), .chan (some s.says), undef, undef, undef], []⟩ (.inRegion r63ops (5 :: l) :: k)) cs))
    (h0 : ∀ l, Ord .any r63ops #[false, true, true, true, true, true, false, false, false] l → home (G (b.at ⟨#[.pointer (some ⟨s.blk, 0, none⟩), v1, v2, .pointer (some ⟨s.box, 0, none⟩), v4, v5, v6, v7, v8, undef, .pointer (some ⟨s.blk, 0, none⟩), .pointer (some ⟨s.blk, 0, none⟩), .pointer (some ⟨s.blk, 2, none⟩), .chan (some s.says), undef, undef, undef], []⟩ (.inRegion r63ops (5 :: l) :: k)) cs)) :
    ∀ l, Ord .any r63ops #[false, false, false, false, false, false, false, false, false] l → Lag Try.prog true (KT θ) (StT θ) (mainSeat s home) 20 (G (b.at ⟨#[.pointer (some ⟨s.blk, 0, none⟩), v1, v2, .pointer (some ⟨s.box, 0, none⟩), v4, v5, v6, v7, v8, undef, undef, undef, undef, undef, undef, undef, undef], []⟩ (.inRegion r63ops l :: k)) cs) := by
  have kbox : ∀ {w : World}, KT θ w → w.cell? ⟨s.box, 0, none⟩ = some (.pointer (some ⟨s.blk, 0, none⟩)) := fun hk => by
    have := (hk s hs2).2
    simp [World.cell?, this]
  have kblk : ∀ {w : World}, KT θ w → w.cell? ⟨s.blk, 2, none⟩ = some (.chan (some s.says)) := fun hk => (KT.cell hs2 hk).2.2
  have L14 : ∀ l, Ord .any r63ops #[true, true, true, true, true, false, false, false, false] l → Lag Try.prog true (KT θ) (StT θ) (mainSeat s home) 15 (G (b.at ⟨#[.pointer (some ⟨s.blk, 0, none⟩), v1, v2, .pointer (some ⟨s.box, 0, none⟩), v4, v5, v6, v7, v8, .pointer (some ⟨s.blk, 0, none⟩), .pointer (some ⟨s.blk, 0, none⟩), .pointer (some ⟨s.blk, 0, none⟩), .pointer (some ⟨s.blk, 2, none⟩), .chan (some s.says), undef, undef, undef], []⟩ (.inRegion r63ops l :: k)) cs) := by
    intro l hl
    obtain ⟨i, l', rfl, hi, ho⟩ := ord_cases hl (rs := [5]) (by kernel_rfl) (by simp)
    simp only [List.mem_cons, List.not_mem_nil, or_false] at hi
    subst hi
    have g := h1 l' ho
    revert g
    simp only [r63ops, Try.f68, Option.getD_some]
    intro g
    exact Or.inl ⟨_, rfl, rfl, rfl, rfl, g, fun w hw => comm_step rfl rfl hke (by simp [go_sem, execOp, Act.eval, mainSeat, Seat.one, rcase, saidZ]) (by simp [go_sem, execOp])⟩
  have L04 : ∀ l, Ord .any r63ops #[false, true, true, true, true, false, false, false, false] l → Lag Try.prog true (KT θ) (StT θ) (mainSeat s home) 16 (G (b.at ⟨#[.pointer (some ⟨s.blk, 0, none⟩), v1, v2, .pointer (some ⟨s.box, 0, none⟩), v4, v5, v6, v7, v8, undef, .pointer (some ⟨s.blk, 0, none⟩), .pointer (some ⟨s.blk, 0, none⟩), .pointer (some ⟨s.blk, 2, none⟩), .chan (some s.says), undef, undef, undef], []⟩ (.inRegion r63ops l :: k)) cs) := by
    intro l hl
    obtain ⟨i, l', rfl, hi, ho⟩ := ord_cases hl (rs := [0, 5]) (by kernel_rfl) (by simp)
    simp only [List.mem_cons, List.not_mem_nil, or_false] at hi
    rcases hi with rfl | rfl
    · have g := L14 l' ho
      revert g
      simp only [r63ops, Try.f68, Option.getD_some]
      intro g
      refine Lag.read rfl rfl hke (ad := ⟨s.box, 0, none⟩) (v := .pointer (some ⟨s.blk, 0, none⟩)) ⟨s, hs2, .inr (.inr (.inr rfl))⟩ (fun w hk => ?_) (fun w hk => ?_) ?_
      · have hc := kbox hk
        simp [go_sem, hc]
      · have hc := kbox hk
        go_simp
      walk_nrm
      exact g
    · have g := h0 l' ho
      revert g
      simp only [r63ops, Try.f68, Option.getD_some]
      intro g
      exact Or.inl ⟨_, rfl, rfl, rfl, rfl, g, fun w hw => comm_step rfl rfl hke (by simp [go_sem, execOp, Act.eval, mainSeat, Seat.one, rcase, saidZ]) (by simp [go_sem, execOp])⟩
  have L13 : ∀ l, Ord .any r63ops #[true, true, true, true, false, false, false, false, false] l → Lag Try.prog true (KT θ) (StT θ) (mainSeat s home) 16 (G (b.at ⟨#[.pointer (some ⟨s.blk, 0, none⟩), v1, v2, .pointer (some ⟨s.box, 0, none⟩), v4, v5, v6, v7, v8, .pointer (some ⟨s.blk, 0, none⟩), .pointer (some ⟨s.blk, 0, none⟩), .pointer (some ⟨s.blk, 0, none⟩), .pointer (some ⟨s.blk, 2, none⟩), undef, undef, undef, undef], []⟩ (.inRegion r63ops l :: k)) cs) := by
    intro l hl
    obtain ⟨i, l', rfl, hi, ho⟩ := ord_cases hl (rs := [4]) (by kernel_rfl) (by simp)
    simp only [List.mem_cons, List.not_mem_nil, or_false] at hi
    subst hi
    have g := L14 l' ho
    revert g
    simp only [r63ops, Try.f68, Option.getD_some]
    intro g
    refine Lag.read rfl rfl hke (ad := ⟨s.blk, 2, none⟩) (v := .chan (some s.says)) ⟨s, hs2, .inr (.inr (.inl rfl))⟩ (fun w hk => ?_) (fun w hk => ?_) ?_
    · have hc := kblk hk
      simp [go_sem, hc]
    · have hc := kblk hk
      go_simp
    walk_nrm
    exact g
  have L03 : ∀ l, Ord .any r63ops #[false, true, true, true, false, false, false, false, false] l → Lag Try.prog true (KT θ) (StT θ) (mainSeat s home) 17 (G (b.at ⟨#[.pointer (some ⟨s.blk, 0, none⟩), v1, v2, .pointer (some ⟨s.box, 0, none⟩), v4, v5, v6, v7, v8, undef, .pointer (some ⟨s.blk, 0, none⟩), .pointer (some ⟨s.blk, 0, none⟩), .pointer (some ⟨s.blk, 2, none⟩), undef, undef, undef, undef], []⟩ (.inRegion r63ops l :: k)) cs) := by
    intro l hl
    obtain ⟨i, l', rfl, hi, ho⟩ := ord_cases hl (rs := [0, 4]) (by kernel_rfl) (by simp)
    simp only [List.mem_cons, List.not_mem_nil, or_false] at hi
    rcases hi with rfl | rfl
    · have g := L13 l' ho
      revert g
      simp only [r63ops, Try.f68, Option.getD_some]
      intro g
      refine Lag.read rfl rfl hke (ad := ⟨s.box, 0, none⟩) (v := .pointer (some ⟨s.blk, 0, none⟩)) ⟨s, hs2, .inr (.inr (.inr rfl))⟩ (fun w hk => ?_) (fun w hk => ?_) ?_
      · have hc := kbox hk
        simp [go_sem, hc]
      · have hc := kbox hk
        go_simp
      walk_nrm
      exact g
    · have g := L04 l' ho
      revert g
      simp only [r63ops, Try.f68, Option.getD_some]
      intro g
      refine Lag.read rfl rfl hke (ad := ⟨s.blk, 2, none⟩) (v := .chan (some s.says)) ⟨s, hs2, .inr (.inr (.inl rfl))⟩ (fun w hk => ?_) (fun w hk => ?_) ?_
      · have hc := kblk hk
        simp [go_sem, hc]
      · have hc := kblk hk
        go_simp
      walk_nrm
      exact g
  have L12 : ∀ l, Ord .any r63ops #[true, true, true, false, false, false, false, false, false] l → Lag Try.prog true (KT θ) (StT θ) (mainSeat s home) 17 (G (b.at ⟨#[.pointer (some ⟨s.blk, 0, none⟩), v1, v2, .pointer (some ⟨s.box, 0, none⟩), v4, v5, v6, v7, v8, .pointer (some ⟨s.blk, 0, none⟩), .pointer (some ⟨s.blk, 0, none⟩), .pointer (some ⟨s.blk, 0, none⟩), undef, undef, undef, undef, undef], []⟩ (.inRegion r63ops l :: k)) cs) := by
    intro l hl
    obtain ⟨i, l', rfl, hi, ho⟩ := ord_cases hl (rs := [3]) (by kernel_rfl) (by simp)
    simp only [List.mem_cons, List.not_mem_nil, or_false] at hi
    subst hi
    have g := L13 l' ho
    revert g
    simp only [r63ops, Try.f68, Option.getD_some]
    intro g
    (refine Lag.oper rfl rfl hke (fun w hw => by simp [go_sem]) (fun w hw K hK => ?_); go_simp; refine hK _ _ ⟨rfl, ?_⟩; clear hK K hw); try walk_nrm
    exact g
  have L02 : ∀ l, Ord .any r63ops #[false, true, true, false, false, false, false, false, false] l → Lag Try.prog true (KT θ) (StT θ) (mainSeat s home) 18 (G (b.at ⟨#[.pointer (some ⟨s.blk, 0, none⟩), v1, v2, .pointer (some ⟨s.box, 0, none⟩), v4, v5, v6, v7, v8, undef, .pointer (some ⟨s.blk, 0, none⟩), .pointer (some ⟨s.blk, 0, none⟩), undef, undef, undef, undef, undef], []⟩ (.inRegion r63ops l :: k)) cs) := by
    intro l hl
    obtain ⟨i, l', rfl, hi, ho⟩ := ord_cases hl (rs := [0, 3]) (by kernel_rfl) (by simp)
    simp only [List.mem_cons, List.not_mem_nil, or_false] at hi
    rcases hi with rfl | rfl
    · have g := L12 l' ho
      revert g
      simp only [r63ops, Try.f68, Option.getD_some]
      intro g
      refine Lag.read rfl rfl hke (ad := ⟨s.box, 0, none⟩) (v := .pointer (some ⟨s.blk, 0, none⟩)) ⟨s, hs2, .inr (.inr (.inr rfl))⟩ (fun w hk => ?_) (fun w hk => ?_) ?_
      · have hc := kbox hk
        simp [go_sem, hc]
      · have hc := kbox hk
        go_simp
      walk_nrm
      exact g
    · have g := L03 l' ho
      revert g
      simp only [r63ops, Try.f68, Option.getD_some]
      intro g
      (refine Lag.oper rfl rfl hke (fun w hw => by simp [go_sem]) (fun w hw K hK => ?_); go_simp; refine hK _ _ ⟨rfl, ?_⟩; clear hK K hw); try walk_nrm
      exact g
  have L11 : ∀ l, Ord .any r63ops #[true, true, false, false, false, false, false, false, false] l → Lag Try.prog true (KT θ) (StT θ) (mainSeat s home) 18 (G (b.at ⟨#[.pointer (some ⟨s.blk, 0, none⟩), v1, v2, .pointer (some ⟨s.box, 0, none⟩), v4, v5, v6, v7, v8, .pointer (some ⟨s.blk, 0, none⟩), .pointer (some ⟨s.blk, 0, none⟩), undef, undef, undef, undef, undef, undef], []⟩ (.inRegion r63ops l :: k)) cs) := by
    intro l hl
    obtain ⟨i, l', rfl, hi, ho⟩ := ord_cases hl (rs := [2]) (by kernel_rfl) (by simp)
    simp only [List.mem_cons, List.not_mem_nil, or_false] at hi
    subst hi
    have g := L12 l' ho
    revert g
    simp only [r63ops, Try.f68, Option.getD_some]
    intro g
    (refine Lag.oper rfl rfl hke (fun w hw => by simp [go_sem]) (fun w hw K hK => ?_); go_simp; refine hK _ _ ⟨rfl, ?_⟩; clear hK K hw); try walk_nrm
    exact g
  have L01 : ∀ l, Ord .any r63ops #[false, true, false, false, false, false, false, false, false] l → Lag Try.prog true (KT θ) (StT θ) (mainSeat s home) 19 (G (b.at ⟨#[.pointer (some ⟨s.blk, 0, none⟩), v1, v2, .pointer (some ⟨s.box, 0, none⟩), v4, v5, v6, v7, v8, undef, .pointer (some ⟨s.blk, 0, none⟩), undef, undef, undef, undef, undef, undef], []⟩ (.inRegion r63ops l :: k)) cs) := by
    intro l hl
    obtain ⟨i, l', rfl, hi, ho⟩ := ord_cases hl (rs := [0, 2]) (by kernel_rfl) (by simp)
    simp only [List.mem_cons, List.not_mem_nil, or_false] at hi
    rcases hi with rfl | rfl
    · have g := L11 l' ho
      revert g
      simp only [r63ops, Try.f68, Option.getD_some]
      intro g
      refine Lag.read rfl rfl hke (ad := ⟨s.box, 0, none⟩) (v := .pointer (some ⟨s.blk, 0, none⟩)) ⟨s, hs2, .inr (.inr (.inr rfl))⟩ (fun w hk => ?_) (fun w hk => ?_) ?_
      · have hc := kbox hk
        simp [go_sem, hc]
      · have hc := kbox hk
        go_simp
      walk_nrm
      exact g
    · have g := L02 l' ho
      revert g
      simp only [r63ops, Try.f68, Option.getD_some]
      intro g
      (refine Lag.oper rfl rfl hke (fun w hw => by simp [go_sem]) (fun w hw K hK => ?_); go_simp; refine hK _ _ ⟨rfl, ?_⟩; clear hK K hw); try walk_nrm
      exact g
  have L10 : ∀ l, Ord .any r63ops #[true, false, false, false, false, false, false, false, false] l → Lag Try.prog true (KT θ) (StT θ) (mainSeat s home) 19 (G (b.at ⟨#[.pointer (some ⟨s.blk, 0, none⟩), v1, v2, .pointer (some ⟨s.box, 0, none⟩), v4, v5, v6, v7, v8, .pointer (some ⟨s.blk, 0, none⟩), undef, undef, undef, undef, undef, undef, undef], []⟩ (.inRegion r63ops l :: k)) cs) := by
    intro l hl
    obtain ⟨i, l', rfl, hi, ho⟩ := ord_cases hl (rs := [1]) (by kernel_rfl) (by simp)
    simp only [List.mem_cons, List.not_mem_nil, or_false] at hi
    subst hi
    have g := L11 l' ho
    revert g
    simp only [r63ops, Try.f68, Option.getD_some]
    intro g
    refine Lag.read rfl rfl hke (ad := ⟨s.box, 0, none⟩) (v := .pointer (some ⟨s.blk, 0, none⟩)) ⟨s, hs2, .inr (.inr (.inr rfl))⟩ (fun w hk => ?_) (fun w hk => ?_) ?_
    · have hc := kbox hk
      simp [go_sem, hc]
    · have hc := kbox hk
      go_simp
    walk_nrm
    exact g
  have L00 : ∀ l, Ord .any r63ops #[false, false, false, false, false, false, false, false, false] l → Lag Try.prog true (KT θ) (StT θ) (mainSeat s home) 20 (G (b.at ⟨#[.pointer (some ⟨s.blk, 0, none⟩), v1, v2, .pointer (some ⟨s.box, 0, none⟩), v4, v5, v6, v7, v8, undef, undef, undef, undef, undef, undef, undef, undef], []⟩ (.inRegion r63ops l :: k)) cs) := by
    intro l hl
    obtain ⟨i, l', rfl, hi, ho⟩ := ord_cases hl (rs := [0, 1]) (by kernel_rfl) (by simp)
    simp only [List.mem_cons, List.not_mem_nil, or_false] at hi
    rcases hi with rfl | rfl
    · have g := L10 l' ho
      revert g
      simp only [r63ops, Try.f68, Option.getD_some]
      intro g
      refine Lag.read rfl rfl hke (ad := ⟨s.box, 0, none⟩) (v := .pointer (some ⟨s.blk, 0, none⟩)) ⟨s, hs2, .inr (.inr (.inr rfl))⟩ (fun w hk => ?_) (fun w hk => ?_) ?_
      · have hc := kbox hk
        simp [go_sem, hc]
      · have hc := kbox hk
        go_simp
      walk_nrm
      exact g
    · have g := L01 l' ho
      revert g
      simp only [r63ops, Try.f68, Option.getD_some]
      intro g
      refine Lag.read rfl rfl hke (ad := ⟨s.box, 0, none⟩) (v := .pointer (some ⟨s.blk, 0, none⟩)) ⟨s, hs2, .inr (.inr (.inr rfl))⟩ (fun w hk => ?_) (fun w hk => ?_) ?_
      · have hc := kbox hk
        simp [go_sem, hc]
      · have hc := kbox hk
        go_simp
      walk_nrm
      exact g
  exact L00
end
end Go.Proofs.Ytdedmmjmiakidaa
/- Plain words: main has heard a thread that it has started. No condition. -/
namespace Go.Proofs.Ytdedmmjmiakidaa
open Go.Conc Go.RowKit Go.Conc.Lib Go.ConcR.Gen Go.ConcN.Gen
open Go.ConcN (sumTo upd sumTo_upd upd_ne upd_same)
open Go.ConcR (KK wgBlock WgAt stA smA rd wr mk)
section
variable {Y : Core} {W : Machine → Trace → Prop} {Wg B0 pb : Nat} {o₀ : Own} {A : MI Y.spec} {w : World} {a : Y.Full} {svs : List SV} {tr : List Turned} {vs vt : Value} {θ : Tab}
theorem tab_app {X : Spec} {thr : List (SV × Option (X.Pc × Nat))} {s s' : SV} {q : Option (X.Pc × Nat)} : s' ∈ tabOf X (thr ++ [(s, q)]) ↔ s' ∈ tabOf X thr ∨ s' = s := by
  rw [tab_mem, tab_mem]
  constructor
  · rintro ⟨r, hr⟩
    rcases List.mem_append.1 hr with h | h
    · exact .inl ⟨r, h⟩
    · simp only [List.mem_cons, List.not_mem_nil, or_false, Prod.mk.injEq] at h
      exact .inr h.1
  · rintro (⟨r, hr⟩ | rfl)
    · exact ⟨r, List.mem_append.2 (.inl hr)⟩
    · exact ⟨q, List.mem_append.2 (.inr (List.mem_cons_self))⟩
set_option maxRecDepth 100000 in
set_option maxHeartbeats 4000000 in
theorem run_heard (hW : Back Try.prog W) {A2 : MI Y.spec} {s : SV} (hp : PK Y Wg B0 pb o₀ A2.θ a svs tr vs vt w) (hOk2 : A2.Ok Wg) (h2 : A2.θ = A.θ.add s zx zy zz) (hst2 : A2.still = StT A2.θ) (h3 : A2.off = A.off ∧ A2.thr = A.thr ∧ A.cr = 0 ∧ A2.d = 0 ∧ A.d = 0) (hθ : A.θ = tabOf Y.spec A.thr) (hnb : ∀ s', s' ∈ A.θ → s'.blk ≠ s.blk)
    {a' : Y.Full} {p : Option (Y.Pc × Y.Pg)} {n : Nat} {b : Frame} {k : List Item} {cs : List Frame} (hke : b.kind ≠ .early) {v1 v2 v4 v5 v6 v7 v8 : Value}
    (hq : ∀ w' t, PK Y Wg B0 pb o₀ (A.started s n p).θ a' svs tr vs vt w' → (envM W Y.spec Wg).Go (A.started s n p) (G (b.at ⟨t, []⟩ k) cs) w') :
    ∀ l, Ord .any r63ops #[true, true, true, true, true, true, false, false, false] l → ∀ w', Wd Wg A2.θ w' → RepT Y.spec Wg A2.θ (a', snap (mineB o₀ pb vs vt) w) w' → (envM W Y.spec Wg).Go (A2.hired s n 0 p) (G (b.at ⟨#[.pointer (some ⟨s.blk, 0, none⟩), v1, v2, .pointer (some ⟨s.box, 0, none⟩), v4, v5, v6, v7, v8, .pointer (some ⟨s.blk, 0, none⟩), .pointer (some ⟨s.blk, 0, none⟩), .pointer (some ⟨s.blk, 0, none⟩), .pointer (some ⟨s.blk, 2, none⟩), .chan (some s.says), (saidP (X := Y.spec) p), undef, undef], []⟩ (.inRegion r63ops l :: k)) cs) w' := by
  have O := envM_ok (W := W) (X := Y.spec) (Wg := Wg)
  intro l hl w' hwd' hr'
  obtain ⟨i, l1, rfl, hi, hl⟩ := ord_cases hl (rs := [6]) (by kernel_rfl) (by simp)
  simp only [List.mem_cons, List.not_mem_nil, or_false] at hi; subst hi
  obtain ⟨i, l2, rfl, hi, hl⟩ := ord_cases hl (rs := [7]) (by kernel_rfl) (by simp)
  simp only [List.mem_cons, List.not_mem_nil, or_false] at hi; subst hi
  obtain ⟨i, l3, rfl, hi, hl⟩ := ord_cases hl (rs := [8]) (by kernel_rfl) (by simp)
  simp only [List.mem_cons, List.not_mem_nil, or_false] at hi; subst hi
  obtain rfl := ord_done hl (by kernel_rfl)
  clear hl
  have hmem1 : ∀ s', s' ∈ A2.θ ↔ s' ∈ A.θ ∨ s' = s := fun s' => by rw [h2]; exact mem_snoc (v := (zx, zy, zz))
  have hs : s ∈ A2.θ := (hmem1 s).2 (.inr rfl)
  have hsW : s.blk ≠ Wg := (hOk2.off s hs).1
  obtain ⟨x, y, z, hv, hlast⟩ := said_parts Y.spec n p
  rw [hv]
  simp only [r63ops, Try.f68, Option.getD_some]
  have Hlast := Lib.hid hlast
  have H2 := Lib.hid h2
  have Hst2 := Lib.hid hst2
  have H3 := Lib.hid h3
  have Hθ := Lib.hid hθ
  clear hv hlast h2 hst2 h3 hθ
  refine goI_valM (.pointer (some ⟨s.blk, 0, none⟩)) rfl rfl hke (fun _ => by simp [go_sem]) (fun _ => by go_simp; try (first | rfl | (simp [*]))) ?_; try walk_nrm
  refine goI_valM (.pointer (some ⟨s.blk, 3, none⟩)) rfl rfl hke (fun _ => by simp [go_sem]) (fun _ => by go_simp; try (first | rfl | (simp [*]))) ?_; try walk_nrm
  refine GoesI.one rfl fun w₁ hR => ?_
  have hR : RWg tWg Wg w' w₁ := hR
  have hwd1 := hwd'.rwg hOk2.off hR
  obtain ⟨⟨x0, y0, z0, hb0⟩, _⟩ := hwd1.kt s hs
  have hc3 : w₁.cell? ⟨s.blk, 3, none⟩ = some x0 := by simp [World.cell?, hb0, seatCells]
  have hc4 : w₁.cell? ⟨s.blk, 4, none⟩ = some y0 := by simp [World.cell?, hb0, seatCells]
  have hc5 : w₁.cell? ⟨s.blk, 5, none⟩ = some z0 := by simp [World.cell?, hb0, seatCells]
  have hfr : ∀ o, w₁.frozen? ⟨s.blk, o, none⟩ = false := fun o => by simp [World.frozen?, hb0]
  refine ⟨_, _, _, stepG_none rfl rfl hke (w' := ((w₁.setCell ⟨s.blk, 3, none⟩ (.int .u8 x)).setCell ⟨s.blk, 4, none⟩ (.int .i64 y)).setCell ⟨s.blk, 5, none⟩ (.bool z)) ?_, ?_, ?_⟩
  · show Sem.run Try.prog _ _ = _
    go_simp
  · have h3 := Row.set (w := w₁) (b := s.blk) (T := tSeat) hb0 3 (.int .u8 x)
    have h4 := Row.set h3 4 (.int .i64 y)
    have h5 := Row.set h4 5 (.bool z)
    show DH Wg (WgL Wg) (KT A2.θ) A2.still (isCh A2.θ) _ _ _
    rw [Hst2.out]
    refine dh_seat hsW hb0 (x := .int .u8 x) (y := .int .i64 y) (z := .bool z) ?_ (fun b hb => ?_) ?_ fun e he => ?_
    · exact h5
    · rw [Below.heap_setCell _ _ _ _ hb, Below.heap_setCell _ _ _ _ hb, Below.heap_setCell _ _ _ _ hb]
    · simp [World.setCell]
    · have he : e ∈ Sem.events Try.prog _ w₁ #[] := seen_sub _ _ _ e he
      have hes := fun w es => events_store Try.prog w es ⟨s.blk, 5, none⟩ (.bool z) .plain rfl
      simp [go_sem, hc3, hc4, hc5, hfr, hes] at he
      rcases he with rfl | rfl | rfl
      · exact ⟨3, by omega, rfl⟩
      · exact ⟨4, by omega, rfl⟩
      · exact ⟨5, by omega, rfl⟩
  · have h3 := Row.set (w := w₁) (b := s.blk) (T := tSeat) hb0 3 (.int .u8 x)
    have h4 := Row.set h3 4 (.int .i64 y)
    have h5 := Row.set h4 5 (.bool z)
    have hoth : ∀ b, b ≠ s.blk → (((w₁.setCell ⟨s.blk, 3, none⟩ (.int .u8 x)).setCell ⟨s.blk, 4, none⟩ (.int .i64 y)).setCell ⟨s.blk, 5, none⟩ (.bool z)).heap[b]? = w₁.heap[b]? := fun b hb => by
      rw [Below.heap_setCell _ _ _ _ hb, Below.heap_setCell _ _ _ _ hb, Below.heap_setCell _ _ _ _ hb]
    have hszz : (((w₁.setCell ⟨s.blk, 3, none⟩ (.int .u8 x)).setCell ⟨s.blk, 4, none⟩ (.int .i64 y)).setCell ⟨s.blk, 5, none⟩ (.bool z)).heap.size = w₁.heap.size := by simp [World.setCell]
    have hos : (((w₁.setCell ⟨s.blk, 3, none⟩ (.int .u8 x)).setCell ⟨s.blk, 4, none⟩ (.int .i64 y)).setCell ⟨s.blk, 5, none⟩ (.bool z)).os = w₁.os ∧ (((w₁.setCell ⟨s.blk, 3, none⟩ (.int .u8 x)).setCell ⟨s.blk, 4, none⟩ (.int .i64 y)).setCell ⟨s.blk, 5, none⟩ (.bool z)).output = w₁.output := ⟨rfl, rfl⟩
    obtain ⟨w5, hw5⟩ : ∃ w5, w5 = ((w₁.setCell ⟨s.blk, 3, none⟩ (.int .u8 x)).setCell ⟨s.blk, 4, none⟩ (.int .i64 y)).setCell ⟨s.blk, 5, none⟩ (.bool z) := ⟨_, rfl⟩
    rw [← hw5] at h5 hoth hszz hos ⊢
    clear hw5 h3 h4 hc3 hc4 hc5 hfr
    have hmem : ∀ s', s' ∈ (A.started s n p).θ ↔ s' ∈ A2.θ := fun s' => by
      rw [hmem1, Hθ.out]
      exact tab_app
    have hpk := toldG (θ := A2.θ) (θ' := (A.started s n p).θ) (a' := a') (x := .int .u8 x) (y := .int .i64 y) (z := .bool z) hOk2.off hp hmem hs (fun s' x' y' z' hm => by
      obtain ⟨⟨s2, q⟩, hm1, hm2⟩ := List.mem_map.1 hm
      simp only [Prod.mk.injEq] at hm2
      obtain ⟨rfl, hm2⟩ := hm2
      rcases List.mem_append.1 hm1 with h | h
      · have hin : List.Mem (s2, x', y', z') A.θ := by
          rw [Hθ.out]
          exact List.mem_map.2 ⟨(s2, q), h, by rw [hm2]⟩
        refine .inr ⟨hnb s2 ⟨_, hin⟩, ?_⟩
        rw [H2.out]
        exact List.mem_append.2 (.inl hin)
      · simp only [List.mem_cons, List.not_mem_nil, or_false, Prod.mk.injEq] at h
        obtain ⟨rfl, rfl⟩ := h
        rw [Hlast.out] at hm2
        simp only [Prod.mk.injEq] at hm2
        obtain ⟨rfl, rfl, rfl⟩ := hm2
        exact .inl ⟨rfl, rfl, rfl, rfl⟩) hwd1 (hr'.rwg hOk2.off hwd' hR) hb0 h5 hoth hszz hos
    have hco := mem_congr (Wg := Wg) hmem
    show (envM W Y.spec Wg).Go (A2.hired s n 0 p) _ w5
    refine reM (A := A2.hired s n 0 p) (A' := A.started s n p) hW ⟨by rw [show (A.started s n p).off = A2.off from H3.out.1.symm]; exact hOk2.pos, hco.2.2.2.2.1.2 hOk2.off, ?_, ?_⟩ H3.out.1.symm ?_ H3.out.2.2.1 (H3.out.2.2.2.2.trans H3.out.2.2.2.1.symm) ?_ ?_ ?_ ?_ ?_
    · intro s' hs'
      have e := hco.2.2.1
      rw [e]
      exact hOk2.chan s' ((hmem s').1 hs')
    · intro l hl
      have e : StT (A.started s n p).θ = StT A2.θ := hco.2.2.2.1
      have hl : StT (A.started s n p).θ l := hl
      rw [e, ← Hst2.out] at hl
      exact hOk2.still l hl
    · show A.thr ++ _ = A2.thr ++ _
      rw [H3.out.2.1]
    · intro l
      show StT (A.started s n p).θ l ↔ A2.still l
      rw [hco.2.2.2.1, Hst2.out]
    · intro w hw
      rw [hco.2.1]; exact hw
    · intro c
      show isCh (A.started s n p).θ c ↔ isCh A2.θ c
      rw [hco.2.2.1]
    · intro w hw
      rw [hco.2.1] at hw; exact hw
    walk_nrm
    refine O.step1 rfl (fun _ => stepG_region_end) ?_
    exact hq w5 _ hpk
end
end Go.Proofs.Ytdedmmjmiakidaa
/- Plain words: main starts a thread, and hears it: whole. No condition. -/
namespace Go.Proofs.Ytdedmmjmiakidaa
open Go.Conc Go.RowKit Go.Conc.Lib Go.ConcR.Gen Go.ConcN.Gen
open Go.ConcN (sumTo upd sumTo_upd upd_ne upd_same)
open Go.ConcR (KK wgBlock WgAt stA smA rd wr mk)
section
variable {Y : Core} {W : Machine → Trace → Prop} {Wg B0 pb : Nat} {o₀ : Own} {A : MI Y.spec} {w : World} {a : Y.Full} {svs : List SV} {tr : List Turned} {vs vt : Value} {θ : Tab}
theorem hireF {X : Spec} {A : MI X} (hW : Back Try.prog W) (hbW : X.base ≤ Wg) (hA : A.Ok Wg) (hL : A.Lone) (hd : A.d = 0) (hst : A.still = StT A.θ) {c : Nat} (hcr : A.cr = c + 1) {s : SV} (hs : s ∈ A.θ) (hf : A.Fresh s) {n : Nat} {E : X.Due} {home : Goroutine → Prop} {nh : Nat}
    {b : Frame} {a : Act} {k : List Item} {cs : List Frame} {ops : Array Oper} {i : Nat} {rest : List Nat} {o : Oper} {d : Deferred} {f : Fn} {caps : Array Value} (ho : ops[i]? = some o) (hw : Region.wanted o (yielded ops a.tmps) = true) (hke : b.kind ≠ .early) (hr : ∀ w₁, (execOp a.eval o).run Try.prog w₁ = .ok (.spawn d) w₁) (he : ∀ w₁, (execOp a.eval o).events Try.prog w₁ #[] = #[]) (htg : d.target = .fn f caps)
    (hlag : SitN Try.prog true (KT A.θ) (StT A.θ) (mainSeat s home) nh (G (b.at (a.put o.dst undef) (.inRegion ops rest :: k)) cs))
    (hchild : ∀ w₁, RWg tWg Wg w w₁ → (envT X Wg (WgL Wg) s).Go (n, E, A.θ) (born Try.prog d) w₁)
    (k' : ∀ z, E z → ∀ g₂ w', home g₂ → Wd Wg A.θ w' → RepT X Wg A.θ z.1 w' → (envM W X Wg).Go (A.hired s n c z.2) (g₂.finishComm Try.prog #[rcase s.says saidZ] (.recv false) 0 (saidP (X := X) z.2) true) w') :
    (envM W X Wg).Go A (G (b.at a (.inRegion ops (i :: rest) :: k)) cs) w :=
  hireM hW hbW hA hL hd hst hcr hs hf rfl (fun w₁ _ => by
    rw [stepG_spawn ho hw hke (hr w₁) htg]
    have : Go.Conc.listed Try.prog b.fn a o w₁ = #[] := by unfold Go.Conc.listed; rw [he w₁, seen_none]
    rw [this]) hlag hchild k'
set_option maxRecDepth 100000 in
set_option maxHeartbeats 4000000 in
theorem run_c (hW : Back Try.prog W) (h : PK Y Wg B0 pb o₀ A.θ a svs tr vs vt w) (hA : A.Ok Wg) (hL : A.Lone) (hAp : A.Apart) (hd : A.d = 0) (hcr : A.cr = 0) (hN : A.off + A.thr.length < 90000) (hθ : A.θ = tabOf Y.spec A.thr) {N0 : Nat} {s : SV} (hst : ∀ l, A.still l ↔ StT A.θ l ∨ halfL s l) (hh : Half Y Wg pb o₀ A.θ a vs vt N0 s w) (hbox : w.heap.size = s.box)
    {ti : Nat} {f : FuncId} {caps : Array Value} {start : Y.St → Y.St × Option Y.Pc} (hthr : ThrC Y ti (a.2 ti) f caps start) (n : Nat)
    {Q : MI Y.spec → Value → World → Prop} (hq : ∀ (a' : Y.Full) (p' : Option (Y.Pc × Y.Pg)), Y.Step ti a.2 (start a.1) a' p' → ∀ w', PK Y Wg B0 pb o₀ (A.started s n p').θ a' svs tr vs vt w' → Q (A.started s n p') (.tuple #[]) w') :
    cpsC (envM W Y.spec Wg) 68 #[.pointer (some ⟨s.blk, 0, none⟩), .func (.func f) #[] caps, .pointer (some ⟨Wg, 0, none⟩)] Q A w := by
  have O := envM_ok (W := W) (X := Y.spec) (Wg := Wg)
  obtain ⟨i1, i2, i3, i4, i5⟩ := hh.hi
  have hWl : Wg < N0 := hh.low Wg (.inr (.inl (.inl rfl)))
  refine cpsC_body O Try.func68 rfl ?_
  simp only [Try.ntmps68]
  refine cps_opaque fun Q' hQ => ?_
  walk_nrm
  intro b k cs hf hk
  have hke : b.kind ≠ .early := by simpa using hf.kind
  have Hbox := Lib.hid hbox
  have Hd := Lib.hid hd
  have Hcr := Lib.hid hcr
  have Hθ := Lib.hid hθ
  refine O.step1 rfl (fun _ => stepG_seq) ?_
  refine O.step1 rfl (fun _ => stepG_region) ?_; simp only [List.size_toArray, List.length_cons, List.length_nil, Nat.reduceAdd, Nat.zero_add, List.range, List.range.loop]
  -- the box of the seat
  have hA1off := hh.off hA.off (by omega)
  have hpk1 := hh.seat hA.off h hbox
  have hmem1 : ∀ s', s' ∈ (A.θ.add s zx zy zz) ↔ s' ∈ A.θ ∨ s' = s := fun s' => mem_snoc (v := (zx, zy, zz))
  obtain ⟨A1, hA1⟩ : ∃ A1 : MI Y.spec, A1 = { A with θ := A.θ.add s zx zy zz, still := StT (A.θ.add s zx zy zz) } := ⟨_, rfl⟩
  have e1 : A1.θ = A.θ.add s zx zy zz := by rw [hA1]
  have e2 : A1.still = StT A1.θ := by rw [hA1]
  have e3 : A1.off = A.off ∧ A1.thr = A.thr ∧ A1.cr = A.cr ∧ A1.d = A.d := by rw [hA1]; exact ⟨rfl, rfl, rfl, rfl⟩
  clear hA1
  rw [← e1] at hA1off hpk1 hmem1
  have hOk1 : A1.Ok Wg := ⟨by rw [e3.1]; exact hA.pos, hA1off, chan_of hpk1.wd, by rw [e2]; exact st_off hA1off⟩
  refine growM (A' := A1) (ob := .cells #[.pointer (some ⟨s.blk, 0, none⟩)] tSeatP (0, 0)) hW hA hOk1 e3.1 e3.2.1 e3.2.2.1 e3.2.2.2 h.wd (.pointer (some ⟨s.box, 0, none⟩)) rfl rfl hke (fun _ => by simp [go_sem]) (fun w₁ hs => by go_simp; try (simp [hs, hbox])) ?_ ?_ ?_ hpk1.wd ?_ ?_
  · exact fun w hk s' hs' => hk s' ((hmem1 s').2 (.inl hs'))
  · intro l hl
    rw [e2]
    rcases (hst l).1 hl with ⟨s', hs', hl⟩ | hl
    · exact ⟨s', (hmem1 s').2 (.inl hs'), hl⟩
    · exact ⟨s, (hmem1 s).2 (.inr rfl), hl.imp id (Or.imp id .inl)⟩
  · rintro c ⟨s', hs', hc⟩
    exact ⟨s', (hmem1 s').2 (.inl hs'), hc⟩
  · intro l hl
    rw [e2] at hl
    obtain ⟨s', hs', hl⟩ := hl
    rcases (hmem1 s').1 hs' with h' | rfl
    · exact .inl ((hst l).2 (.inl ⟨s', h', hl⟩))
    · rcases hl with hl | hl | hl | hl
      · exact .inl ((hst l).2 (.inr (.inl hl)))
      · exact .inl ((hst l).2 (.inr (.inr (.inl hl))))
      · exact .inl ((hst l).2 (.inr (.inr (.inr hl))))
      · exact .inr ⟨0, by rw [hbox]; exact hl⟩
  try walk_nrm
  clear hbox hd hcr hθ
  have E2 := Lib.hid e2
  have E3 := Lib.hid e3
  have E1 := Lib.hid e1
  clear e2 e3 e1
  obtain ⟨w1, hw1⟩ : ∃ w1, w1 = w.alloc (.cells #[.pointer (some ⟨s.blk, 0, none⟩)] tSeatP (0, 0)) := ⟨_, rfl⟩
  rw [← hw1] at hpk1 ⊢
  have hz1 : w1.heap.size = w.heap.size + 1 := by rw [hw1]; exact (alloc_at _ _).2.1
  clear hw1
  have low1 := hpk1.low hA1off
  obtain ⟨bt, hbt⟩ : ∃ bt, bt = w1.heap.size := ⟨_, rfl⟩
  refine goI_allocM (ob := .cells #[.func (.func f) #[] caps] 94 (0, 0)) hOk1 hpk1.wd (.pointer (some ⟨bt, 0, none⟩)) rfl rfl hke (fun _ => by simp [go_sem]) (fun w₁ hs => by go_simp; try (simp [hs, hbt])) ?_
  try walk_nrm
  have hpk2 := hpk1.allocW hA1off (.cells #[.func (.func f) #[] caps] 94 (0, 0))
  have hc2 : (w1.alloc (.cells #[.func (.func f) #[] caps] 94 (0, 0))).heap[bt]? = some (.cells #[.func (.func f) #[] caps] 94 (0, 0)) := by rw [hbt]; exact (alloc_at _ _).2.2
  have hz2 : (w1.alloc (.cells #[.func (.func f) #[] caps] 94 (0, 0))).heap.size = w1.heap.size + 1 := (alloc_at _ _).2.1
  obtain ⟨w2, hw2⟩ : ∃ w2, w2 = w1.alloc (.cells #[.func (.func f) #[] caps] 94 (0, 0)) := ⟨_, rfl⟩
  rw [← hw2] at hpk2 hc2 hz2 ⊢
  clear hw2
  obtain ⟨bw, hbw⟩ : ∃ bw, bw = w2.heap.size := ⟨_, rfl⟩
  refine goI_allocM (ob := .cells #[.pointer (some ⟨Wg, 0, none⟩)] 165 (0, 0)) hOk1 hpk2.wd (.pointer (some ⟨bw, 0, none⟩)) rfl rfl hke (fun _ => by simp [go_sem]) (fun w₁ hs => by go_simp; try (simp [hs, hbw])) ?_
  try walk_nrm
  have hpk3 := hpk2.allocW hA1off (.cells #[.pointer (some ⟨Wg, 0, none⟩)] 165 (0, 0))
  have hc3 : (w2.alloc (.cells #[.pointer (some ⟨Wg, 0, none⟩)] 165 (0, 0))).heap[bw]? = some (.cells #[.pointer (some ⟨Wg, 0, none⟩)] 165 (0, 0)) := by rw [hbw]; exact (alloc_at _ _).2.2
  have hc4 : (w2.alloc (.cells #[.pointer (some ⟨Wg, 0, none⟩)] 165 (0, 0))).heap[bt]? = some (.cells #[.func (.func f) #[] caps] 94 (0, 0)) := by rw [(alloc_at _ _).1 _ (by omega)]; exact hc2
  have hz3 : (w2.alloc (.cells #[.pointer (some ⟨Wg, 0, none⟩)] 165 (0, 0))).heap.size = w2.heap.size + 1 := (alloc_at _ _).2.1
  obtain ⟨w3, hw3⟩ : ∃ w3, w3 = w2.alloc (.cells #[.pointer (some ⟨Wg, 0, none⟩)] 165 (0, 0)) := ⟨_, rfl⟩
  rw [← hw3] at hpk3 hc3 hc4 hz3 ⊢
  clear hw3 hc2
  have hbtF : ¬ inF Wg A1.θ bt := fun hF => by have := low1 _ (.inr (.inl hF)); omega
  have hbwF : ¬ inF Wg A1.θ bw := fun hF => by have := low1 _ (.inr (.inl hF)); omega
  have hbtW : bt ≠ Wg := fun e => hbtF (.inl e)
  have hbwW : bw ≠ Wg := fun e => hbwF (.inl e)
  have hcw : w3.cell? ⟨bw, 0, none⟩ = some (.pointer (some ⟨Wg, 0, none⟩)) := by simp [World.cell?, hc3]
  have hct : w3.cell? ⟨bt, 0, none⟩ = some (.func (.func f) #[] caps) := by simp [World.cell?, hc4]
  clear hc3 hc4 hpk2 hpk1 hbt hbw hz1 hz2 hz3
  refine O.step1 rfl (fun _ => stepG_region_end) ?_
  refine O.step1 rfl (fun _ => stepG_seq) ?_
  refine O.step1 rfl (fun _ => stepG_region) ?_; simp only [List.size_toArray, List.length_cons, List.length_nil, Nat.reduceAdd, Nat.zero_add, List.range, List.range.loop]
  refine goI_readM (ad := ⟨bw, 0, none⟩) (v := .pointer (some ⟨Wg, 0, none⟩)) hbwW hcw rfl rfl hke (fun w₁ hc => by simp [go_sem, hc]) (fun w₁ hc => by go_simp) ?_; try walk_nrm
  refine callM (f := wgLink.add) (fn := addFn wgLink) (c := body_add wgLink) rfl rfl hke rfl (wgLib.f_add) (nm_add wgLink) rfl ?_
  refine addM' (A := A1) (Wg := Wg) (by simp only [List.map_toArray, List.map_cons, List.map_nil, Act.eval, Array.getD_eq_getD_getElem?, List.getElem?_toArray, List.getElem?_cons_succ, List.getElem?_cons_zero, Option.getD_some]; rfl) hW hOk1 (by rw [E3.out.2.2.2]; exact Hd.out) (by rw [E3.out.1, E3.out.2.1, E3.out.2.2.1, Hcr.out]; omega) hpk3.wd.wg fun w4 hR4 => ?_
  have hpk4 := hpk3.rwg hA1off hR4
  replace hcw := rwg_cell hbwW hcw hR4
  replace hct := rwg_cell hbtW hct hR4
  clear hpk3
  walk_nrm
  refine O.step1 rfl (fun _ => stepG_region_end) ?_
  refine O.step1 rfl (fun _ => stepG_seq) ?_
  refine O.step1 rfl (fun _ => stepG_region) ?_; simp only [List.size_toArray, List.length_cons, List.length_nil, Nat.reduceAdd, Nat.zero_add, List.range, List.range.loop]
  refine goI_valM (.func (.func 95) #[] #[.pointer (some ⟨bw, 0, none⟩), .pointer (some ⟨bt, 0, none⟩), .pointer (some ⟨s.box, 0, none⟩)]) rfl rfl hke (fun _ => by simp [go_sem]) (fun _ => by go_simp) ?_
  try walk_nrm
  obtain ⟨FV, hFV⟩ : ∃ FV, FV = Value.func (.func 95) #[] #[.pointer (some ⟨bw, 0, none⟩), .pointer (some ⟨bt, 0, none⟩), .pointer (some ⟨s.box, 0, none⟩)] := ⟨_, rfl⟩
  rw [← hFV]
  obtain ⟨A2, hA2⟩ : ∃ A2 : MI Y.spec, A2 = { A1 with cr := A1.cr + 1, d := 0 } := ⟨_, rfl⟩
  change (envM W Y.spec Wg).Go { A1 with cr := A1.cr + 1, d := 0 } _ w4
  rw [← hA2]
  have f1 : A2.θ = A1.θ := by rw [hA2]
  have f2 : A2.still = StT A2.θ := by rw [hA2]; exact E2.out
  have f3 : A2.off = A.off ∧ A2.thr = A.thr ∧ A2.cr = 0 + 1 ∧ A2.d = 0 := by rw [hA2]; exact ⟨E3.out.1, E3.out.2.1, by show A1.cr + 1 = _; rw [E3.out.2.2.1, Hcr.out], rfl⟩
  clear hA2
  rw [← f1] at hA1off hmem1 low1 hbtF hbwF hpk4
  have hOk2 : A2.Ok Wg := ⟨by rw [f3.1]; exact hA.pos, hA1off, chan_of hpk4.wd, by rw [f2]; exact st_off hA1off⟩
  have hs2 : s ∈ A2.θ := (hmem1 s).2 (.inr rfl)
  have hL2 : A2.Lone := by
    refine ⟨fun s' hs' => ?_, by rw [f3.2.1]; exact hL.two, fun p hp => ?_⟩
    · rcases (hmem1 s').1 hs' with h' | rfl
      · exact hL.own s' h'
      · exact hh.ne
    · rw [f3.2.1] at hp
      exact (hmem1 _).2 (.inl (hL.seats p hp))
  have hfresh : A2.Fresh s := by
    intro p hp c hc hc2
    rw [f3.2.1] at hp
    have := hh.low c (.inr (.inr (.inl ⟨p.1, hL.seats p hp, hc⟩)))
    rcases hc2 with rfl | rfl | rfl <;> omega
  have F1 := Lib.hid f1
  have F2 := Lib.hid f2
  have F3 := Lib.hid f3
  have HFV := Lib.hid hFV
  obtain ⟨fn, c, hff, hnm, hbd⟩ := hthr.fn
  have hnb : ∀ s', s' ∈ A.θ → s'.blk ≠ s.blk := fun s' hs' e => by
    have := hh.low s'.blk (.inr (.inl (.inr ⟨s', hs', .inl rfl⟩)))
    omega
  obtain ⟨o, ho⟩ : ∃ o, o = snap (mineB o₀ pb vs vt) w4 := ⟨_, rfl⟩
  have hq' : ∀ (a' : Y.Full) (p' : Option (Y.Pc × Y.Pg)), Y.Step ti a.2 (start a.1) a' p' → ∀ w' t, PK Y Wg B0 pb o₀ (A.started s n p').θ a' svs tr vs vt w' → (envM W Y.spec Wg).Go (A.started s n p') (G (b.at ⟨t, []⟩ k) cs) w' := fun a' p' hz w' t hpk => hk _ trivial .normal t w' (hQ _ _ _ _ ⟨.inl rfl, .tuple #[], fun w₁ _ => ⟨#[], by rw [show (envM W Y.spec Wg).P = Try.prog from rfl, Sem.runT_eq, results_none rfl, events_results_none rfl], O.still _ _⟩, hq a' p' hz w' hpk⟩)
  have hheard := fun (a' : Y.Full) (p' : Option (Y.Pc × Y.Pg)) (hz : Y.Step ti a.2 (start a.1) a' p') => run_heard (a' := a') (p := p') (n := n) (v1 := .func (.func f) #[] caps) (v2 := .pointer (some ⟨Wg, 0, none⟩)) (v4 := .pointer (some ⟨bt, 0, none⟩)) (v5 := .pointer (some ⟨bw, 0, none⟩)) (v6 := .pointer (some ⟨Wg, 0, none⟩)) (v7 := .tuple #[]) (v8 := FV) hW hpk4 hOk2 (F1.out.trans E1.out) F2.out ⟨f3.1, f3.2.1, Hcr.out, f3.2.2.2, Hd.out⟩ Hθ.out hnb hke (hq' a' p' hz)
  have hrecv : ∀ p' : Option (Y.Pc × Y.Pg), commResult #[rcase s.says saidZ] (.recv false) 0 (saidP (X := Y.spec) p') true = saidP (X := Y.spec) p' := fun p' => by simp [commResult]
  have hsnap4 : RepT Y.spec Wg A2.θ (a, o) w4 := by rw [ho]; exact hpk4.rep
  rw [← ho] at hheard
  refine hireF (hbW := hpk4.low') (s := s) (n := n) (E := fun z => Y.Leads ti a.2 o (start a.1) z) (d := { target := .fn (.func 95) #[.pointer (some ⟨bw, 0, none⟩), .pointer (some ⟨bt, 0, none⟩), .pointer (some ⟨s.box, 0, none⟩)], args := #[] }) (home := fun g₂ => ∀ z, Y.Leads ti a.2 o (start a.1) z → ∀ w', Wd Wg A2.θ w' → RepT Y.spec Wg A2.θ z.1 w' → (envM W Y.spec Wg).Go (A2.hired s n 0 z.2) (g₂.finishComm Try.prog #[rcase s.says saidZ] (.recv false) 0 (saidP (X := Y.spec) z.2) true) w') (nh := 23) (c := 0) hW hOk2 hL2 F3.out.2.2.2 F2.out F3.out.2.2.1 hs2 hfresh rfl rfl hke (fun w₁ => ?_) (fun w₁ => ?_) rfl ?_ (fun w₁ hR => ?_) fun z hz g₂ w' hh hwd hr => hh z hz w' hwd hr
  · simp [go_sem, execOp, Act.eval, resolve, Deferred.ofValue, HFV.out]
  · simp [go_sem, execOp, Act.eval, resolve, Deferred.ofValue, HFV.out]
  · refine .inl ⟨22, rfl, ?_⟩
    clear hQ hk hq hq' f1 f2 f3
    try walk_nrm
    refine Lag.step rfl (fun w hw => ?_)
    rw [stepG_region_end]
    simp only [goes_go, if_true, if_false, Bool.false_eq_true, ↓reduceIte, List.size_toArray, List.length_cons, List.length_nil, Nat.reduceAdd, Nat.zero_add, List.range, List.range.loop]; refine ⟨(by first | rfl | trivial), (by simp), ?_⟩; clear hw; try walk_nrm
    refine .inr ⟨rfl, fun w hw => ⟨_, #[], w.drawn + 1, stepG_region_draw, by simp, ?_⟩⟩
    have hord := schedule_ord (P := Try.prog) (by kernel_rfl) r63ops (w.tape w.drawn (.order b.fn 3))
    have hord : Ord .any r63ops #[false, false, false, false, false, false, false, false, false] (Region.schedule (Try.prog.follows .mixedOrders) r63ops (w.tape w.drawn (.order b.fn 3))) := hord
    refine run_lag (v1 := .func (.func f) #[] caps) (v2 := .pointer (some ⟨Wg, 0, none⟩)) (v4 := .pointer (some ⟨bt, 0, none⟩)) (v5 := .pointer (some ⟨bw, 0, none⟩)) (v6 := .pointer (some ⟨Wg, 0, none⟩)) (v7 := .tuple #[]) (v8 := FV) hs2 hke (fun l hl => ?_) (fun l hl => ?_) _ hord
    · rintro ⟨⟨a', o'⟩, p'⟩ ⟨hz, ho2⟩ w' hwd' hr'
      have ho2 : o' = o := ho2
      subst ho2
      have g := hheard a' p' hz l hl w' hwd' hr'
      revert g
      simp only [r63ops, Try.f68, Option.getD_some]
      intro g
      rw [finishComm_at rfl, hrecv]
      walk_nrm
      exact g
    · rintro ⟨⟨a', o'⟩, p'⟩ ⟨hz, ho2⟩ w' hwd' hr'
      have ho2 : o' = o := ho2
      subst ho2
      obtain ⟨i, l', rfl, hi, ho'⟩ := ord_cases hl (rs := [0]) (by kernel_rfl) (by simp)
      simp only [List.mem_cons, List.not_mem_nil, or_false] at hi
      subst hi
      have g := hheard a' p' hz l' ho' w' hwd' hr'
      have hcb : w'.cell? ⟨s.box, 0, none⟩ = some (.pointer (some ⟨s.blk, 0, none⟩)) := by
        have := (hwd'.kt s hs2).2
        simp [World.cell?, this]
      have hbW : s.box ≠ Wg := (hA1off s hs2).2.1
      revert g
      simp only [r63ops, Try.f68, Option.getD_some]
      intro g
      rw [finishComm_at rfl, hrecv]
      walk_nrm
      have Hrecv := Lib.hid hrecv
      clear hrecv
      refine goI_readM (ad := ⟨s.box, 0, none⟩) (v := .pointer (some ⟨s.blk, 0, none⟩)) hbW hcb rfl rfl hke (fun w₁ hc => by simp [go_sem, hc]) (fun w₁ hc => by go_simp) ?_; try walk_nrm
      exact g
  · have O' := envT_ok Y.spec Wg (WgL Wg) s
    refine O'.step1 rfl (fun v => stepG_born Try.func95 (by kernel_rfl) rfl v) ?_
    have hpk5 := hpk4.rwg hA1off hR
    exact child_c hs2 hA1off (shOk hA1off) hpk5.wd hff hnm hbd (rwg_cell hbwW hcw hR) (rwg_cell hbtW hct hR) hbwF hbtF (hthr.run Wg s A2.θ n w₁ a o _ hs2 hA1off (shOk hA1off) hpk5.wd (hsnap4.rwg hA1off hpk4.wd hR) rfl fun _ h => h)
end
end Go.Proofs.Ytdedmmjmiakidaa
/- Plain words: a play, told apart from memory; main's standing in it; a turn for whomever. No condition. -/
namespace Go.Proofs.Ytdedmmjmiakidaa
open Go.Conc Go.RowKit
open Go.ConcR (KK wgBlock WgAt stA smA rd wr mk)

/-- A play under way: what the threads' state is, where each stands, which turns there were. -/
structure PSt (Y : Core) where
  a : Y.St
  ps : List (Option Y.Pc)
  tr : List Turned
section
variable {Y : Core}
/-- A turn for number k, if there is one. -/
def takeF (k : Int) (σ : PSt Y) : PSt Y × Bool :=
  if k < 0 then (σ, false) else match σ.ps[k.toNat]? with
    | some (some pc) => if σ.tr.length = 16384 then (σ, false) else
        (⟨(Y.next pc σ.a).1, σ.ps.set k.toNat (Y.next pc σ.a).2, σ.tr ++ [(k.toNat, (Y.mark pc).1, (Y.mark pc).2)]⟩, true)
    | _ => (σ, false)
/-- By an order. -/
def orderF (l : List Int) (σ : PSt Y) : PSt Y := l.foldl (fun σ k => (takeF k σ).1) σ
/-- Each of these once. -/
def passF (l : List Nat) (σ : PSt Y) : PSt Y × Bool := l.foldl (fun x (k : Nat) => ((takeF (k : Int) x.1).1, (takeF (k : Int) x.1).2 || x.2)) (σ, false)
def restF : Nat → PSt Y → PSt Y
  | 0, σ => σ
  | n + 1, σ => let x := passF (List.range σ.ps.length) σ; if x.2 then restF n x.1 else x.1
/-- The start of all threads. -/
def startF : List (Y.St → Y.St × Option Y.Pc) → PSt Y → PSt Y
  | [], σ => σ
  | f :: l, σ => startF l ⟨(f σ.a).1, σ.ps ++ [(f σ.a).2], σ.tr⟩
def playF (starts : List (Y.St → Y.St × Option Y.Pc)) (order : List Int) (a : Y.St) : PSt Y := restF 16385 (orderF order (startF starts ⟨a, [], []⟩))
end

theorem map_set_fst {S P : Type} {thr : List (S × P)} {i : Nat} {s : S} {q q' : P} (h : thr[i]? = some (s, q)) : (thr.set i (s, q')).map (·.1) = thr.map (·.1) := by
  refine List.ext_getElem? fun j => ?_
  rw [List.map_set]
  by_cases e : j = i
  · subst e
    rw [List.getElem?_set_self (by simpa using (List.getElem?_eq_some_iff.1 h).1)]
    simp [h]
  · rw [List.getElem?_set_ne (fun z => e z.symm)]
theorem map_set_ps {S P Z : Type} {thr : List (S × Option ((P × Z) × Nat))} {i n : Nat} {s : S} {p : Option (P × Z)} : (thr.map fun x => x.2.map (·.1.1)).set i (p.map (·.1)) = (thr.set i (s, p.map fun pc => (pc, n))).map fun x => x.2.map (·.1.1) := by
  rw [List.map_set]
  congr 1
  cases p <;> rfl
theorem map_budget {P : Type} {p : Option P} {n n' : Nat} {pc : P} (h : (p.map fun pc => (pc, n)) = some (pc, n')) : n = n' := by
  cases p with
  | none => cases h
  | some p => simp only [Option.map_some, Option.some.injEq, Prod.mk.injEq] at h; exact h.2
theorem step_ps {P Z : Type} {d : Option P} {z : Z} {p' : Option (P × Z)} (h : p' = d.map fun p => (p, z)) : d = p'.map (·.1) := by
  subst h
  cases d <;> rfl
theorem step_own {S P Z : Type} {d : Option P} {z : Z} {p' : Option (P × Z)} {n n' : Nat} {s s' : S} {pc' : P × Z} (h : p' = d.map fun p => (p, z)) (hj : some (s, p'.map fun pc => (pc, n)) = some (s', some (pc', n'))) : d = some pc'.1 ∧ z = pc'.2 := by
  subst h
  cases d with
  | none => cases hj
  | some p =>
    have := (Prod.mk.inj (Option.some.inj hj)).2
    have := (Prod.mk.inj (Option.some.inj this)).1
    subst this
    exact ⟨rfl, rfl⟩
theorem take_go' {Y : Core} {σ : PSt Y} {i : Nat} {pc : Y.Pc} (hp : σ.ps[i]? = some (some pc)) (ht : ¬ σ.tr.length = 16384) : takeF (i : Int) σ = (⟨(Y.next pc σ.a).1, σ.ps.set i (Y.next pc σ.a).2, σ.tr ++ [(i, (Y.mark pc).1, (Y.mark pc).2)]⟩, true) := by
  unfold takeF
  rw [if_neg (by omega), show (i : Int).toNat = i by simp, hp]
  simp [ht]
theorem take_no {Y : Core} {σ : PSt Y} {i : Nat} (hp : σ.ps[i]? = none ∨ σ.ps[i]? = some none ∨ σ.tr.length = 16384) : takeF (i : Int) σ = (σ, false) := by
  unfold takeF
  rw [if_neg (by omega), show (i : Int).toNat = i by simp]
  cases h : σ.ps[i]? with
  | none => rfl
  | some q => cases q with
    | none => rfl
    | some pc =>
      rw [h] at hp
      simp only [reduceCtorEq, Option.some.injEq, false_or] at hp
      simp [hp]
theorem take_len {Y : Core} (k : Int) (σ : PSt Y) : (takeF k σ).1.ps.length = σ.ps.length ∧ ((takeF k σ).2 = true → (takeF k σ).1.tr.length = σ.tr.length + 1 ∧ σ.tr.length ≠ 16384) ∧ ((takeF k σ).2 = false → (takeF k σ).1 = σ) := by
  unfold takeF
  split
  · exact ⟨rfl, by simp, by simp⟩
  · split
    · split
      · exact ⟨rfl, by simp, by simp⟩
      · exact ⟨by simp, fun _ => ⟨by simp, by assumption⟩, by simp⟩
    · exact ⟨rfl, by simp, by simp⟩
theorem pass_len {Y : Core} (l : List Nat) : ∀ (σ : PSt Y) (b : Bool), let x := l.foldl (fun x (k : Nat) => ((takeF (k : Int) x.1).1, (takeF (k : Int) x.1).2 || x.2)) (σ, b); x.1.ps.length = σ.ps.length ∧ σ.tr.length ≤ x.1.tr.length ∧ (x.2 = true → b = true ∨ σ.tr.length < x.1.tr.length) := by
  induction l with
  | nil => exact fun σ b => ⟨rfl, Nat.le_refl _, fun h => .inl h⟩
  | cons k l ih =>
    intro σ b
    have h1 := take_len (k : Int) σ
    have h2 := ih (takeF (k : Int) σ).1 ((takeF (k : Int) σ).2 || b)
    simp only [List.foldl_cons] at h2 ⊢
    generalize takeF (k : Int) σ = z at h1 h2 ⊢
    obtain ⟨σ1, b1⟩ := z
    simp only at h1 h2 ⊢
    cases b1 with
    | true =>
      have := (h1.2.1 rfl).1
      refine ⟨h2.1.trans h1.1, by omega, fun h => .inr (by omega)⟩
    | false =>
      obtain rfl := h1.2.2 rfl
      simp only [Bool.false_or] at h2 ⊢
      exact h2
section
variable {Y : Core} {W : Machine → Trace → Prop} {Wg B0 pb off : Nat} {o₀ : Own} {A : MI Y.spec} {w : World} {σ : PSt Y} {γ : Nat → Y.Pg} {vs vt : Value}
/-- Main in the play, all started threads heard. -/
structure LP (Wg B0 pb off : Nat) (o₀ : Own) (A : MI Y.spec) (σ : PSt Y) (γ : Nat → Y.Pg) (vs vt : Value) (w : World) : Prop where
  ok : A.Ok Wg
  lone : A.Lone
  apart : A.Apart
  d : A.d = 0
  cr : A.cr = 0
  off : A.off = off
  θ : A.θ = tabOf Y.spec A.thr
  st : A.still = StT A.θ
  ps : σ.ps = A.thr.map fun (p : SV × Option ((Y.Pc × Y.Pg) × Nat)) => p.2.map (·.1.1)
  n : ∀ p ∈ A.thr, ∀ pc n, p.2 = some (pc, n) → 16385 ≤ n + σ.tr.length
  own : ∀ i s (pc : Y.Pc × Y.Pg) n, A.thr[i]? = some (s, some (pc, n)) → Y.tid pc.1 = i ∧ γ i = pc.2
  len : σ.tr.length ≤ 16384
  few : A.thr.length ≤ 16
  pk : PK Y Wg B0 pb o₀ A.θ (σ.a, γ) (A.thr.map (·.1)) σ.tr vs vt w
theorem tab_last {X : Spec} {thr : List (SV × Option (X.Pc × Nat))} {i : Nat} {s : SV} {q : Option (X.Pc × Nat)} (h : thr[i]? = some (s, q)) : List.Mem (s, lastV X q) (tabOf X thr) :=
  List.mem_map.2 ⟨(s, q), List.mem_of_getElem? h, rfl⟩
/-- What becomes of the standing in a turn. -/
theorem LP.played (h : LP Wg B0 pb off o₀ A σ γ vs vt w) {i n : Nat} {s : SV} {pc : Y.Pc × Y.Pg} (hi : A.thr[i]? = some (s, some (pc, n + 1))) (ht : σ.tr.length < 16384) {vt' : Value} {w' : World} {a' : Y.Full} {p' : Option (Y.Pc × Y.Pg)} (hz : Y.Step (Y.tid pc.1) γ (Y.next pc.1 σ.a) a' p')
    (hpk : PK Y Wg B0 pb o₀ (A.played i s n p').θ a' (A.thr.map (·.1)) (σ.tr ++ [(i, (Y.mark pc.1).1, (Y.mark pc.1).2)]) vs vt' w') :
    LP Wg B0 pb off o₀ (A.played i s n p') ⟨(Y.next pc.1 σ.a).1, σ.ps.set i (Y.next pc.1 σ.a).2, σ.tr ++ [(i, (Y.mark pc.1).1, (Y.mark pc.1).2)]⟩ a'.2 vs vt' w' := by
  have hil := (List.getElem?_eq_some_iff.1 hi).1
  have hmem : ∀ s', s' ∈ (A.played i s n p').θ ↔ s' ∈ A.θ := fun s' => by rw [h.θ]; exact tab_set hi s'
  obtain ⟨c1, c2, c3, c4, c5, c6⟩ := mem_congr (Wg := Wg) hmem
  have key : ∀ (j : Nat) (r : SV × Option ((Y.Pc × Y.Pg) × Nat)), (A.played i s n p').thr[j]? = some r → ∃ r', A.thr[j]? = some r' ∧ r'.1 = r.1 := by
    intro j r hr
    simp only [MI.played] at hr
    by_cases e : j = i
    · subst e
      rw [List.getElem?_set_self hil] at hr
      obtain rfl := Option.some.inj hr
      exact ⟨_, hi, rfl⟩
    · rw [List.getElem?_set_ne (fun z => e z.symm)] at hr
      exact ⟨r, hr, rfl⟩
  have hsvs := map_set_fst (q' := p'.map fun pc => (pc, n)) hi
  refine ⟨⟨h.ok.pos, c5.2 h.ok.off, fun s' hs' => ?_, fun l hl => ?_⟩, ⟨fun s' hs' => h.lone.own s' ((hmem s').1 hs'), fun j k r r2 h1 h2 hne c hc => ?_, fun r hr => ?_⟩, fun j k r r2 h1 h2 hne => ?_, h.d, h.cr, h.off, rfl, rfl, ?_, fun p hp pc' n' hq => ?_, fun j s' pc' n' hj => ?_, by simp; omega, by simpa [MI.played] using h.few, ?_⟩
  · rw [c3]; exact h.ok.chan s' ((hmem s').1 hs')
  · have hl : StT (A.played i s n p').θ l := hl
    rw [c4, ← h.st] at hl
    exact h.ok.still l hl
  · obtain ⟨r', h1', e1⟩ := key j r h1
    obtain ⟨r2', h2', e2⟩ := key k r2 h2
    rw [← e1] at hc
    rw [← e2]
    exact h.lone.two j k r' r2' h1' h2' hne c hc
  · obtain ⟨j, hj⟩ := List.mem_iff_getElem?.1 hr
    obtain ⟨r', h1', e1⟩ := key j r hj
    rw [← e1]
    exact (hmem _).2 (h.lone.seats r' (List.mem_of_getElem? h1'))
  · obtain ⟨r', h1', e1⟩ := key j r h1
    obtain ⟨r2', h2', e2⟩ := key k r2 h2
    rw [← e1, ← e2]
    exact h.apart j k r' r2' h1' h2' hne
  · show σ.ps.set i (Y.next pc.1 σ.a).2 = _
    rw [h.ps, step_ps hz.pc]
    exact map_set_ps
  · have hp : p ∈ A.thr.set i (s, p'.map fun pc => (pc, n)) := hp
    show 16385 ≤ n' + (σ.tr ++ [_]).length
    simp only [List.length_append, List.length_cons, List.length_nil]
    rcases List.mem_or_eq_of_mem_set hp with hp | rfl
    · have := h.n p hp pc' n' hq; omega
    · have := h.n _ (List.mem_of_getElem? hi) pc (n + 1) rfl
      have := map_budget hq
      omega
  · have hti := h.own i s pc (n + 1) hi
    have hj : (A.thr.set i (s, p'.map fun pc => (pc, n)))[j]? = some (s', some (pc', n')) := hj
    by_cases e : j = i
    · subst e
      rw [List.getElem?_set_self hil] at hj
      obtain ⟨q1, q2⟩ := step_own hz.pc hj
      exact ⟨(Y.tids _ _ _ q1).trans hti.1, by rw [← q2, hti.1]⟩
    · rw [List.getElem?_set_ne (fun z => e z.symm)] at hj
      have := h.own j s' pc' n' hj
      exact ⟨this.1, by rw [hz.others j (by rw [hti.1]; exact e)]; exact this.2⟩
  · have ea : (((Y.next pc.1 σ.a).1, a'.2) : Y.Full) = a' := Prod.ext hz.st.symm rfl
    show PK Y Wg B0 pb o₀ _ ((Y.next pc.1 σ.a).1, a'.2) ((A.thr.set i _).map _) _ vs vt' w'
    rw [ea]
    exact Eq.mp (congrArg (fun l => PK Y Wg B0 pb o₀ (A.played i s n p').θ a' l (σ.tr ++ [(i, (Y.mark pc.1).1, (Y.mark pc.1).2)]) vs vt' w') hsvs.symm) hpk
/-- ████ A TURN FOR WHOMEVER. ████ -/
theorem take_any (hW : Back Try.prog W) (h : LP Wg B0 pb off o₀ A σ γ vs vt w) (k : Int) (hk : k < 9223372036854775808) {Q : MI Y.spec → Value → World → Prop}
    (hq : ∀ A' γ' vt' w', LP Wg B0 pb off o₀ A' (takeF k σ).1 γ' vs vt' w' → A'.thr.map (·.1) = A.thr.map (·.1) → Q A' (.bool (takeF k σ).2) w') :
    cpsC (envM W Y.spec Wg) 69 #[.pointer (some ⟨pb, 0, none⟩), .int .i64 k] Q A w := by
  have hlen : (A.thr.map (·.1)).length = A.thr.length := List.length_map ..
  have hfew := h.few
  by_cases hk0 : k < 0
  · have e : takeF k σ = (σ, false) := by unfold takeF; rw [if_pos hk0]
    rw [e] at hq
    exact take_neg k hk0 (hq A γ vt w h rfl)
  · obtain ⟨i, rfl⟩ : ∃ i : Nat, k = i := ⟨k.toNat, by omega⟩
    have hit : (i : Int).toNat = i := by simp
    by_cases hil : A.thr.length ≤ i
    · have e : takeF (i : Int) σ = (σ, false) := take_no (.inl (by rw [h.ps]; exact List.getElem?_eq_none (Nat.le_trans (Nat.le_of_eq (List.length_map ..)) hil)))
      rw [e] at hq
      exact take_big h.pk i (by rw [hlen]; exact hil) (by omega) (by omega) (hq A γ vt w h rfl)
    · have hil : i < A.thr.length := by omega
      obtain ⟨s, q, hi⟩ : ∃ s q, A.thr[i]? = some (s, q) := ⟨_, _, List.getElem?_eq_getElem hil⟩
      have hsv : (A.thr.map (·.1))[i]? = some s := by simp [hi]
      have hps : σ.ps[i]? = some (Option.map (fun x : (Y.Pc × Y.Pg) × Nat => x.1.1) q) := by rw [h.ps]; exact (List.getElem?_map ..).trans (congrArg (Option.map _) hi)
      have hm := tab_last hi
      rw [← h.θ] at hm
      cases q with
      | none =>
        have e : takeF (i : Int) σ = (σ, false) := take_no (.inr (.inl hps))
        rw [e] at hq
        exact take_over h.pk i h.ok hsv hm (by omega) (hq A γ vt w h rfl)
      | some q =>
        obtain ⟨pc, n⟩ := q
        by_cases ht : σ.tr.length = 16384
        · have e : takeF (i : Int) σ = (σ, false) := take_no (.inr (.inr ht))
          rw [e] at hq
          exact take_full h.pk i h.ok hsv hm (by omega) ht (hq A γ vt w h rfl)
        · have hn := h.n _ (List.mem_of_getElem? hi) pc n rfl
          have hlt : σ.tr.length < 16384 := by have := h.len; omega
          obtain ⟨n', rfl⟩ : ∃ n', n = n' + 1 := ⟨n - 1, by omega⟩
          have e := take_go' (σ := σ) (i := i) (pc := pc.1) hps ht
          rw [e] at hq
          refine take_go hW h.pk h.ok h.lone h.apart h.d h.θ h.st hi (by rw [(h.own i s pc _ hi).1]; exact (h.own i s pc _ hi).2) hsv (by omega) hlt fun a' p' hz vt' w' hpk => hq _ a'.2 vt' w' (h.played hi hlt hz hpk) ?_
          exact map_set_fst hi
end
end Go.Proofs.Ytdedmmjmiakidaa
