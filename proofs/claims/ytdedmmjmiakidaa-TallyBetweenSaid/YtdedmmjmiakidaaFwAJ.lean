/- Plain words: a play, from its call to its end. No condition. -/
import Derived.Test.YtdedmmjmiakidaaFwAI
import Derived.Laws.ResultCell
import Derived.Test.YtdedmmjmiakidaaFwAB
import Derived.OwnWalk
import Derived.Test.YtdedmmjmiakidaaFwAF
import Derived.Test.YtdedmmjmiakidaaProg
import Derived.Test.YtdedmmjmiakidaaRows
import Derived.ProofKit
import Derived.OpenShut
import Derived.Conc.LeavingOf
import Derived.Deep.Slices
import Derived.Deep.Grids
set_option linter.unusedVariables false
set_option linter.unusedSimpArgs false
/- Plain words: a play, from its call to its end. No condition. -/
namespace Go.Proofs.Ytdedmmjmiakidaa
open Go.Conc Go.RowKit Go.Conc.Lib Go.ConcR.Gen Go.ConcN.Gen
open Go.ConcR (KK wgBlock WgAt stA smA rd wr mk)
section
variable {E : Env} {n : E.ι} {t : Array Value} {w : World} {b : Frame} {k : List Item} {cs : List Frame}
/-- The first of two pieces, in the raw. -/
theorem goSeq (O : E.Ok) {c d : Code} (hf : E.Fr b cs) (h : ∀ Q' : E.ι → Exit → Array Value → World → Prop, (∀ n' t' w', E.Go n' (G (b.at ⟨t', []⟩ (.code d :: k)) cs) w' → Q' n' .normal t' w') → cps E c Q' n t w) : E.Go n (G (b.at ⟨t, []⟩ (.code (.seq c d) :: k)) cs) w :=
  O.step1 rfl (fun _ => stepG_seq) (h (fun n' e t' w' => e = .normal ∧ E.Go n' (G (b.at ⟨t', []⟩ (.code d :: k)) cs) w') (fun _ _ _ h => ⟨rfl, h⟩) b (.code d :: k) cs hf fun n' _ e t' w' q => by
    obtain ⟨rfl, q⟩ := q
    exact q)
end
section
variable {E : Env} {bad : E.ι → Nat → Prop} {n : E.ι} {w : World} {ops : Array Oper} {i : Nat} {o : Oper} {l : List Nat} {t : Array Value} {Qr : E.ι → Array Value → World → Prop}
/-- A read of two cells. -/
theorem read2G (G : E.Good bad) {a1 a2 : Addr} {v1 v2 v : Value} (hn1 : ¬ bad n a1.block) (hn2 : ¬ bad n a2.block) (hc1 : w.cell? a1 = some v1) (hc2 : w.cell? a2 = some v2) (ho : ops[i]? = some o) (hw : Region.wanted o (yielded ops t) = true)
    (he : ∀ w₁, w₁.cell? a1 = some v1 → w₁.cell? a2 = some v2 → (execOp (⟨t, []⟩ : Act).eval o).events Try.prog w₁ #[] = #[⟨.cell a1, false, false⟩, ⟨.cell a2, false, false⟩]) (hr : ∀ w₁, w₁.cell? a1 = some v1 → w₁.cell? a2 = some v2 → (execOp (⟨t, []⟩ : Act).eval o).run Try.prog w₁ = .ok (.value v) w₁)
    (h : cpsR E ops l Qr n ((⟨t, []⟩ : Act).put o.dst v).tmps w) : cpsR E ops (i :: l) Qr n t w := by
  refine cpsR_op G.ok ho hw fun w₁ hR => ?_
  have h1 := G.cell hn1 hc1 hR
  have h2 := G.cell hn2 hc2 hR
  refine ⟨v, w₁, #[⟨.cell a1, false, false⟩, ⟨.cell a2, false, false⟩], .inl ?_, G.reads n w₁ _ fun e hel => ?_, h.rely G.ok hR⟩
  · rw [G.prog, Sem.runT_eq, hr w₁ h1 h2, he w₁ h1 h2]
  · simp only [List.mem_toArray, List.mem_cons, List.not_mem_nil, or_false] at hel
    rcases hel with rfl | rfl
    · exact ⟨a1, rfl, hn1, size_of_cell h1⟩
    · exact ⟨a2, rfl, hn2, size_of_cell h2⟩
end
section
variable {W : Machine → Trace → Prop} {x : LX} {w : World} {ops : Array Oper} {i : Nat} {o : Oper} {l : List Nat} {t : Array Value} {Qr : LX → Array Value → World → Prop}
theorem allocL {ob : Obj} (v : Value) (ho : ops[i]? = some o) (hw : Region.wanted o (yielded ops t) = true) (he : ∀ w₁, (execOp (⟨t, []⟩ : Act).eval o).events Try.prog w₁ #[] = #[])
    (hr : ∀ w₁ : World, w₁.heap.size = w.heap.size → (execOp (⟨t, []⟩ : Act).eval o).run Try.prog w₁ = .ok (.value v) (w₁.alloc ob)) (h : cpsR (envL W) ops l Qr x ((⟨t, []⟩ : Act).put o.dst v).tmps (w.alloc ob)) : cpsR (envL W) ops (i :: l) Qr x t w := by
  refine cpsR_op envL_ok ho hw fun w₁ hR => ?_
  obtain ⟨d, rfl⟩ : AtRel w w₁ := hR
  refine ⟨v, (w.at d).alloc ob, #[], .inl ?_, ⟨by rw [(alloc_at (w.at d) ob).2.1]; exact Nat.le_succ _, by simp⟩, h.rely envL_ok (show AtRel _ _ from ⟨d, rfl⟩)⟩
  show (execOp (⟨t, []⟩ : Act).eval o).runT Try.prog _ #[] = _
  rw [Sem.runT_eq, hr (w.at d) rfl, he]
theorem storeL {f : World → World} {es : Array Event} (hf : ∀ d : Nat, f (w.at d) = (f w).at d) (hs : (f w).heap.size = w.heap.size) (hes : ∀ e ∈ es, ∃ (a : Addr) (wr : Bool), e = ⟨.cell a, wr, false⟩ ∧ ¬ x.bad a.block ∧ a.block < w.heap.size) (ho : ops[i]? = some o) (hw : Region.wanted o (yielded ops t) = true) (hst : ∀ d : Nat, (execOp (⟨t, []⟩ : Act).eval o).runT Try.prog (w.at d) #[] = (.ok .skip (f (w.at d)), es))
    (h : cpsR (envL W) ops l Qr x ((⟨t, []⟩ : Act).put o.dst undef).tmps (f w)) : cpsR (envL W) ops (i :: l) Qr x t w := by
  refine cpsR_op envL_ok ho hw fun w₁ hR => ?_
  obtain ⟨d, rfl⟩ : AtRel w w₁ := hR
  refine ⟨undef, f (w.at d), es, .inr ⟨hst d, rfl⟩, ⟨by rw [hf]; exact Nat.le_of_eq hs.symm, fun e he => ?_⟩, h.rely envL_ok (show AtRel _ _ from ⟨d, hf d⟩)⟩
  obtain ⟨a, wr, rfl, hb, hl⟩ := hes e he
  exact evL_cell a wr (sh_bad hb) (by rw [hf]; show _ < (f w).heap.size; rw [hs]; exact hl)
end
theorem wait_go' {W : Machine → Trace → Prop} {Wg : Nat} {w : World} (hW : Back Try.prog W) {m N : Nat} (hm : m < 2147483647) {t0 : Array Value} {b₀ : Frame} {a₀ : Act} {ops₀ : Array Oper} {i₀ : Nat} {rest₀ : List Nat} {k₀ : List Item} {cs : List Frame} (ht : t0 = #[.pointer (some ⟨Wg, 0, none⟩)] ++ Array.replicate 83 undef) (hwg : ∃ st sm, WgAt tWg Wg w st sm)
    (hk : ∀ w', RWg tWg Wg w w' → (envW W Wg).Go ⟨0, 0, false, N⟩ (G (b₀.at (a₀.put ((ops₀[i₀]?).bind (·.dst)) (.tuple #[])) (.inRegion ops₀ rest₀ :: k₀)) cs) w') :
    (envW W Wg).Go ⟨m, 0, false, N⟩ (G ((base wgLink.wait).at ⟨t0, []⟩ [.code (body_wait wgLink)]) (b₀.at a₀ (.inRegion ops₀ (i₀ :: rest₀) :: k₀) :: cs)) w := by
  subst ht
  exact wait_go hW hm hwg hk
noncomputable def p0 : Code := match (Try.f37.body.getD .skip) with | .seq c _ => c | c => c
noncomputable def p1 : Code := match (Try.f37.body.getD .skip) with | .seq _ (.seq c _) => c | c => c
noncomputable def p2 : Code := match (Try.f37.body.getD .skip) with | .seq _ (.seq _ (.seq c _)) => c | c => c
noncomputable def p6 : Code := match (Try.f37.body.getD .skip) with | .seq _ (.seq _ (.seq _ (.seq c _))) => c | c => c
noncomputable def p7 : Code := match (Try.f37.body.getD .skip) with | .seq _ (.seq _ (.seq _ (.seq _ (.seq c _)))) => c | c => c
noncomputable def p35 : Code := match (Try.f37.body.getD .skip) with | .seq _ (.seq _ (.seq _ (.seq _ (.seq _ (.seq _ (.seq _ (.seq _ (.seq _ (.seq c _))))))))) => c | c => c
noncomputable def p36 : Code := match (Try.f37.body.getD .skip) with | .seq _ (.seq _ (.seq _ (.seq _ (.seq _ (.seq _ (.seq _ (.seq _ (.seq _ (.seq _ (.seq c _)))))))))) => c | c => c
theorem body_play : Try.f37.body = some (.seq p0 (.seq p1 (.seq p2 (.seq p6 (.seq p7 (.seq c8 (.seq c15 (.seq c20 (.seq c28 (.seq p35 (.seq p36 .ret))))))))))) := by kernel_rfl
/-- Behind a play. -/
structure Played (Y : Core) (Wg B0 : Nat) (o₀ : Own) (a : Y.Full) (tr : List Turned) (vt : Value) (w : World) : Prop where
  wg : ∃ st sm, WgAt tWg Wg w st sm
  wgo : o₀ Wg = none
  rep : Y.Rep a w
  foot : ∀ b, Y.foot a b → b ≠ Wg ∧ o₀ b = none ∧ vt.ownBlock ≠ some b
  old : Keeps o₀ w
  os : w.os = o₀.os
  out : w.output = o₀.out
  trace : w.ownsRow B0 tTurned 3 vt tr.length (tr.flatMap turnCells)
  traceW : vt.ownBlock ≠ some Wg
  base : ∀ b ob, o₀ b = some ob → b < B0
section
variable {Y : Core} {W : Machine → Trace → Prop} {Wg B0 pb rb off : Nat} {o₀ : Own} {A : MI Y.spec} {w : World} {σ : PSt Y} {svs : List SV} {tr : List Turned} {a : Y.Full} {vs vt : Value}
theorem over_ok (h : A.Ok Wg) : A.over.Ok Wg := ⟨h.pos, fun s hs => absurd hs (no_seat s), fun s hs => absurd hs (no_seat s), fun _ h => h.elim⟩
/-- The play begins. -/
theorem LP.begin {n : Nat} (hn : 0 < n) (hwg : ∃ st sm, WgAt tWg Wg w st sm) (hrow : w.heap[pb]? = some (.cells #[.slice none 0 0, .slice none 0 0, .slice none 0 0] tPlay (0, 0))) (hpW : pb ≠ Wg) (hold : ∀ b ob, o₀ b = some ob → w.heap[b]? = some ob ∧ b < pb ∧ b ≠ Wg ∧ (b < Y.base ∨ ∀ cap buf cl x r t, ob ≠ .chan cap buf cl x r t)) (hbW : Y.base ≤ Wg)
    (hos : w.os = o₀.os ∧ w.output = o₀.out) (hrep : Y.Rep a w) (hfoot : ∀ b, Y.foot a b → o₀ b = none ∧ b ≠ Wg ∧ b ≠ pb) : LP Wg pb pb n o₀ (MI.empty Y.spec n) ⟨a.1, [], []⟩ a.2 (.slice none 0 0) (.slice none 0 0) w := by
  have hmine : ∀ b, mineB o₀ pb (.slice none 0 0) (.slice none 0 0) b ↔ o₀ b ≠ none ∨ b = pb := fun b => by simp [mineB, Value.ownBlock]
  have hnoF : ∀ b, inF Wg [] b → b = Wg := fun b hb => hb.resolve_right fun ⟨s, hs, _⟩ => no_seat s hs
  have hmW : ∀ b, mineB o₀ pb (.slice none 0 0) (.slice none 0 0) b → b ≠ Wg := fun b hb => by
    rcases (hmine b).1 hb with h | rfl
    · obtain ⟨ob, hob⟩ := Option.ne_none_iff_exists'.1 h
      exact (hold b ob hob).2.2.1
    · exact hpW
  have hst : (fun _ : Loc => False) = StT [] := funext fun l => propext ⟨fun h => h.elim, fun ⟨s, hs, _⟩ => no_seat s hs⟩
  have hok := empty_ok (X := Y.spec) (Wg := Wg) hn
  refine ⟨hok, ⟨fun s hs => absurd hs (no_seat s), fun i j p q h => (by simp [MI.empty] at h), fun p hp => (by simp [MI.empty] at hp)⟩, fun i j p q h => (by simp [MI.empty] at h), rfl, rfl, rfl, rfl, hst, rfl, fun p hp => (by simp [MI.empty] at hp), fun i s pc n h => absurd (List.mem_of_getElem? h) (by intro h'; cases h'), by simp, by simp [MI.empty], ?_⟩
  refine ⟨⟨fun s hs => absurd hs (no_seat s), hwg, fun c ⟨s, hs, _⟩ => absurd hs (no_seat s), fun s x y z hm => (by cases hm)⟩, ⟨hrow, World.ownsRow_nil _ _ _ _, World.ownsRow_nil _ _ _ _⟩, fun u hu => ⟨?_, fun b ob hob => ?_, hu.os, hu.output⟩, fun b ob hob => ⟨(hold b ob hob).1, (hold b ob hob).2.1⟩, hos.1, hos.2, fun b hb hF => hmW b hb (hnoF b hF), Nat.le_refl _, hbW, by simp [Value.ownBlock], by simp [Value.ownBlock], fun b h => (by simp [Value.ownBlock] at h)⟩
  · exact Y.frame a w u (fun b hb => hu.heap b fun hF => (hfoot b hb).2.1 (hnoF b hF)) hrep
  · obtain ⟨hm, hb⟩ := snap_some.1 hob
    refine ⟨by rw [hu.heap b fun hF => hmW b hm (hnoF b hF)]; exact hb, fun hf => ?_, ?_⟩
    · rcases (hmine b).1 hm with h | rfl
      · exact h (hfoot b hf).1
      · exact (hfoot b hf).2.2 rfl
    · rcases (hmine b).1 hm with h | rfl
      · obtain ⟨ob', hob'⟩ := Option.ne_none_iff_exists'.1 h
        rw [(hold b ob' hob').1] at hb
        obtain rfl := Option.some.inj hb
        exact (hold b _ hob').2.2.2
      · rw [hrow] at hb
        obtain rfl := Option.some.inj hb
        exact .inr fun _ _ _ _ _ _ e => by cases e
set_option maxRecDepth 100000 in
set_option maxHeartbeats 8000000 in
/-- .. from where the group is laid. -/
theorem play_mid (hW : Back Try.prog W) {N : Nat} {vo vth : Value} {order : List Int} {ths : List (Thr Y)} (h : LP Wg pb pb N o₀ (MI.empty Y.spec N) ⟨a.1, [], []⟩ a.2 (.slice none 0 0) (.slice none 0 0) w) (hn : N < 60000)
    (hord : ∀ w, Keeps o₀ w → w.ownsRow 0 3 1 vo order.length (order.map (Value.int .i64))) (hobo : ∀ b, vo.ownBlock = some b → o₀ b ≠ none) (hol : order.length < 1000000) (hov : ∀ k ∈ order, k < 9223372036854775808)
    (hth : ∀ w, Keeps o₀ w → w.ownsRow 0 tFn 1 vth ths.length (ths.map Thr.val)) (hobt : ∀ b, vth.ownBlock = some b → o₀ b ≠ none) (h16 : ths.length ≤ 16) (hrun : ∀ i d, ths[i]? = some d → ThrC Y i (a.2 i) d.f d.caps d.start)
    (hall : ∀ p ∈ (playF (ths.map (·.start)) order a.1).ps, p = none) {b : Frame} {k : List Item} {cs : List Frame} (hf : (envL W).Fr b cs) {x2 x3 x5 x6 x9 x10 x11 x12 x13 x14 x15 x16 x17 x18 x19 x20 x21 x22 x23 x24 x25 x26 x27 x28 x29 x30 x31 x32 x33 x34 x35 x36 x37 x38 x39 x40 x41 x42 x43 x44 x45 x46 x47 x48 x49 x50 x51 x52 x53 x54 x55 x56 x57 x58 x59 x60 x61 x62 x63 x64 x65 x66 x67 x68 x69 x70 x71 x72 x73 x74 x75 x76 x77 x78 x79 x80 x81 x82 x83 x84 x85 x86 x87 x88 x89 x90 x91 x92 x93 x94 x95 x96 x97 x98 x99 x100 : Value}
    (hk : ∀ γ' w' vs vt (svs : List SV) (x0 x1 x2 x3 x5 x6 x7 x9 x10 x11 x12 x13 x14 x15 x16 x17 x18 x19 x20 x21 x22 x23 x24 x25 x26 x27 x28 x29 x30 x31 x32 x33 x34 x35 x36 x37 x38 x39 x40 x41 x42 x43 x44 x45 x46 x47 x48 x49 x50 x51 x52 x53 x54 x55 x56 x57 x58 x59 x60 x61 x62 x63 x64 x65 x66 x67 x68 x69 x70 x71 x72 x73 x74 x75 x76 x77 x78 x79 x80 x81 x82 x83 x84 x85 x86 x87 x88 x89 x90 x91 x92 x93 x94 x95 x96 x97 x98 x99 x100 : Value), PE Y Wg pb pb o₀ ((playF (ths.map (·.start)) order a.1).a, γ') svs (playF (ths.map (·.start)) order a.1).tr vs vt svs.length w' → (envL W).Go ⟨some Wg, N + ths.length⟩ (G (b.at ⟨#[x0, x1, x2, x3, .pointer (some ⟨rb, 0, none⟩), x5, x6, x7, .pointer (some ⟨pb, 0, none⟩), x9, x10, x11, x12, x13, x14, x15, x16, x17, x18, x19, x20, x21, x22, x23, x24, x25, x26, x27, x28, x29, x30, x31, x32, x33, x34, x35, x36, x37, x38, x39, x40, x41, x42, x43, x44, x45, x46, x47, x48, x49, x50, x51, x52, x53, x54, x55, x56, x57, x58, x59, x60, x61, x62, x63, x64, x65, x66, x67, x68, x69, x70, x71, x72, x73, x74, x75, x76, x77, x78, x79, x80, x81, x82, x83, x84, x85, x86, x87, x88, x89, x90, x91, x92, x93, x94, x95, x96, x97, x98, x99, x100], []⟩ (.code (.seq p36 .ret) :: k)) cs) w') :
    (envM W Y.spec Wg).Go (MI.empty Y.spec N) (G (b.at ⟨#[vo, vth, x2, x3, .pointer (some ⟨rb, 0, none⟩), x5, x6, .pointer (some ⟨Wg, 0, none⟩), .pointer (some ⟨pb, 0, none⟩), x9, x10, x11, x12, x13, x14, x15, x16, x17, x18, x19, x20, x21, x22, x23, x24, x25, x26, x27, x28, x29, x30, x31, x32, x33, x34, x35, x36, x37, x38, x39, x40, x41, x42, x43, x44, x45, x46, x47, x48, x49, x50, x51, x52, x53, x54, x55, x56, x57, x58, x59, x60, x61, x62, x63, x64, x65, x66, x67, x68, x69, x70, x71, x72, x73, x74, x75, x76, x77, x78, x79, x80, x81, x82, x83, x84, x85, x86, x87, x88, x89, x90, x91, x92, x93, x94, x95, x96, x97, x98, x99, x100], []⟩ (.code (.seq c8 (.seq c15 (.seq c20 (.seq c28 (.seq p35 (.seq p36 .ret)))))) :: k)) cs) w := by
  have O := envM_ok (W := W) (X := Y.spec) (Wg := Wg)
  have hfM : (envM W Y.spec Wg).Fr b cs := ⟨hf.kind, hf.fn, trivial⟩
  have hke : b.kind ≠ .early := by simpa using hf.kind
  refine goSeq O hfM fun Q1 hQ1 => ?_
  refine starts_c hW h rfl (by exact hn) hth hobt h16 hrun ?_
  intro A1 γ1 vs1 w1
  intros
  rename_i hL1 hlen1
  refine hQ1 _ _ _ ?_
  refine goSeq O hfM fun Q2 hQ2 => ?_
  refine order_c hW hL1 hord hobo hol hov ?_
  intro A2 γ2 vt2 w2
  intros
  rename_i hL2 hsv2
  refine hQ2 _ _ _ ?_
  refine goSeq O hfM fun Q3 hQ3 => ?_
  refine rest_c hW hL2 ?_
  intro A3 γ3 vt3 w3
  intros
  rename_i hL3 hsv3
  refine hQ3 _ _ _ ?_
  have hall' : ∀ p ∈ A3.thr, p.2 = none := fun p hp => by
    have hm : Option.map (fun x : (Y.Pc × Y.Pg) × Nat => x.1.1) p.2 ∈ (playF (ths.map (·.start)) order a.1).ps := by
      have e := hL3.ps
      rw [show (playF (ths.map (·.start)) order a.1).ps = _ from e]
      exact List.mem_map.2 ⟨p, hp, rfl⟩
    have := hall _ hm
    exact Option.map_eq_none_iff.1 this
  have hlen3 : A3.thr.length = ths.length := by
    have e1 := congrArg List.length hsv3
    have e2 := congrArg List.length hsv2
    simp only [List.length_map] at e1 e2
    omega
  have hN : A3.over.off + A3.over.thr.length = N + ths.length := by
    show A3.off + A3.thr.length = _
    rw [hL3.off, hlen3]
  have hP3 := hL3.over hall'
  refine overM hW hL3.ok hall' ?_
  refine goSeq O hfM fun Q4 hQ4 => ?_
  refine close_c hW (over_ok hL3.ok) rfl hP3 (by rw [List.length_map]; exact hL3.few) ?_
  intro w4
  intros
  rename_i hP4
  refine hQ4 _ _ _ ?_
  refine O.step1 rfl (fun _ => stepG_seq) ?_
  simp only [p35, Try.f37, Option.getD_some]
  refine O.step1 rfl (fun _ => stepG_region) ?_
  simp only [List.size_toArray, List.length_cons, List.length_nil, Nat.reduceAdd, Nat.zero_add, List.range, List.range.loop]
  refine callM (f := wgLink.wait) (fn := waitFn wgLink) (c := body_wait wgLink) rfl rfl hke rfl wgLib.f_wait (nm_wait wgLink) rfl ?_
  refine intoW hW hall' hL3.d hL3.cr (by rw [show A3.over.off + A3.over.thr.length = _ from hN]; omega) ?_
  rw [hN]
  refine wait_go' hW (by omega) (by simp [Act.eval]; rfl) hP4.wg fun w5 hR5 => ?_
  refine outW hW fun w6 hR6 => ?_
  refine envL_ok.step1 rfl (fun _ => stepG_region_end) ?_
  have hP6 := (hP4.rwg hR5).rwg hR6
  exact hk γ3 w6 vs1 vt3 _ _ _ _ _ _ _ _ _ _ _ _ _ _ _ _ _ _ _ _ _ _ _ _ _ _ _ _ _ _ _ _ _ _ _ _ _ _ _ _ _ _ _ _ _ _ _ _ _ _ _ _ _ _ _ _ _ _ _ _ _ _ _ _ _ _ _ _ _ _ _ _ _ _ _ _ _ _ _ _ _ _ _ _ _ _ _ _ _ _ _ _ _ _ _ _ _ _ _ _ hP6
abbrev tTrace : TypeId := 97
set_option maxRecDepth 100000 in
set_option maxHeartbeats 4000000 in
/-- .. its results. -/
theorem play_tail {N : Nat} {o₁ : Own} (h : PE Y Wg pb pb o₁ a svs tr vs vt svs.length w) (h1 : ∀ b ob, o₀ b = some ob → o₁ b = some ob) (h1s : o₁.os = o₀.os ∧ o₁.out = o₀.out) (hrb : o₁ rb = some (.cells #[.slice none 0 0, .slice none 0 0] tTrace (0, 0))) (hrb0 : o₀ rb = none) {x0 x1 x2 x3 x5 x6 x7 x9 x10 x11 x12 x13 x14 x15 x16 x17 x18 x19 x20 x21 x22 x23 x24 x25 x26 x27 x28 x29 x30 x31 x32 x33 x34 x35 x36 x37 x38 x39 x40 x41 x42 x43 x44 x45 x46 x47 x48 x49 x50 x51 x52 x53 x54 x55 x56 x57 x58 x59 x60 x61 x62 x63 x64 x65 x66 x67 x68 x69 x70 x71 x72 x73 x74 x75 x76 x77 x78 x79 x80 x81 x82 x83 x84 x85 x86 x87 x88 x89 x90 x91 x92 x93 x94 x95 x96 x97 x98 x99 x100 : Value} {Qc : LX → Value → World → Prop} (hq : ∀ w', Played Y Wg pb o₀ a tr vt w' → w.heap.size ≤ w'.heap.size → Qc ⟨some Wg, N⟩ (.tuple #[.agg #[vt, .slice none 0 0], .int .i64 0]) w') :
    cps (envL W) (.seq p36 .ret) (fun n' e t' w' => (e = .normal ∨ e = .ret) ∧ ∃ v, (∀ w₁, (envL W).R w' w₁ → ∃ es, (results Try.f37 t').runT (envL W).P w₁ #[] = (.ok v w₁, es) ∧ (envL W).D n' w₁ w₁ es) ∧ Qc n' v w') ⟨some Wg, N⟩ #[x0, x1, x2, x3, .pointer (some ⟨rb, 0, none⟩), x5, x6, x7, .pointer (some ⟨pb, 0, none⟩), x9, x10, x11, x12, x13, x14, x15, x16, x17, x18, x19, x20, x21, x22, x23, x24, x25, x26, x27, x28, x29, x30, x31, x32, x33, x34, x35, x36, x37, x38, x39, x40, x41, x42, x43, x44, x45, x46, x47, x48, x49, x50, x51, x52, x53, x54, x55, x56, x57, x58, x59, x60, x61, x62, x63, x64, x65, x66, x67, x68, x69, x70, x71, x72, x73, x74, x75, x76, x77, x78, x79, x80, x81, x82, x83, x84, x85, x86, x87, x88, x89, x90, x91, x92, x93, x94, x95, x96, x97, x98, x99, x100] w := by
  have O := envL_ok (W := W)
  have G := envL_good (W := W)
  obtain ⟨av, cv, hv⟩ := own_form0 h.mem.trace
  subst hv
  have hrbm : mineB o₁ pb vs (.slice av tr.length cv) rb := .inl (by rw [hrb]; simp)
  have hpW : pb ≠ Wg := h.mine pb (.inr (.inl rfl))
  have hrW : rb ≠ Wg := h.mine rb hrbm
  have hrh := h.old rb _ hrb
  have hrl : rb < w.heap.size := (Array.getElem?_eq_some_iff.1 hrh).1
  have hp1 : w.cell? ⟨pb, 1, none⟩ = some (.slice av tr.length cv) := by
    have := h.mem.row
    simp [World.cell?, this]
  have hp2 : w.cell? ⟨pb, 2, none⟩ = some (.slice none 0 0) := by
    have := h.mem.row
    simp [World.cell?, this]
  obtain ⟨w', hw'⟩ : ∃ w', w' = (w.setCell ⟨rb, 0, none⟩ (.slice av tr.length cv)).setCell ⟨rb, 1, none⟩ (.slice none 0 0) := ⟨_, rfl⟩
  have has : Aside rb w w' := by
    rw [hw']
    have h1 := aside_setCell w ⟨rb, 0, none⟩ (.slice av tr.length cv)
    have h2 := aside_setCell (w.setCell ⟨rb, 0, none⟩ (.slice av tr.length cv)) ⟨rb, 1, none⟩ (.slice none 0 0)
    exact { tape := h2.tape.trans h1.tape, os := h2.os.trans h1.os, output := h2.output.trans h1.output, size := h2.size.trans h1.size, block := fun b hb => (h2.block b hb).trans (h1.block b hb) }
  have hrc' : w'.heap[rb]? = some (.cells #[.slice av tr.length cv, .slice none 0 0] tTrace (0, 0)) := by
    rw [hw']
    simp [World.setCell, hrh, Array.getElem?_modify]
  have hnf : ∀ b, Y.foot a b → b ≠ rb := fun b hb e => (h.foot b hb).2 (e ▸ hrbm)
  have hpl : Played Y Wg pb o₀ a tr (.slice av tr.length cv) w' := by
    have hkeep : Keeps o₀ w' := fun b ob hob => by
      rw [has.block b fun e => by rw [show b = rb from e, hrb0] at hob; cases hob]
      exact h.old b ob (h1 b ob hob)
    refine ⟨?_, ?_, Y.frame a w w' (fun b hb => has.block b (hnf b hb)) h.rep, fun b hb => ⟨(h.foot b hb).1, ?_, fun e => (h.foot b hb).2 (.inr (.inr (.inr e)))⟩, hkeep, has.os.trans (h.os.trans h1s.1), has.output.trans (h.out.trans h1s.2), ownsRow_of h.mem.trace fun b e => has.block b fun e2 => ?_, fun e => h.mine Wg (.inr (.inr (.inr e))) rfl, fun b ob hob => (h.oc b ob (h1 b ob hob)).1⟩
    · obtain ⟨st, sm, hw⟩ := h.wg
      exact ⟨st, sm, by unfold WgAt; rw [has.block Wg fun e => hrW e.symm]; exact hw⟩
    · cases e : o₀ Wg with
      | none => rfl
      | some ob => exact absurd rfl (h.mine Wg (.inl (by rw [h1 Wg ob e]; simp)))
    · cases e : o₀ b with
      | none => rfl
      | some ob => exact absurd (.inl (by rw [h1 b ob e]; simp)) (h.foot b hb).2
    · have := (own_base h.mem.trace e).1
      have hlt := (h.oc rb _ hrb).1
      have e2 : b = rb := e2
      omega
  have hQ := hq w' hpl (Nat.le_of_eq has.size.symm)
  have HQ := Lib.hid hQ
  have Hw := Lib.hid hw'
  have Hsz := Lib.hid has.size
  have Hrh := Lib.hid hrh
  have Hrc := Lib.hid hrc'
  clear hq hQ hpl hw' h hrh hrc' has
  refine cps_opaque fun Q' hQ' => ?_
  simp only [p36, Try.f37, Option.getD_some]
  refine cps_seq O ?_
  (refine cps_region O ?_; simp only [List.size_toArray, List.length_cons, List.length_nil, Nat.reduceAdd, Nat.zero_add, List.range, List.range.loop])
  refine valG G (.pointer (some ⟨pb, 1, none⟩)) rfl rfl (fun _ => by simp [go_sem]) (fun _ => by go_simp; try (first | rfl | (simp [*]))) ?_; try walk_nrm
  refine read2G G (a1 := ⟨pb, 1, none⟩) (a2 := ⟨pb, 2, none⟩) (v := .agg #[.slice av tr.length cv, .slice none 0 0]) (fun e => hpW (Option.some.inj e).symm) (fun e => hpW (Option.some.inj e).symm) hp1 hp2 rfl rfl (fun w₁ hc1 hc2 => by simp [go_sem, hc1, hc2]) (fun w₁ hc1 hc2 => by simp [go_sem, hc1, hc2]) ?_
  try walk_nrm
  refine storeL (f := fun w => (w.setCell ⟨rb, 0, none⟩ (.slice av tr.length cv)).setCell ⟨rb, 1, none⟩ (.slice none 0 0)) (es := #[⟨.cell ⟨rb, 0, none⟩, true, false⟩, ⟨.cell ⟨rb, 1, none⟩, true, false⟩]) (fun d => rfl) (by rw [← Hw.out]; exact Hsz.out) (fun e he => ?_) rfl rfl (fun d => ?_) ?_
  · simp only [List.mem_toArray, List.mem_cons, List.not_mem_nil, or_false] at he
    rcases he with rfl | rfl
    · exact ⟨_, _, rfl, fun e => hrW (Option.some.inj e).symm, hrl⟩
    · exact ⟨_, _, rfl, fun e => hrW (Option.some.inj e).symm, hrl⟩
  · obtain ⟨wd, hwd⟩ : ∃ wd, wd = w.at d := ⟨_, rfl⟩
    have hwh : wd.heap[rb]? = some (.cells #[.slice none 0 0, .slice none 0 0] tTrace (0, 0)) := by rw [hwd]; exact Hrh.out
    have hw1 : (wd.setCell ⟨rb, 0, none⟩ (.slice av tr.length cv)).heap[rb]? = some (.cells #[.slice av tr.length cv, .slice none 0 0] tTrace (0, 0)) := by simp [World.setCell, hwh, Array.getElem?_modify]
    have hc : wd.cell? ⟨rb, 0, none⟩ = some (.slice none 0 0) := by simp [World.cell?, hwh]
    have hz : wd.frozen? ⟨rb, 0, none⟩ = false := by simp [World.frozen?, hwh]
    have hc1 : (wd.setCell ⟨rb, 0, none⟩ (.slice av tr.length cv)).cell? ⟨rb, 1, none⟩ = some (.slice none 0 0) := by simp only [World.cell?, hw1]; rfl
    have hz1 : (wd.setCell ⟨rb, 0, none⟩ (.slice av tr.length cv)).frozen? ⟨rb, 1, none⟩ = false := by simp only [World.frozen?, hw1]; rfl
    rw [← hwd]
    rw [Sem.runT_eq]
    refine Prod.ext ?_ ?_
    · simp [go_sem, stored, hc, hz, hc1, hz1]
    · simp [go_sem, stored, fun w es a => events_store Try.prog w es a (.slice av tr.length cv) .plain rfl, fun w es a => events_store Try.prog w es a (.slice none 0 0) .plain rfl, storedEv, hc, hz, hc1, hz1]
  show cpsR _ _ _ _ _ _ ((w.setCell ⟨rb, 0, none⟩ (.slice av tr.length cv)).setCell ⟨rb, 1, none⟩ (.slice none 0 0))
  rw [← Hw.out]
  try walk_nrm
  refine valG G (.int .i64 0) rfl rfl (fun _ => by simp [go_sem]) (fun _ => by go_simp; try (first | rfl | (simp [*]))) ?_; try walk_nrm
  refine cpsR_nil O ?_
  refine cps_ret O (hQ' _ _ _ _ ⟨.inr rfl, .tuple #[.agg #[.slice av tr.length cv, .slice none 0 0], .int .i64 0], fun w₁ hR => ⟨#[⟨.cell ⟨rb, 0, none⟩, false, false⟩, ⟨.cell ⟨rb, 1, none⟩, false, false⟩], ?_, ?_⟩, HQ.out⟩)
  · obtain ⟨d, rfl⟩ : AtRel w' w₁ := hR
    obtain ⟨wd, hwd⟩ : ∃ wd, wd = w'.at d := ⟨_, rfl⟩
    have hwh : wd.heap[rb]? = some (.cells #[.slice av tr.length cv, .slice none 0 0] tTrace (0, 0)) := by rw [hwd]; exact Hrc.out
    have hc : wd.cell? ⟨rb, 0, none⟩ = some (.slice av tr.length cv) := by simp [World.cell?, hwh]
    have hc1 : wd.cell? ⟨rb, 1, none⟩ = some (.slice none 0 0) := by simp [World.cell?, hwh]
    rw [← hwd]
    show (results Try.f37 _).runT Try.prog _ #[] = _
    rw [Sem.runT_eq]
    refine Prod.ext ?_ ?_
    · rw [results_cell_tmp (p := 4) (u := 5) (ty := tTrace) rfl]
      simp [go_sem, hc, hc1]
    · simp [go_sem, results, hc, hc1]
  · obtain ⟨d, rfl⟩ : AtRel w' w₁ := hR
    refine G.reads _ _ _ fun e he => ?_
    simp only [List.mem_toArray, List.mem_cons, List.not_mem_nil, or_false] at he
    rcases he with rfl | rfl
    · exact ⟨⟨rb, 0, none⟩, rfl, fun e => hrW (Option.some.inj e).symm, (Array.getElem?_eq_some_iff.1 Hrc.out).1⟩
    · exact ⟨⟨rb, 1, none⟩, rfl, fun e => hrW (Option.some.inj e).symm, (Array.getElem?_eq_some_iff.1 Hrc.out).1⟩
end
end Go.Proofs.Ytdedmmjmiakidaa
/- Plain words: a play, whole. No condition. -/
namespace Go.Proofs.Ytdedmmjmiakidaa
open Go.Conc Go.RowKit
open Go.ConcR (KK wgBlock WgAt stA smA rd wr mk)
section
variable {Y : Core} {W : Machine → Trace → Prop}
set_option maxRecDepth 100000 in
set_option maxHeartbeats 4000000 in
/-- ████ A PLAY. ████ -/
theorem play_c (hW : Back Try.prog W) {x : LX} (hx : x.wg = none) (hn0 : 0 < x.n) (hn : x.n < 60000) {vo vth : Value} {order : List Int} {ths : List (Thr Y)} {a : Y.Full} {w : World} {o₀ : Own}
    (hos : w.os = o₀.os ∧ w.output = o₀.out) (ho : ∀ b ob, o₀ b = some ob → w.heap[b]? = some ob ∧ (b < Y.base ∨ ∀ cap buf cl x r t, ob ≠ .chan cap buf cl x r t)) (hbase : Y.base ≤ w.heap.size)
    (hord : ∀ w, Keeps o₀ w → w.ownsRow 0 3 1 vo order.length (order.map (Value.int .i64))) (hobo : ∀ b, vo.ownBlock = some b → o₀ b ≠ none) (hol : order.length ≤ 16384) (hov : ∀ k ∈ order, k < 9223372036854775808)
    (hth : ∀ w, Keeps o₀ w → w.ownsRow 0 tFn 1 vth ths.length (ths.map Thr.val)) (hobt : ∀ b, vth.ownBlock = some b → o₀ b ≠ none) (h0 : ths.length ≠ 0) (h16 : ths.length ≤ 16) (hrun : ∀ i d, ths[i]? = some d → ThrC Y i (a.2 i) d.f d.caps d.start)
    (hrep : Y.Rep a w) (hfoot : ∀ b, Y.foot a b → o₀ b = none) (hall : ∀ p ∈ (playF (ths.map (·.start)) order a.1).ps, p = none) {Qc : LX → Value → World → Prop}
    (hq : ∀ γ' Wg B0 vt w', w.heap.size ≤ Wg → w.heap.size ≤ B0 → w.heap.size ≤ w'.heap.size → Played Y Wg B0 o₀ ((playF (ths.map (·.start)) order a.1).a, γ') (playF (ths.map (·.start)) order a.1).tr vt w' → Qc ⟨some Wg, x.n + ths.length⟩ (.tuple #[.agg #[vt, .slice none 0 0], .int .i64 0]) w') :
    cpsC (envL W) 37 #[vo, vth] Qc x w := by
  have O := envL_ok (W := W)
  have G := envL_good (W := W)
  have hkw : Keeps o₀ w := fun b ob hob => (ho b ob hob).1
  obtain ⟨ao, co, hvo⟩ := own_form0 (hord w hkw)
  have hfl : ∀ b, Y.foot a b → b < w.heap.size := fun b hb => by
    obtain ⟨ob, h, _⟩ := Y.real a w b hrep hb
    exact (Array.getElem?_eq_some_iff.1 h).1
  have hol' : ∀ b ob, o₀ b = some ob → b < w.heap.size := fun b ob hob => (Array.getElem?_eq_some_iff.1 (ho b ob hob).1).1
  -- the worlds
  obtain ⟨r1, r2, r3⟩ := alloc_at w (.cells #[.slice none 0 0, .slice none 0 0] tTrace (0, 0))
  obtain ⟨w1, hw1⟩ : ∃ w1, w1 = w.alloc (.cells #[.slice none 0 0, .slice none 0 0] tTrace (0, 0)) := ⟨_, rfl⟩
  rw [← hw1] at r1 r2 r3
  obtain ⟨g1, g2, g3⟩ := alloc_at w1 (wgBlock tWg 0 0)
  obtain ⟨w2, hw2⟩ : ∃ w2, w2 = w1.alloc (wgBlock tWg 0 0) := ⟨_, rfl⟩
  rw [← hw2] at g1 g2 g3
  obtain ⟨b1, b2, b3⟩ := alloc_at w2 (.cells #[.slice none 0 0, .slice none 0 0, .slice none 0 0] tPlay (0, 0))
  obtain ⟨w3, hw3⟩ : ∃ w3, w3 = w2.alloc (.cells #[.slice none 0 0, .slice none 0 0, .slice none 0 0] tPlay (0, 0)) := ⟨_, rfl⟩
  rw [← hw3] at b1 b2 b3
  have hsame : ∀ b, b < w.heap.size → w3.heap[b]? = w.heap[b]? := fun b hb => by rw [b1 b (by omega), g1 b (by omega), r1 b hb]
  have hk1 : Keeps o₀ w1 := fun b ob hob => by rw [r1 b (hol' b ob hob)]; exact hkw b ob hob
  have hrw : w3.heap[w.heap.size]? = some (.cells #[.slice none 0 0, .slice none 0 0] tTrace (0, 0)) := by rw [b1 _ (by omega), g1 _ (by omega)]; exact r3
  have hgw : w3.heap[w1.heap.size]? = some (wgBlock tWg 0 0) := by rw [b1 _ (by omega)]; exact g3
  obtain ⟨o₁, ho₁⟩ : ∃ o₁ : Own, o₁ = ⟨fun b => if b = w.heap.size then some (.cells #[.slice none 0 0, .slice none 0 0] tTrace (0, 0)) else o₀ b, o₀.os, o₀.out⟩ := ⟨_, rfl⟩
  have h1s : o₁.os = o₀.os ∧ o₁.out = o₀.out := by rw [ho₁]; exact ⟨rfl, rfl⟩
  have h01 : ∀ b ob, o₀ b = some ob → o₁ b = some ob := fun b ob hob => by
    have := hol' b ob hob
    rw [ho₁]
    show (if b = w.heap.size then _ else _) = _
    rw [if_neg (by omega)]; exact hob
  have h1r : o₁ w.heap.size = some (.cells #[.slice none 0 0, .slice none 0 0] tTrace (0, 0)) := by rw [ho₁]; exact if_pos rfl
  have h0r : o₀ w.heap.size = none := by
    cases e : o₀ w.heap.size with
    | none => rfl
    | some ob => have := hol' _ ob e; omega
  have hk01 : ∀ v, Keeps o₁ v → Keeps o₀ v := fun v hv b ob hob => hv b ob (h01 b ob hob)
  have hne : ∀ b, o₀ b ≠ none → o₁ b ≠ none := fun b hb => by
    obtain ⟨ob, hob⟩ := Option.ne_none_iff_exists'.1 hb
    rw [h01 b ob hob]; simp
  have hLP : LP w1.heap.size w2.heap.size w2.heap.size x.n o₁ (MI.empty Y.spec x.n) ⟨a.1, [], []⟩ a.2 (.slice none 0 0) (.slice none 0 0) w3 := by
    refine LP.begin hn0 ⟨0, 0, hgw⟩ b3 (by omega) (fun b ob hob => ?_) (by omega) ⟨by rw [h1s.1, ← hos.1, hw3, hw2, hw1]; rfl, by rw [h1s.2, ← hos.2, hw3, hw2, hw1]; rfl⟩ (Y.frame a w w3 (fun b hb => hsame b (hfl b hb)) hrep) fun b hb => ?_
    · by_cases e : b = w.heap.size
      · subst e
        rw [h1r] at hob
        obtain rfl := Option.some.inj hob
        exact ⟨hrw, by omega, by omega, .inr fun _ _ _ _ _ _ e => by cases e⟩
      · have hob' : o₀ b = some ob := by
          rw [ho₁] at hob
          have hob : (if b = w.heap.size then _ else o₀ b) = some ob := hob
          rw [if_neg e] at hob; exact hob
        have hl := hol' b ob hob'
        exact ⟨by rw [hsame b hl]; exact (ho b ob hob').1, by omega, by omega, (ho b ob hob').2⟩
    · have hl := hfl b hb
      refine ⟨?_, by omega, by omega⟩
      rw [ho₁]
      show (if b = w.heap.size then _ else _) = _
      rw [if_neg (by omega)]; exact hfoot b hb
  have hfn : FnRow (LX.bad x) vth (ths.map Thr.val) w1 := by
    refine ⟨?_, fun b _ hb => ?_, fun v hv => ?_⟩
    · rw [List.length_map]; exact hth w1 hk1
    · unfold LX.bad at hb; rw [hx] at hb; cases hb
    · obtain ⟨d, _, rfl⟩ := List.mem_map.1 hv
      exact ⟨d.f, d.caps, rfl⟩
  have HO := Lib.hid (And.intro (fun v hv => hord v (hk01 v hv)) (And.intro (fun b hb => hne b (hobo b hb)) hov) : (∀ v, Keeps o₁ v → v.ownsRow 0 3 1 vo order.length (order.map (Value.int .i64))) ∧ (∀ b, vo.ownBlock = some b → o₁ b ≠ none) ∧ _)
  have HT := Lib.hid (And.intro (fun v hv => hth v (hk01 v hv)) (And.intro (fun b hb => hne b (hobt b hb)) (And.intro hrun hall)) : (∀ v, Keeps o₁ v → v.ownsRow 0 tFn 1 vth ths.length (ths.map Thr.val)) ∧ (∀ b, vth.ownBlock = some b → o₁ b ≠ none) ∧ _)
  have Hq := Lib.hid hq
  have q1 : decide (16384 < order.length) = false := decide_eq_false (by omega)
  have q2 : decide ((16384 : Int) < order.length) = false := decide_eq_false (by omega)
  have hlen : (ths.map Thr.val).length = ths.length := List.length_map ..
  have Hlp := Lib.hid hLP
  have Hw1 := Lib.hid hw1
  have Hw2 := Lib.hid hw2
  have Hw3 := Lib.hid hw3
  have Hfn := Lib.hid hfn
  have Hlen := Lib.hid hlen
  have H01 := Lib.hid h01
  have H1r := Lib.hid h1r
  have H1s' := Lib.hid h1s
  have H0r := Lib.hid h0r
  have H3s : Hid (w.heap.size ≤ w3.heap.size) := Lib.hid (by omega)
  have H1s : Hid (w.heap.size ≤ w1.heap.size ∧ w.heap.size ≤ w2.heap.size) := Lib.hid (by omega)
  have H3 := Lib.hid (show ∃ st sm, WgAt tWg w1.heap.size w2 st sm from ⟨0, 0, g3⟩)
  clear hq hLP hw1 hw2 hw3 hfn hlen h01 h1r h0r r1 r2 r3 g1 g2 g3 b1 b2 b3 hsame hk1 hrw hgw ho₁ hk01 hne hfl hol' hkw hall hrep hfoot hth hobt hord hobo hov ho hrun
  subst hvo
  refine cpsC_body O Try.func37 body_play ?_
  simp only [Try.ntmps37]
  walk_nrm
  refine cps_seq O ?_
  refine cps_opaque fun Q1 hQ1 => ?_
  simp only [p0, Try.f37, Option.getD_some]
  (refine cps_region O ?_; simp only [List.size_toArray, List.length_cons, List.length_nil, Nat.reduceAdd, Nat.zero_add, List.range, List.range.loop])
  refine allocL (v := .pointer (some ⟨w.heap.size, 0, none⟩)) (ob := .cells #[.slice none 0 0, .slice none 0 0] tTrace (0, 0)) rfl rfl (fun _ => by simp [go_sem]) (fun w₁ hs => by go_simp; try (simp [hs])) ?_
  rw [← Hw1.out]
  try walk_nrm
  refine valG G (.int .i64 0) rfl rfl (fun _ => by simp [go_sem]) (fun _ => by go_simp; try (first | rfl | (simp [*]))) ?_; try walk_nrm
  refine cpsR_nil O ?_
  refine hQ1 _ _ _ _ ?_
  clear hQ1
  show cps _ _ _ _ _ _
  refine cps_seq O ?_
  refine cps_opaque fun Q1 hQ1 => ?_
  simp only [p1, Try.f37, Option.getD_some]
  refine cps_seq O ?_
  (refine cps_region O ?_; simp only [List.size_toArray, List.length_cons, List.length_nil, Nat.reduceAdd, Nat.zero_add, List.range, List.range.loop])
  refine valG G (vth) rfl rfl (fun _ => by simp [go_sem]) (fun _ => by go_simp; try (first | rfl | (simp [*]))) ?_; try walk_nrm
  refine callS G (f := 52) (vals := #[vth]) rfl rfl rfl Try.func52 rfl rfl rfl (wrong_c G Hfn.out (by rw [Hlen.out]; exact h16) (by rw [Hlen.out]; exact h0) ?_)
  try walk_nrm
  refine valG G (.int .i64 0) rfl rfl (fun _ => by simp [go_sem]) (fun _ => by go_simp; try (first | rfl | (simp [*]))) ?_; try walk_nrm
  refine cpsR_nil O ?_
  show cps _ _ _ _ _ _
  refine cps_seq O ?_
  (refine cps_region O ?_; simp only [List.size_toArray, List.length_cons, List.length_nil, Nat.reduceAdd, Nat.zero_add, List.range, List.range.loop])
  refine valG G (.int .i64 0) rfl rfl (fun _ => by simp [go_sem]) (fun _ => by go_simp; try (first | rfl | (simp [*]))) ?_; try walk_nrm
  refine valG G (.bool false) rfl rfl (fun _ => by simp [go_sem]) (fun _ => by go_simp; try (first | rfl | (simp [*]))) ?_; try walk_nrm
  refine cpsR_nil O ?_
  show cps _ _ _ _ _ _
  refine cps_cond O (v := false) rfl ?_
  simp only [Bool.false_eq_true, if_false]
  refine cps_skip O ?_
  refine hQ1 _ _ _ _ ?_
  clear hQ1
  show cps _ _ _ _ _ _
  refine cps_seq O ?_
  refine cps_opaque fun Q1 hQ1 => ?_
  simp only [p2, Try.f37, Option.getD_some]
  refine cps_seq O ?_
  (refine cps_region O ?_; simp only [List.size_toArray, List.length_cons, List.length_nil, Nat.reduceAdd, Nat.zero_add, List.range, List.range.loop])
  refine valG G (.slice ao order.length co) rfl rfl (fun _ => by simp [go_sem]) (fun _ => by go_simp; try (first | rfl | (simp [*]))) ?_; try walk_nrm
  refine valG G (.int .i64 order.length) rfl rfl (fun _ => by simp [go_sem]) (fun _ => by go_simp; try (first | rfl | (simp [*]))) ?_; try walk_nrm
  refine valG G (.bool false) rfl rfl (fun _ => by simp [go_sem]) (fun _ => by go_simp; try (first | rfl | (simp [*]))) ?_; try walk_nrm
  refine cpsR_nil O ?_
  show cps _ _ _ _ _ _
  refine cps_cond O (v := false) rfl ?_
  simp only [Bool.false_eq_true, if_false]
  refine cps_skip O ?_
  refine hQ1 _ _ _ _ ?_
  clear hQ1
  show cps _ _ _ _ _ _
  intro b k cs hf hk
  have hke : b.kind ≠ .early := by simpa using hf.kind
  refine O.step1 rfl (fun _ => stepG_seq) ?_
  simp only [p6, Try.f37, Option.getD_some]
  refine O.step1 rfl (fun _ => stepG_region) ?_
  simp only [List.size_toArray, List.length_cons, List.length_nil, Nat.reduceAdd, Nat.zero_add, List.range, List.range.loop]
  refine intoM hW hx hn0 (X := Y.spec) (v := .pointer (some ⟨w1.heap.size, 0, none⟩)) (ob := wgBlock tWg 0 0) rfl rfl hke (fun _ => by simp [go_sem]) (fun w₁ hs => by unfold wgBlock; go_simp; try (simp [hs])) (fun w₁ hs => by unfold WgAt; rw [← hs]; exact (alloc_at w₁ _).2.2) ?_
  rw [← Hw2.out]
  try walk_nrm
  have OM := envM_ok (W := W) (X := Y.spec) (Wg := w1.heap.size)
  have hfM : (envM W Y.spec w1.heap.size).Fr b cs := ⟨hf.kind, hf.fn, trivial⟩
  refine OM.step1 rfl (fun _ => stepG_region_end) ?_
  refine goSeq OM hfM fun Q1 hQ1 => ?_
  simp only [p7, Try.f37, Option.getD_some]
  refine cps_region OM ?_
  simp only [List.size_toArray, List.length_cons, List.length_nil, Nat.reduceAdd, Nat.zero_add, List.range, List.range.loop]
  refine allocR (ob := .cells #[.slice none 0 0, .slice none 0 0, .slice none 0 0] tPlay (0, 0)) Hlp.out.ok ⟨fun s hs => absurd hs (no_seat s), H3.out, fun c ⟨s, hs, _⟩ => absurd hs (no_seat s), fun s x y z hm => (by cases hm)⟩ (.pointer (some ⟨w2.heap.size, 0, none⟩)) rfl rfl (fun _ => by simp [go_sem]) (fun w₁ hs => by go_simp; try (simp [hs])) ?_
  rw [← Hw3.out]
  try walk_nrm
  refine cpsR_nil OM ?_
  refine hQ1 _ _ _ ?_
  clear hQ1
  refine play_mid hW Hlp.out hn HO.out.1 HO.out.2.1 (by omega) HO.out.2.2 HT.out.1 HT.out.2.1 h16 HT.out.2.2.1 HT.out.2.2.2 hf ?_
  intro γ' w' vs vt svs
  intros
  rename_i hPE
  refine play_tail hPE H01.out H1s'.out H1r.out H0r.out (fun w'' hpl hs => ?_) b k cs hf fun n' _ => hk n' trivial
  refine Hq.out _ _ _ _ _ H1s.out.1 H1s.out.2 ?_ hpl
  exact Nat.le_trans (Nat.le_of_lt (Array.getElem?_eq_some_iff.1 (hPE.old _ _ H1r.out)).1) hs
end
end Go.Proofs.Ytdedmmjmiakidaa
/- Plain words: a call that stops at a gate, told apart from memory; the companies in which it may be made. No condition. -/
namespace Go.Proofs.Ytdedmmjmiakidaa
open Go.Conc Go.RowKit
/-- A library's calls: where they may wait at the gate, what they say there, what comes of a turn: the next such place, or an answer. -/
structure Job where
  St : Type
  Pos : Type
  Res : Type
  mark : Pos → Int × Int
  exec : Pos → St → St × (Pos ⊕ Res)
  foot : St → Nat → Prop
  Rep : St → World → Prop
  frame : ∀ a u u', (∀ b, foot a b → u'.heap[b]? = u.heap[b]?) → Rep a u → Rep a u'
  real : ∀ a u b, Rep a u → foot a b → ∃ o, u.heap[b]? = some o ∧ (∀ cap buf cl x r t, o ≠ .chan cap buf cl x r t) ∧ ∀ T, o ≠ .cells #[] T (0, 0)
/-- Threads that make such calls: what they keep beside, and what they do behind an answer; each one's own memory is where it got it (Pg). -/
structure Client (J : Job) where
  B : Type
  C : Type
  Pg : Type
  base : Nat
  tid : C → Nat
  fin : C → J.Res → J.St × B → (J.St × B) × Option (J.Pos × C)
  tids : ∀ c r σ p, (fin c r σ).2 = some p → tid p.2 = tid c
  footB : B × (Nat → Pg) → Nat → Prop
  RepB : B × (Nat → Pg) → World → Prop
  frameB : ∀ a u u', (∀ b, footB a b → u'.heap[b]? = u.heap[b]?) → RepB a u → RepB a u'
  realB : ∀ a u b, RepB a u → footB a b → ∃ o, u.heap[b]? = some o ∧ (∀ cap buf cl x r t, o ≠ .chan cap buf cl x r t) ∧ ∀ T, o ≠ .cells #[] T (0, 0)
variable {J : Job}
def Client.after (K : Client J) (c : K.C) (d : J.St × (J.Pos ⊕ J.Res)) (b : K.B) : (J.St × K.B) × Option (J.Pos × K.C) := match d with
  | (a, .inl p) => ((a, b), some (p, c))
  | (a, .inr r) => K.fin c r (a, b)
theorem Client.after_tid (K : Client J) (c : K.C) (d : J.St × (J.Pos ⊕ J.Res)) (b : K.B) (p : J.Pos × K.C) (h : (K.after c d b).2 = some p) : K.tid p.2 = K.tid c := by
  obtain ⟨a, x | x⟩ := d
  · obtain rfl := Option.some.inj h; rfl
  · exact K.tids _ _ _ _ h
/-- .. as a play's threads. -/
def Client.core (K : Client J) : Core where
  St := J.St × K.B
  Pc := J.Pos × K.C
  Pg := K.Pg
  mark := fun p => J.mark p.1
  next := fun p σ => K.after p.2 (J.exec p.1 σ.1) σ.2
  tid := fun p => K.tid p.2
  tids := fun p σ p' h => K.after_tid _ _ _ _ h
  base := K.base
  foot := fun σ b => J.foot σ.1.1 b ∨ K.footB (σ.1.2, σ.2) b
  Rep := fun σ u => J.Rep σ.1.1 u ∧ K.RepB (σ.1.2, σ.2) u ∧ ∀ b, J.foot σ.1.1 b → ¬ K.footB (σ.1.2, σ.2) b
  frame := fun σ u u' h hr => ⟨J.frame _ u u' (fun b hb => h b (.inl hb)) hr.1, K.frameB _ u u' (fun b hb => h b (.inr hb)) hr.2.1, hr.2.2⟩
  real := fun σ u b hr hb => hb.elim (J.real _ u b hr.1) (K.realB _ u b hr.2.1)
/-- A company in which such a call may be made: the gate that it is handed; how one stands: turns left, the state in memory, what is due. -/
structure Gated (J : Job) where
  E : Env
  ok : E.Ok
  P : E.P = Try.prog
  gate : Value
  At : E.ι → Nat → J.St → J.St × (J.Pos ⊕ J.Res) → World → Prop
  rely : ∀ n k a d w w', At n k a d w → E.R w w' → At n k a d w'
  rep : ∀ n k a d w, At n k a d w → ∃ u, J.Rep a u
  alone : ∀ {n : E.ι} {k : Nat} {a : J.St} {d : J.St × (J.Pos ⊕ J.Res)} {w : World} {c : Code} {t : Array Value} {Q : E.ι → Exit → Array Value → World → Prop}, At n k a d w → okCode thrOk false c = true →
    (∀ u, J.Rep a u → c.wp Try.prog (fun e a' u' => e = .normal ∧ a'.defers = [] ∧ ∃ σ', J.Rep σ' u' ∧ (∀ b, J.foot σ' b ↔ J.foot a b) ∧ Sm (J.foot a) u u' ∧ ∀ w', At n k σ' d w' → Q n .normal a'.tmps w') ⟨t, []⟩ u) → cps E c Q n t w
  step : ∀ {n : E.ι} {k : Nat} {a : J.St} {p : J.Pos} {w : World}, At n k a (a, .inl p) w → cpsC E 46 #[gate, .int .u8 (J.mark p).1, .int .i64 (J.mark p).2] (fun n' v w' => v = .tuple #[] ∧ ∃ k' a', k' < k ∧ At n' k' a' (J.exec p a') w') n w
section
variable {K : Client J} {Wg : Nat} {s : SV}
abbrev Client.Ix (K : Client J) := Nat × K.core.spec.Due × Tab
/-- How a thread stands; its own memory. -/
def AtT (K : Client J) (Wg : Nat) (s : SV) (c : K.C) (pg : K.Pg) (n : K.Ix) (k : Nat) (a : J.St) (d : J.St × (J.Pos ⊕ J.Res)) (w : World) : Prop :=
  n.1 = k ∧ s ∈ n.2.2 ∧ Off Wg n.2.2 ∧ ShOk (WgL Wg) Wg n.2.2 ∧ Wd Wg n.2.2 w ∧ ∃ (b : K.B) (γ : Nat → K.Pg) (o : Own), RepT K.core.spec Wg n.2.2 (((a, b), γ), o) w ∧ γ (K.tid c) = pg ∧ ∀ z, K.core.Leads (K.tid c) γ o (K.after c d b) z → n.2.1 z
theorem atT_alone {c : K.C} {pg : K.Pg} {n : K.Ix} {k : Nat} {a : J.St} {d : J.St × (J.Pos ⊕ J.Res)} {w : World} {x : Code} {t : Array Value} {Q : K.Ix → Exit → Array Value → World → Prop} (h : AtT K Wg s c pg n k a d w) (hc : okCode thrOk false x = true)
    (hwp : ∀ u, J.Rep a u → x.wp Try.prog (fun e a' u' => e = .normal ∧ a'.defers = [] ∧ ∃ σ', J.Rep σ' u' ∧ (∀ b, J.foot σ' b ↔ J.foot a b) ∧ Sm (J.foot a) u u' ∧ ∀ w', AtT K Wg s c pg n k σ' d w' → Q n .normal a'.tmps w') ⟨t, []⟩ u) : cps (envT K.core.spec Wg (WgL Wg) s) x Q n t w := by
  obtain ⟨n1, E, θ⟩ := n
  obtain ⟨h1, h2, h3, h4, h5, b, γ, o, h6, hpg, h7⟩ := h
  refine aloneT h3 h4 h5 hc fun u hu => ?_
  obtain ⟨hY, ho⟩ := h6 u hu
  have hY : J.Rep a u ∧ K.RepB (b, γ) u ∧ ∀ x, J.foot a x → ¬ K.footB (b, γ) x := hY
  refine wp_mono (hwp u hY.1) fun e a' u' q => ⟨q.1, q.2.1, fun w' hps hwd _ => ?_⟩
  obtain ⟨_, _, σ', hr, hf, hs, hq⟩ := q
  refine hq w' ⟨h1, h2, h3, h4, hwd, b, γ, o, RepT.intro hps ⟨⟨hr, K.frameB (b, γ) u u' (fun x hx => ?_) hY.2.1, fun x hx => hY.2.2 x ((hf x).1 hx)⟩, fun x ob hob => ?_, hs.os.trans ho.os, hs.output.trans ho.out⟩, hpg, h7⟩
  · obtain ⟨ob, h, _⟩ := K.realB (b, γ) u x hY.2.1 hx
    exact hs.block x (Array.getElem?_eq_some_iff.1 h).1 fun hj => hY.2.2 x hj hx
  · obtain ⟨q1, q2, q3⟩ := ho.on x ob hob
    have q2 : ¬ (J.foot a x ∨ K.footB (b, γ) x) := q2
    refine ⟨?_, fun hx => q2 (hx.imp (hf x).1 id), q3⟩
    rw [hs.block x (Array.getElem?_eq_some_iff.1 q1).1 fun hj => q2 (.inl hj)]
    exact q1
theorem atT_step {c : K.C} {pg : K.Pg} {n : K.Ix} {k : Nat} {a : J.St} {p : J.Pos} {w : World} (h : AtT K Wg s c pg n k a (a, .inl p) w) :
    cpsC (envT K.core.spec Wg (WgL Wg) s) 46 #[seatGate s, .int .u8 (J.mark p).1, .int .i64 (J.mark p).2] (fun n' v w' => v = .tuple #[] ∧ ∃ k' a', k' < k ∧ AtT K Wg s c pg n' k' a' (J.exec p a') w') n w := by
  obtain ⟨n1, E, θ⟩ := n
  obtain ⟨h1, h2, h3, h4, h5, b, γ, o, h6, hpg, h7⟩ := h
  have hE : E ((((a, b), γ), o), some ((p, c), pg)) := h7 _ ⟨⟨rfl, fun _ _ => rfl, by rw [← hpg]; rfl⟩, rfl⟩
  have := gate_seat (X := K.core.spec) (n := n1) (E := E) (σ₀ := (((a, b), γ), o)) (pc := ((p, c), pg)) h2 h3 h4 (m := J.mark p) hE rfl h5 h6
  refine fun fr cs hcs hk => this fr cs hcs fun n' hn v w' q => hk n' hn v w' ?_
  obtain ⟨rfl, n2, σ, θ', hnn, rfl, q1, q2, q3, q4, q5, q6⟩ := q
  obtain ⟨⟨⟨a', b'⟩, γ'⟩, o'⟩ := σ
  refine ⟨rfl, n2, a', ?_, rfl, q1, q2, q3, q4, b', γ', o', q5, q6, fun z hz => hz⟩
  rw [← h1]; show n2 < n1; omega
/-- A thread with its seat for a gate. -/
noncomputable def gatedT (K : Client J) (Wg : Nat) (s : SV) (c : K.C) (pg : K.Pg) : Gated J where
  E := envT K.core.spec Wg (WgL Wg) s
  ok := envT_ok _ _ _ _
  P := rfl
  gate := seatGate s
  At := AtT K Wg s c pg
  rely := fun n k a d w w' h hR => by
    obtain ⟨h1, h2, h3, h4, h5, b, γ, o, h6, hpg, h7⟩ := h
    exact ⟨h1, h2, h3, h4, h5.rwg h3 hR, b, γ, o, h6.rwg h3 h5 hR, hpg, h7⟩
  rep := fun n k a d w h => by
    obtain ⟨h1, h2, h3, h4, h5, b, γ, o, h6, h7⟩ := h
    have hu := spoil_ps (P := Try.prog) no_steps (real_of h3 h5.kt h5.wg)
    exact ⟨_, (h6 _ hu).1.1⟩
  alone := atT_alone
  step := atT_step
end
end Go.Proofs.Ytdedmmjmiakidaa
/- Plain words: the program's functions that goroutine 0 calls beside a play. No condition. -/
namespace Go.Proofs.Ytdedmmjmiakidaa
open Go.Conc
/-- The slots that hold quiet gates. -/
noncomputable def mainQ : List (Nat × List Nat) := [(46, [0, 6, 8]), (19, [1, 25]), (20, [1, 13]), (21, [1, 24]), (17, [1, 20, 29, 37, 47]), (18, [1, 26]), (14, [46])]
/-- The functions that goroutine 0 calls beside a play. -/
noncomputable def mainS : Names := ⟨fun f => [50, 48, 47, 49, 45, 26, 63, 64, 22, 16, 23, 24, 51, 44, 41, 25, 58, 15, 30, 31, 118, 46, 19, 20, 21, 17, 18, 14, 29, 28, 71, 70, 72].contains f, fun f => (mainQ.lookup f).getD [], 61, true⟩
noncomputable abbrev mainOk : Op → Bool := okOp Try.prog mainS true
theorem depth_pos (n : Nat) : ∃ k, n + Made.depth = k + 1 := ⟨n + (Made.depth - 1), by unfold Made.depth; omega⟩
theorem method_notes (k : Nat) (x : Value) (w : World) : Sem.run Try.prog (Go.method (k + 1) 61 x "Step") w = .ok (118, x) w := by kernel_rfl
theorem method_notes_ev (k : Nat) (x : Value) (w : World) : Sem.events Try.prog (Go.method (k + 1) 61 x "Step") w #[] = #[] := by kernel_rfl
theorem call_notes (args : Array Value) (w : World) : Sem.run Try.prog (callFunc 118 args) w = .ok (.enter 118 args) w := by
  unfold callFunc
  have hf := Try.func118
  show Sem.run Try.prog _ w = _
  simp only [program, bind, Sem.bind, Sem.run, hf]
  rfl
theorem call_notes_ev (args : Array Value) (w : World) (es : Array Event) : Sem.events Try.prog (callFunc 118 args) w es = es := by
  unfold callFunc
  have hf := Try.func118
  simp only [program, bind, Sem.bind, Sem.events, Sem.runT, hf]
  rfl
set_option maxRecDepth 100000 in
theorem main_calls (σ : Poison) (f : FuncId) (hf : mainS f = true) : MayCall Try.prog σ mainS f := by
  simp only [mainS, List.contains_iff_mem, List.mem_cons, List.not_mem_nil, or_false] at hf
  rcases hf with rfl | rfl | rfl | rfl | rfl | rfl | rfl | rfl | rfl | rfl | rfl | rfl | rfl | rfl | rfl | rfl | rfl | rfl | rfl | rfl | rfl | rfl | rfl | rfl | rfl | rfl | rfl | rfl | rfl | rfl | rfl | rfl | rfl
  · exact mayCall_body Try.func50 (by kernel_rfl) (by kernel_rfl) (by kernel_rfl)
  · exact mayCall_body Try.func48 (by kernel_rfl) (by kernel_rfl) (by kernel_rfl)
  · exact mayCall_body Try.func47 (by kernel_rfl) (by kernel_rfl) (by kernel_rfl)
  · exact mayCall_body Try.func49 (by kernel_rfl) (by kernel_rfl) (by kernel_rfl)
  · exact mayCall_body Try.func45 (by kernel_rfl) (by kernel_rfl) (by kernel_rfl)
  · exact mayCall_body Try.func26 (by kernel_rfl) (by kernel_rfl) (by kernel_rfl)
  · exact mayCall_body Try.func63 (by kernel_rfl) (by kernel_rfl) (by kernel_rfl)
  · exact mayCall_body Try.func64 (by kernel_rfl) (by kernel_rfl) (by kernel_rfl)
  · exact mayCall_body Try.func22 (by kernel_rfl) (by kernel_rfl) (by kernel_rfl)
  · exact mayCall_body Try.func16 (by kernel_rfl) (by kernel_rfl) (by kernel_rfl)
  · exact mayCall_body Try.func23 (by kernel_rfl) (by kernel_rfl) (by kernel_rfl)
  · exact mayCall_body Try.func24 (by kernel_rfl) (by kernel_rfl) (by kernel_rfl)
  · exact mayCall_body Try.func51 (by kernel_rfl) (by kernel_rfl) (by kernel_rfl)
  · exact mayCall_body Try.func44 (by kernel_rfl) (by kernel_rfl) (by kernel_rfl)
  · exact mayCall_body Try.func41 (by kernel_rfl) (by kernel_rfl) (by kernel_rfl)
  · exact mayCall_body Try.func25 (by kernel_rfl) (by kernel_rfl) (by kernel_rfl)
  · exact mayCall_body Try.func58 (by kernel_rfl) (by kernel_rfl) (by kernel_rfl)
  · exact mayCall_body Try.func15 (by kernel_rfl) (by kernel_rfl) (by kernel_rfl)
  · exact mayCall_body Try.func30 (by kernel_rfl) (by kernel_rfl) (by kernel_rfl)
  · exact mayCall_body Try.func31 (by kernel_rfl) (by kernel_rfl) (by kernel_rfl)
  · exact mayCall_body Try.func118 (by kernel_rfl) (by kernel_rfl) (by kernel_rfl)
  · exact mayCall_body Try.func46 (by kernel_rfl) (by kernel_rfl) (by kernel_rfl)
  · exact mayCall_body Try.func19 (by kernel_rfl) (by kernel_rfl) (by kernel_rfl)
  · exact mayCall_body Try.func20 (by kernel_rfl) (by kernel_rfl) (by kernel_rfl)
  · exact mayCall_body Try.func21 (by kernel_rfl) (by kernel_rfl) (by kernel_rfl)
  · exact mayCall_body Try.func17 (by kernel_rfl) (by kernel_rfl) (by kernel_rfl)
  · exact mayCall_body Try.func18 (by kernel_rfl) (by kernel_rfl) (by kernel_rfl)
  · exact mayCall_body Try.func14 (by kernel_rfl) (by kernel_rfl) (by kernel_rfl)
  · exact mayCall_body Try.func29 (by kernel_rfl) (by kernel_rfl) (by kernel_rfl)
  · exact mayCall_body Try.func28 (by kernel_rfl) (by kernel_rfl) (by kernel_rfl)
  · exact mayCall_extern Try.func71 (by kernel_rfl) (by kernel_rfl) (by kernel_rfl) (e := Extern.Atomic.loadT (.int .u64)) (by kernel_rfl) (mild_loadT _)
  · exact mayCall_extern Try.func70 (by kernel_rfl) (by kernel_rfl) (by kernel_rfl) (e := Extern.Atomic.update (Op.intArith .add) .u64 true) (by kernel_rfl) (mild_addT _)
  · exact mayCall_extern Try.func72 (by kernel_rfl) (by kernel_rfl) (by kernel_rfl) (e := Extern.Atomic.casT (.int .u64)) (by kernel_rfl) (mild_casT _)
theorem main_gate_eq (x : Value) (args : Array Value) : callMethod (.iface 61 x) "Step" args = (program >>= fun P => Go.method (P.types.size + Made.depth) 61 x "Step" >>= fun a => callFunc a.1 (#[a.2] ++ args)) := rfl
theorem main_gate (σ : Poison) (x : Value) (args : Array Value) : Tame Try.prog σ mainS (callMethod (.iface mainS.tn x) "Step" args) := by
  obtain ⟨N, hN⟩ : ∃ N, N = Try.prog.types.size + Made.depth := ⟨_, rfl⟩
  obtain ⟨k, hk⟩ := depth_pos Try.prog.types.size
  have h1 := method_notes k x
  have h2 := method_notes_ev k x
  rw [← hk, ← hN] at h1 h2
  show Tame Try.prog σ mainS (callMethod (.iface 61 x) "Step" args)
  rw [main_gate_eq]
  refine tame_program ?_
  rw [← hN]
  clear hN hk
  refine tame_enter (f := 118) (a := #[x] ++ args) (fun w => ?_) (fun w es => ?_) (by kernel_rfl) (fun s hs => by
    have e : mainS.quiet 118 = [] := by kernel_rfl
    rw [e] at hs; cases hs)
  · have hc := call_notes (#[x] ++ args)
    rw [Sem.run_bind, h1, Result.andThen_ok, hc]
  · have hc := call_notes_ev (#[x] ++ args)
    have h3 : Sem.events Try.prog (Go.method N 61 x "Step") w es = es := by
      have := Sem.events_acc Try.prog (Go.method N 61 x "Step") w es
      rw [h2] at this
      simpa using this
    simp [go_sem, h1, h3, hc]
theorem main_conv (x : Value) (w : World) (v : Value) (w' : World) (h : (Instr.makeInterface mainS.tn x).run Try.prog w = .ok v w') : v = .iface mainS.tn x := by
  have e : (Instr.makeInterface mainS.tn x).run Try.prog w = .ok (.iface mainS.tn x) w := by kernel_rfl
  rw [e] at h
  simp only [Result.ok.injEq] at h
  exact h.1.symm
set_option maxRecDepth 100000 in
theorem main_bodies (f : FuncId) (hf : mainS f = true) : ∀ c, (Try.prog.funcs[f]?).bind (·.body) = some c → okC (okF Try.prog mainS f) true c = true := by
  simp only [mainS, List.contains_iff_mem, List.mem_cons, List.not_mem_nil, or_false] at hf
  have key : ∀ f : Nat, ((Try.prog.funcs[f]?).bind (·.body)).all (okC (okF Try.prog mainS f) true) = true → ∀ c, (Try.prog.funcs[f]?).bind (·.body) = some c → okC (okF Try.prog mainS f) true c = true := fun f h c hc => by
    rw [hc] at h; exact h
  rcases hf with rfl | rfl | rfl | rfl | rfl | rfl | rfl | rfl | rfl | rfl | rfl | rfl | rfl | rfl | rfl | rfl | rfl | rfl | rfl | rfl | rfl | rfl | rfl | rfl | rfl | rfl | rfl | rfl | rfl | rfl | rfl | rfl | rfl
  · exact key 50 (by kernel_rfl)
  · exact key 48 (by kernel_rfl)
  · exact key 47 (by kernel_rfl)
  · exact key 49 (by kernel_rfl)
  · exact key 45 (by kernel_rfl)
  · exact key 26 (by kernel_rfl)
  · exact key 63 (by kernel_rfl)
  · exact key 64 (by kernel_rfl)
  · exact key 22 (by kernel_rfl)
  · exact key 16 (by kernel_rfl)
  · exact key 23 (by kernel_rfl)
  · exact key 24 (by kernel_rfl)
  · exact key 51 (by kernel_rfl)
  · exact key 44 (by kernel_rfl)
  · exact key 41 (by kernel_rfl)
  · exact key 25 (by kernel_rfl)
  · exact key 58 (by kernel_rfl)
  · exact key 15 (by kernel_rfl)
  · exact key 30 (by kernel_rfl)
  · exact key 31 (by kernel_rfl)
  · exact key 118 (by kernel_rfl)
  · exact key 46 (by kernel_rfl)
  · exact key 19 (by kernel_rfl)
  · exact key 20 (by kernel_rfl)
  · exact key 21 (by kernel_rfl)
  · exact key 17 (by kernel_rfl)
  · exact key 18 (by kernel_rfl)
  · exact key 14 (by kernel_rfl)
  · exact key 29 (by kernel_rfl)
  · exact key 28 (by kernel_rfl)
  · exact key 71 (by kernel_rfl)
  · exact key 70 (by kernel_rfl)
  · exact key 72 (by kernel_rfl)
theorem main_fit (σ : Poison) (h : NoC σ) : Fit Try.prog σ mainOk mainS :=
  ⟨no_steps, ahead, fun ρ hρ o ho => tame_op (fun _ => h) (main_calls σ) ρ hρ o ho, fun ρ hρ o ho => tame_op (fun _ => ⟨fun _ h => h⟩) (main_calls none0) ρ hρ o ho,
    fun f _ => lawful_of (fun _ => h) (main_calls σ) (main_gate σ) main_conv f, fun f _ => lawful_of (fun _ => ⟨fun _ h => h⟩) (main_calls none0) (main_gate none0) main_conv f, main_bodies⟩
end Go.Proofs.Ytdedmmjmiakidaa
/- Plain words: what goroutine 0 knows of memory beside a play; its words. No condition. -/
namespace Go.Proofs.Ytdedmmjmiakidaa
open Go.Conc Go.RowKit
/-- Said of the blocks alone. -/
class HO (M : World → Prop) : Prop where
  eq : ∀ u u' : World, u'.heap = u.heap → u'.os = u.os → u'.output = u.output → M u → M u'
instance ho_and {A B : World → Prop} [HO A] [HO B] : HO fun u => A u ∧ B u := ⟨fun u u' h h2 h3 q => ⟨HO.eq u u' h h2 h3 q.1, HO.eq u u' h h2 h3 q.2⟩⟩
instance ho_or {A B : World → Prop} [HO A] [HO B] : HO fun u => A u ∨ B u := ⟨fun u u' h h2 h3 q => q.imp (HO.eq u u' h h2 h3) (HO.eq u u' h h2 h3)⟩
instance ho_ex {α : Sort _} {A : α → World → Prop} [h : ∀ x, HO (A x)] : HO fun u => ∃ x, A x u := ⟨fun u u' e e2 e3 q => q.imp fun x hx => (h x).eq u u' e e2 e3 hx⟩
instance ho_all {α : Sort _} {A : α → World → Prop} [h : ∀ x, HO (A x)] : HO fun u => ∀ x, A x u := ⟨fun u u' e e2 e3 q x => (h x).eq u u' e e2 e3 (q x)⟩
instance ho_const {p : Prop} : HO fun _ => p := ⟨fun _ _ _ _ _ q => q⟩
instance ho_row {b : Nat} {c : Array Value} {t : TypeId} : HO fun u => Row u b c t := ⟨fun u u' h _ _ q => by unfold Row at *; rw [h]; exact q⟩
instance ho_heap {b : Nat} {o : Option Obj} : HO fun u => u.heap[b]? = o := ⟨fun u u' h _ _ q => by rw [h]; exact q⟩
instance ho_own {b : Nat} {e : TypeId} {s : Nat} {v : Value} {n : Nat} {xs : List Value} : HO fun u => u.ownsRow b e s v n xs := ⟨fun u u' h _ _ q => ownsRow_of q fun _ _ => by rw [h]⟩
instance ho_size {p : Nat → Prop} : HO fun u => p u.heap.size := ⟨fun u u' h _ _ q => by rw [h]; exact q⟩
instance ho_os {p : Os → Prop} : HO fun u => p u.os := ⟨fun u u' _ h _ q => by rw [h]; exact q⟩
instance ho_out {p : Array (Nat × ByteArray) → Prop} : HO fun u => p u.output := ⟨fun u u' _ _ h q => by rw [h]; exact q⟩
theorem heap_ps0 {P : Program} {σ : Poison} {w u u' : World} (h : Ps0 P σ w u) (h' : Ps0 P σ w u') : u'.heap = u.heap := by
  refine Array.ext_getElem? fun b => ?_
  by_cases hb : σ.F b
  · rw [h.bad b hb, h'.bad b hb]
  · rw [h.heap b hb, h'.heap b hb]
/-- What goroutine 0 knows. -/
structure Kn (x : LX) (M : World → Prop) (w : World) : Prop where
  real : x.Real w
  on : ∀ u, Ps0 Try.prog (sigL x) w u → M u
section
variable {W : Machine → Trace → Prop} {x : LX} {M M' : World → Prop} {w w₁ : World}
theorem LX.Real.get (h : x.Real w) : Ps0 Try.prog (sigL x) w (spoil (sigL x) w) := spoil_ps (P := Try.prog) no_steps h
theorem Kn.intro [HO M] {u : World} (hr : x.Real w) (hp : Ps0 Try.prog (sigL x) w u) (h : M u) : Kn x M w := ⟨hr, fun u' h' => HO.eq u u' (heap_ps0 hp h') (h'.os.trans hp.os.symm) (h'.output.trans hp.output.symm) h⟩
theorem Kn.mono (h : Kn x M w) (hm : ∀ u, M u → M' u) : Kn x M' w := ⟨h.real, fun u hu => hm u (h.on u hu)⟩
theorem Kn.get (h : Kn x M w) : ∃ u, Ps0 Try.prog (sigL x) w u ∧ M u := ⟨_, h.real.get, h.on _ h.real.get⟩
theorem Kn.size (h : Kn x M w) : Kn x (fun u => M u ∧ u.heap.size = w.heap.size) w := ⟨h.real, fun u hu => ⟨h.on u hu, hu.size⟩⟩
theorem Kn.at (h : Kn x M w) (hR : AtRel w w₁) : Kn x M w₁ := by
  obtain ⟨d, rfl⟩ := hR
  exact ⟨fun b hb => h.real b hb, fun u hu => h.on u ⟨hu.heap, hu.bad, hu.real, hu.size, hu.os, hu.output, fun j q hj => by omega, hu.pend⟩⟩
theorem ps_eq (hx : x.wg = none) {u : World} (h : Ps0 Try.prog (sigL x) w u) : u.heap = w.heap := Array.ext_getElem? fun b => h.heap b fun hb => by
  have hb : x.wg = some b := hb
  rw [hx] at hb; cases hb
theorem Kn.of_true [HO M] (hx : x.wg = none) (h : M w) : Kn x M w := by
  refine ⟨fun b hb => ?_, fun u hu => HO.eq w u (ps_eq hx hu) hu.os hu.output h⟩
  have hb : x.wg = some b := hb
  rw [hx] at hb; cases hb
theorem Kn.true [HO M] (hx : x.wg = none) (h : Kn x M w) : M w := by
  obtain ⟨u, hu, hm⟩ := h.get
  exact HO.eq u w (ps_eq hx hu).symm hu.os.symm hu.output.symm hm
theorem Kn.cell {ad : Addr} {v : Value} (h : Kn x M w) (hc : ∀ u, M u → u.cell? ad = some v) : w.cell? ad = some v ∧ ¬ x.bad ad.block := by
  obtain ⟨u, hu, hm⟩ := h.get
  have h1 := hc u hm
  have hb : ¬ x.bad ad.block := fun hb => by
    have := hu.bad ad.block hb
    unfold World.cell? at h1
    rw [this] at h1
    simp at h1
  refine ⟨?_, hb⟩
  unfold World.cell? at *
  rw [← hu.heap ad.block hb]
  exact h1
/-- Left on its way only. -/
def onlyK (K : Act → World → Prop) : Exit → Act → World → Prop
  | .normal, a, w => K a w
  | _, _, _ => False
theorem real_keep {u u' : World} {w' : World} (hr : x.Real w) (hp : Ps0 Try.prog (sigL x) w' u') : x.Real w' := fun b hb => hp.real b hb
/-- A piece by its walk alone. -/
theorem aloneK {M' : Array Value → World → Prop} [hM : ∀ t, HO (M' t)] {c : Code} {t : Array Value} {Q : LX → Exit → Array Value → World → Prop} (h : Kn x M w) (hc : okCode mainOk false c = true)
    (hwp : ∀ u, M u → c.wp Try.prog (onlyK fun a' u' => a'.defers = [] ∧ M' a'.tmps u') ⟨t, []⟩ u) (hk : ∀ t' w', Kn x (M' t') w' → w.heap.size ≤ w'.heap.size → Q x .normal t' w') : cps (envL W) c Q x t w :=
  cps_alone (E := envL W) (n := x) (K := fun w w' => w.heap.size ≤ w'.heap.size) envL_ok (main_fit (sigL x) inferInstance) suitsL h.real hc fun u hu => wp_mono (hwp u (h.on u hu)) fun e a' u' q => by
    cases e with
    | normal => exact ⟨rfl, q.1, fun w' h1 h2 => hk _ _ (Kn.intro (fun b hb => h1.real b hb) h1 q.2) h2⟩
    | _ => exact q.elim
section region
variable {ops : Array Oper} {i : Nat} {o : Oper} {l : List Nat} {t : Array Value} {Qr : LX → Array Value → World → Prop}
/-- An operation by its walk alone. -/
theorem opK [HO M'] (h : Kn x M w) (v : Value) (ho : ops[i]? = some o) (hok : mainOk o.op = true) (hw : Region.wanted o (yielded ops t) = true)
    (hrun : ∀ u, M u → u.heap.size = w.heap.size → ∃ u', ((execOp (⟨t, []⟩ : Act).eval o).run Try.prog u = .ok (.value v) u' ∨ (execOp (⟨t, []⟩ : Act).eval o).run Try.prog u = .ok .skip u' ∧ v = undef) ∧ M' u')
    (hk : ∀ w', Kn x M' w' → w.heap.size ≤ w'.heap.size → cpsR (envL W) ops l Qr x ((⟨t, []⟩ : Act).put o.dst v).tmps w') : cpsR (envL W) ops (i :: l) Qr x t w := by
  have F := main_fit (sigL x) inferInstance
  refine cpsR_op envL_ok ho hw fun w₁ hR => ?_
  have hR : AtRel w w₁ := hR
  have h1 := h.at hR
  have hp1 : Ps0 Try.prog (sigL x) w₁ (spoil (sigL x) w₁) := h1.real.get
  have hT := F.op (⟨t, []⟩ : Act).eval (reads_act _) o hok
  let T : Nat → Question → Nat := fun k => w₁.tape (w₁.drawn + (k - (spoil (sigL x) w₁).drawn))
  have hp2 : Ps0 Try.prog (sigL x) w₁ (World.deal (spoil (sigL x) w₁) T) := hp1.dealt T
  have hs1 : w₁.heap.size = w.heap.size := by obtain ⟨d, rfl⟩ := hR; rfl
  obtain ⟨u', hr, hm⟩ := hrun _ (h1.on _ hp2) (hp2.size.trans hs1)
  have key : ∀ nx, (execOp (⟨t, []⟩ : Act).eval o).run Try.prog (World.deal (spoil (sigL x) w₁) T) = .ok nx u' → ∃ w' es', (execOp (⟨t, []⟩ : Act).eval o).runT Try.prog w₁ #[] = (.ok nx w', es') ∧ DL x.sh w₁ w' es' ∧ Kn x M' w' ∧ w.heap.size ≤ w'.heap.size := fun nx hr => by
    obtain ⟨w', es', h1, h2, h3, h4⟩ := hT.mild.sim u'.drawn w₁ _ nx u' #[] (hp1.deal u'.drawn) hr (Nat.le_refl _)
    refine ⟨w', es', by simpa using h1, suitsL.list _ _ _ _ _ h3 h4, Kn.intro (fun b hb => h2.off.real b hb) h2.off hm, ?_⟩
    rw [← hs1]; exact h3.size
  rcases hr with hr | ⟨hr, rfl⟩
  · obtain ⟨w', es', h1, h2, h3, h4⟩ := key _ hr
    exact ⟨v, w', es', .inl h1, h2, hk w' h3 h4⟩
  · obtain ⟨w', es', h1, h2, h3, h4⟩ := key _ hr
    exact ⟨undef, w', es', .inr ⟨h1, rfl⟩, h2, hk w' h3 h4⟩
end region
end
end Go.Proofs.Ytdedmmjmiakidaa
/- Plain words: words in any company. No condition. -/
namespace Go.Proofs.Ytdedmmjmiakidaa
open Go.Conc Go.RowKit
section
variable {E : Env} {n : E.ι} {w : World} {ops : Array Oper} {i : Nat} {o : Oper} {l : List Nat} {t : Array Value} {Qr : E.ι → Array Value → World → Prop}
theorem valE (O : E.Ok) (hP : E.P = Try.prog) (v : Value) (ho : ops[i]? = some o) (hw : Region.wanted o (yielded ops t) = true) (he : ∀ w₁, (execOp (⟨t, []⟩ : Act).eval o).events Try.prog w₁ #[] = #[]) (hr : ∀ w₁, (execOp (⟨t, []⟩ : Act).eval o).run Try.prog w₁ = .ok (.value v) w₁)
    (h : cpsR E ops l Qr n ((⟨t, []⟩ : Act).put o.dst v).tmps w) : cpsR E ops (i :: l) Qr n t w := by
  refine cpsR_op O ho hw fun w₁ hR => ⟨v, w₁, #[], .inl ?_, O.still _ _, h.rely O hR⟩
  rw [hP, Sem.runT_eq, hr w₁, he w₁]
theorem callE (O : E.Ok) (hP : E.P = Try.prog) {f : FuncId} {fn : Func} {c : Code} {args : Array Operand} {ats : Array TypeId} {vals : Array Value} (ho : ops[i]? = some o) (hw : Region.wanted o (yielded ops t) = true)
    (hop : o.op = .call { callee := .value (.func f), args, argTypes := ats }) (hf : Try.prog.funcs[f]? = some fn) (hnm : (fn.name == "runtime.NumGoroutine") = false) (hb : fn.body = some c) (hv : args.toList.map (⟨t, []⟩ : Act).eval = vals.toList)
    (h : cpsC E f vals (fun n' v w' => cpsR E ops l Qr n' ((⟨t, []⟩ : Act).put o.dst v).tmps w') n w) : cpsR E ops (i :: l) Qr n t w := by
  refine cpsR_enter O (f := f) (args := vals) ho hw (fun w₁ _ => ⟨#[], ?_, O.still _ _⟩) h
  rw [hP, Sem.runT_eq, (call_run hop hv w₁).1, (call_run hop hv w₁).2, run_callF hf hnm hb, ev_callF hf hnm hb]
theorem cpsC.mono {f : FuncId} {args : Array Value} {Q Q' : E.ι → Value → World → Prop} (h : cpsC E f args Q n w) (hq : ∀ n' v w', Q n' v w' → Q' n' v w') : cpsC E f args Q' n w :=
  fun fr cs hcs hk => h fr cs hcs fun n' hn v w' q => hk n' hn v w' (hq n' v w' q)
theorem retE (O : E.Ok) (hP : E.P = Try.prog) {fn : Func} {t : Array Value} {i : Nat} {w : World} {v : Value} (h : fn.results = #[.tmp i]) (hi : t.getD i undef = v) : ∀ w₁, E.R w w₁ → ∃ es, (results fn t).runT E.P w₁ #[] = (.ok v w₁, es) ∧ E.D n w₁ w₁ es := fun w₁ _ => ⟨#[], by
  rw [hP, Sem.runT_eq, results_tmp (t := i) h, events_results_tmp (t := i) h, hi], O.still _ _⟩
theorem ret2E (O : E.Ok) (hP : E.P = Try.prog) {fn : Func} {t : Array Value} {i j : Nat} {w : World} {v : Value} (h : fn.results = #[.tmp i, .tmp j]) (hi : (.tuple #[t.getD i undef, t.getD j undef] : Value) = v) : ∀ w₁, E.R w w₁ → ∃ es, (results fn t).runT E.P w₁ #[] = (.ok v w₁, es) ∧ E.D n w₁ w₁ es := fun w₁ _ => ⟨#[], by
  rw [hP, Sem.runT_eq, results_tmp2 (t := i) (u := j) h, ← hi]
  simp [results, h], O.still _ _⟩
end
section
variable {E : Env} {n : E.ι} {w : World}
theorem ret0E (O : E.Ok) (hP : E.P = Try.prog) {fn : Func} {t : Array Value} {w : World} (h : fn.results = #[]) : ∀ w₁, E.R w w₁ → ∃ es, (results fn t).runT E.P w₁ #[] = (.ok (.tuple #[]) w₁, es) ∧ E.D n w₁ w₁ es := fun w₁ _ => ⟨#[], by
  rw [hP, Sem.runT_eq, results_none h, events_results_none h], O.still _ _⟩
end
section
variable {E : Env} {n : E.ι} {w : World}
theorem ret3E (O : E.Ok) (hP : E.P = Try.prog) {fn : Func} {t : Array Value} {i j k : Nat} {w : World} {v : Value} (h : fn.results = #[.tmp i, .tmp j, .tmp k]) (hi : (.tuple #[t.getD i undef, t.getD j undef, t.getD k undef] : Value) = v) : ∀ w₁, E.R w w₁ → ∃ es, (results fn t).runT E.P w₁ #[] = (.ok v w₁, es) ∧ E.D n w₁ w₁ es := fun w₁ _ => ⟨#[], by
  rw [hP, Sem.runT_eq, results_tmp3 (t := i) (u := j) (v := k) h, ← hi]
  simp [results, h], O.still _ _⟩
end
/-- Left on its way only. -/
def onlyN (K : Act → World → Prop) : Exit → Act → World → Prop
  | .normal, a, w => K a w
  | _, _, _ => False
end Go.Proofs.Ytdedmmjmiakidaa
/- Plain words: a gate that hinders nobody: none at all, or one that writes down. No condition. -/
namespace Go.Proofs.Ytdedmmjmiakidaa
open Go.Conc Go.RowKit
/-- What comes of a call that nobody disturbs: the state, the answer, what its gate is told. -/
def Job.fin (J : Job) : Nat → List (Int × Int) → J.St × (J.Pos ⊕ J.Res) → Option (J.St × J.Res × List (Int × Int))
  | _, L, (a, .inr r) => some (a, r, L)
  | 0, _, (_, .inl _) => none
  | k + 1, L, (a, .inl p) => J.fin k (L ++ [J.mark p]) (J.exec p a)
theorem Job.fin_inr {J : Job} {k : Nat} {L : List (Int × Int)} {a : J.St} {r : J.Res} : J.fin k L (a, .inr r) = some (a, r, L) := by cases k <;> rfl
theorem Job.fin_inl {J : Job} {k : Nat} {L : List (Int × Int)} {a : J.St} {p : J.Pos} {f : J.St × J.Res × List (Int × Int)} (h : J.fin k L (a, .inl p) = some f) : ∃ k', k = k' + 1 ∧ J.fin k' (L ++ [J.mark p]) (J.exec p a) = some f := by
  cases k with
  | zero => cases h
  | succ k => exact ⟨k, rfl, h⟩
section
variable {J : Job}
instance ho_rep {a : J.St} : HO (J.Rep a) := ⟨fun u u' h _ _ q => J.frame a u u' (fun b _ => by rw [h]) q⟩
/-- How goroutine 0 stands in a call of its own. -/
def AtG (J : Job) (x : LX) (G : List (Int × Int) → World → Prop) (M : World → Prop) (f : J.St × J.Res × List (Int × Int)) (n : LX) (k : Nat) (a : J.St) (d : J.St × (J.Pos ⊕ J.Res)) (w : World) : Prop :=
  n = x ∧ ∃ L, J.fin k L d = some f ∧ L.length + k < 1000000 ∧ Kn x (fun u => J.Rep a u ∧ G L u ∧ M u) w
/-- What is asked of a gate, and of what is known besides. -/
structure Gate0 (J : Job) (W : Machine → Trace → Prop) (x : LX) (g : Value) (G : List (Int × Int) → World → Prop) (M : World → Prop) : Prop where
  hg : ∀ L, HO (G L)
  hm : HO M
  keep : ∀ (a : J.St) (L : List (Int × Int)) (u u' : World), J.Rep a u → Sm (J.foot a) u u' → G L u ∧ M u → G L u' ∧ M u'
  step : ∀ (w : World) (a : J.St) (L : List (Int × Int)) (m : Int × Int) (Q : LX → Value → World → Prop), L.length < 1000000 → Kn x (fun u => J.Rep a u ∧ G L u ∧ M u) w → (∀ w', Kn x (fun u => J.Rep a u ∧ G (L ++ [m]) u ∧ M u) w' → Q x (.tuple #[]) w') →
    cpsC (envL W) 46 #[g, .int .u8 m.1, .int .i64 m.2] Q x w
noncomputable def gated0 {W : Machine → Trace → Prop} {x : LX} {g : Value} {G : List (Int × Int) → World → Prop} {M : World → Prop} (H : Gate0 J W x g G M) (f : J.St × J.Res × List (Int × Int)) : Gated J where
  E := envL W
  ok := envL_ok
  P := rfl
  gate := g
  At := AtG J x G M f
  rely := fun n k a d w w' h hR => by
    obtain ⟨rfl, L, h1, h2, h3⟩ := h
    exact ⟨rfl, L, h1, h2, h3.at hR⟩
  rep := fun n k a d w h => by
    obtain ⟨rfl, L, h1, h2, h3⟩ := h
    obtain ⟨u, _, hu⟩ := h3.get
    exact ⟨u, hu.1⟩
  alone := fun {n k a d w c t Q} h hc hwp => by
    obtain ⟨rfl, L, h1, h2, h3⟩ := h
    have := H.hg
    have := H.hm
    refine cps_alone (E := envL W) (n := n) (K := fun w w' => w.heap.size ≤ w'.heap.size) envL_ok (thr_fit (sigL n)) suitsL h3.real hc fun u hu => ?_
    have hM := h3.on u hu
    refine wp_mono (hwp u hM.1) fun e a' u' q => ⟨q.1, q.2.1, fun w' hp hs => ?_⟩
    obtain ⟨_, _, σ', q1, q2, q3, q4⟩ := q
    exact q4 w' ⟨rfl, L, h1, h2, Kn.intro (M := fun u => J.Rep σ' u ∧ G L u ∧ M u) (fun b hb => hp.real b hb) hp ⟨q1, H.keep a L u u' hM.1 q3 hM.2⟩⟩
  step := fun {n k a p w} h => by
    obtain ⟨rfl, L, h1, h2, h3⟩ := h
    obtain ⟨k', rfl, h4⟩ := Job.fin_inl h1
    refine H.step w a L (J.mark p) _ (by omega) h3 fun w' h' => ⟨rfl, k', a, Nat.lt_succ_self _, rfl, _, h4, by simp; omega, h'⟩
end
section
variable {E : Env} {n : E.ι} {w : World}
set_option maxRecDepth 100000 in
theorem step_nil_e (O : E.Ok) (hP : E.P = Try.prog) (m1 m2 : Int) {Q : E.ι → Value → World → Prop} (hq : Q n (.tuple #[]) w) : cpsC E 46 #[.nilIface, .int .u8 m1, .int .i64 m2] Q n w := by
  refine cpsC_body O (by rw [hP]; exact Try.func46) rfl ?_
  simp only [Try.ntmps46]
  refine cps_opaque fun Q' hQ => ?_
  walk_nrm
  repeat refine cps_seq O ?_
  (refine cps_region O ?_; simp only [List.size_toArray, List.length_cons, List.length_nil, Nat.reduceAdd, Nat.zero_add, List.range, List.range.loop])
  refine valE O hP (.nilIface) rfl rfl (fun _ => by simp [go_sem]) (fun _ => by go_simp; try (first | rfl | (simp [*]))) ?_; try walk_nrm
  have hne := neq_ev
  refine valE O hP (.bool false) rfl rfl (fun _ => by first | exact hne _ | (simp [go_sem]; exact hne _) | simp [go_sem]) (fun _ => by go_simp; try (first | rfl | (simp [*]))) ?_
  try walk_nrm
  refine cpsR_nil O ?_
  show cps _ _ _ _ _ _
  refine cps_cond O (v := false) rfl ?_
  simp only [Bool.false_eq_true, if_false]
  exact cps_skip O (hQ _ _ _ _ ⟨.inl rfl, .tuple #[], ret0E O hP rfl, hq⟩)
end
section
variable {J : Job} {W : Machine → Trace → Prop} {x : LX} {M : World → Prop}
/-- No gate. -/
theorem gateNil (hm : HO M) (hk : ∀ (a : J.St) (u u' : World), J.Rep a u → Sm (J.foot a) u u' → M u → M u') : Gate0 J W x .nilIface (fun _ _ => True) M where
  hg := fun _ => inferInstance
  hm := hm
  keep := fun a L u u' h1 h2 h3 => ⟨trivial, hk a u u' h1 h2 h3.2⟩
  step := fun w a L m Q _ h hq => step_nil_e envL_ok rfl m.1 m.2 (hq w h)
end
end Go.Proofs.Ytdedmmjmiakidaa
/- Plain words: from the words of goroutine 0 to a law's run. No condition. -/
namespace Go.Proofs.Ytdedmmjmiakidaa
open Go.Conc Go.RowKit
section
variable {Post : Value → World → Prop}
/-- A law's run from its start to its end. -/
theorem law_good {f : FuncId} {fn : Func} {c : Code} {args : Array Value} {w : World} (hf : Try.prog.funcs[f]? = some fn) (hb : fn.body = some c) (hne : f ≠ 2)
    (h : cps (envL (GoodEnd Try.prog Post)) c (fun x' e t' w' => e = .ret ∧ ∃ v, (∀ w₁, AtRel w' w₁ → ∃ es, (results fn t').runT Try.prog w₁ #[] = (.ok v w₁, es) ∧ DL x'.sh w₁ w₁ es) ∧ ∀ w₁, AtRel w' w₁ → Post v w₁) ⟨none, 1⟩ (args ++ Array.replicate (fn.ntmps - args.size) undef) w) :
    GoodEnd Try.prog Post (solo (G (Frame.enter Try.prog f args .normal) []) w) #[] := by
  have he : Frame.enter Try.prog f args .normal = (Frame.enter Try.prog f args .normal).at ⟨args ++ Array.replicate (fn.ntmps - args.size) undef, []⟩ [.code c] := by
    simp [Frame.enter, Frame.at, hf, hb]
  have hF : (envL (GoodEnd Try.prog Post)).Fr (Frame.enter Try.prog f args .normal) [] := ⟨rfl, ⟨fn, hf⟩, trivial⟩
  have hG : (envL (GoodEnd Try.prog Post)).Go ⟨none, 1⟩ (G (Frame.enter Try.prog f args .normal) []) w := by
    rw [he]
    refine h _ [] [] hF fun n' hn e t' w' q => ?_
    obtain ⟨rfl, v, q2, q3⟩ := q
    intro todo
    refine goL fun w₁ hR gs T qq L hP hg hsz => ?_
    refine lend hg L hP fun w₂ hR2 => ?_
    have hRR := atRel_trans _ _ _ hR hR2
    obtain ⟨es, hr, hd⟩ := q2 w₂ hRR
    have hs : w₂.heap.size = w₁.heap.size := by obtain ⟨d, rfl⟩ := hR2; rfl
    refine ⟨rfl, v, seen Try.prog f es, ?_, fun e he => by rw [← hs]; exact hd.ev e (seen_sub _ _ _ e he), q3 w₂ hRR⟩
    simp only [G, stepG, unwind, Frame.at, Frame.enter, hf]
    simp only [hr, GStep.after, doReturn]
    have hne' : ¬ (2 = f) := fun e => hne e.symm
    simp [hne']
  rw [solo_eq_crowd]
  refine winL back_goodEnd hG #[_] #[] (fun _ => 0) (leavers_one _ _) (past_nil.mono (Nat.zero_le _)) rfl rfl none
end
end Go.Proofs.Ytdedmmjmiakidaa
/- Plain words: goroutine 0's calls by their lone contracts. No condition. -/
namespace Go.Proofs.Ytdedmmjmiakidaa
open Go.Conc Go.RowKit
section
variable {W : Machine → Trace → Prop} {x : LX} {M : World → Prop} {w : World} {ops : Array Oper} {i : Nat} {o : Oper} {l : List Nat} {t : Array Value} {Qr : LX → Array Value → World → Prop}
theorem opCallK {M' : Value → World → Prop} [hM : ∀ v, HO (M' v)] {f : FuncId} {fn : Func} {c : Code} {args : Array Operand} {ats : Array TypeId} {vals : Array Value} (h : Kn x M w) (hops : ops.all (fun o => mainOk o.op) = true) (ho : ops[i]? = some o) (hw : Region.wanted o (yielded ops t) = true)
    (hop : o.op = .call { callee := .value (.func f), args, argTypes := ats }) (hf : Try.prog.funcs[f]? = some fn) (hnm : (fn.name == "runtime.NumGoroutine") = false) (hb : fn.body = some c) (hv : args.toList.map (⟨t, []⟩ : Act).eval = vals.toList)
    (hc : ∀ u, M u → u.heap.size = w.heap.size → Calls Try.prog f vals u fun e u' => ∃ v, e = .returned v ∧ M' v u')
    (hk : ∀ v w', Kn x (M' v) w' → w.heap.size ≤ w'.heap.size → cpsR (envL W) ops l Qr x ((⟨t, []⟩ : Act).put o.dst v).tmps w') : cpsR (envL W) ops (i :: l) Qr x t w := by
  intro b k cs hfr hkk
  refine goes_ops (l := [i]) (l2 := l) (K := fun w w' => w.heap.size ≤ w'.heap.size) (main_fit (sigL x) inferInstance) suitsL hfr.kind h.real hops fun u hu => ?_
  have hM0 := h.on u hu
  simp only [wpOps, ho, hw, if_true]
  refine .inl ?_
  unfold Oper.wp
  rw [(call_run hop hv u).1, run_callF hf hnm hb, Oper.upon_enter]
  intro cs'
  obtain ⟨e, u', fr, ⟨v, rfl, hm⟩, h2⟩ := hc u hM0 hu.size cs'
  refine ⟨.returned v, u', fr, ?_, h2⟩
  refine ⟨trivial, by rw [put_at], fun w' hp hs => ?_⟩
  exact hk v w' (Kn.intro (fun b hb => hp.real b hb) hp hm) hs b k cs hfr hkk
end
end Go.Proofs.Ytdedmmjmiakidaa
/- The gate that writes down what it is told, walked alone. -/
namespace Go.Proofs.Ytdedmmjmiakidaa
open Go.RowKit
set_option linter.unusedVariables false

/-- Marks as cells. -/
def mks (L : List (Int × Int)) : List Value := L.flatMap fun p => [.int .u8 p.1, .int .i64 p.2]
theorem mks_len (L : List (Int × Int)) : (mks L).length = L.length * 2 := by
  induction L with
  | nil => rfl
  | cons a l ih => simp [mks] at ih ⊢; omega
theorem mks_snoc (L : List (Int × Int)) (o d : Int) : mks (L ++ [(o, d)]) = mks L ++ [.int .u8 o, .int .i64 d] := by simp [mks]

/-- The gate at block nb has been told L. -/
def Noted (nb : Nat) (w : World) (L : List (Int × Int)) : Prop :=
  ∃ v : Value, Row w nb #[.bool true, v] 128 ∧ w.ownsRow (nb + 1) 118 2 v L.length (mks L)

theorem Noted.sm {F : Nat → Prop} {nb : Nat} {w w' : World} {L : List (Int × Int)} (h : Noted nb w L) (k : Sm F w w') (hF : ∀ b, nb ≤ b → ¬ F b) : Noted nb w' L := by
  obtain ⟨v, h1, h2⟩ := h
  exact ⟨v, h1.sm k (hF nb (Nat.le_refl _)), own_sm h2 k fun b hb => hF b (by omega)⟩

theorem Noted.alloc {nb : Nat} {w : World} {L : List (Int × Int)} (h : Noted nb w L) (o : Obj) : Noted nb (w.alloc o) L :=
  h.sm (F := fun _ => False) ((Sm.refl _ _).alloc o) (fun _ _ h => h)

theorem info_mark : (Try.prog.info? 118).map (fun i => (i.zero, i.size, i.bytes)) = some (some (.agg #[.int .u8 0, .int .i64 0]), 2, 16) := by kernel_rfl

theorem newNotes_c (w : World) :
    Calls Try.prog 23 #[] w fun e w' => e = .returned (.pointer (some ⟨w.heap.size, 0, none⟩)) ∧ Sm (fun _ => False) w w' ∧ Noted w.heap.size w' [] ∧ w'.heap.size = w.heap.size + 1 := by
  go_enter Try.func23, Try.ntmps23
  go_wp2
  go_ret
  exact ⟨rfl, (Sm.refl _ _).alloc _, ⟨_, Row.new _ _ _, World.ownsRow_nil _ _ _ _⟩, by simp⟩

set_option maxHeartbeats 800000 in
theorem noteStep_c (nb : Nat) (op wd : Int) (w : World) (L : List (Int × Int)) (hL : L.length < 1000000) (h : Noted nb w L) :
    Calls Try.prog 118 #[.pointer (some ⟨nb, 0, none⟩), .agg #[.int .u8 op, .int .i64 wd]] w fun e w' =>
      e = .returned (.tuple #[]) ∧ Noted nb w' (L ++ [(op, wd)]) ∧ Sm (fun b => nb ≤ b) w w' := by
  obtain ⟨v, h1, h2⟩ := h
  obtain ⟨i0, hi, hz0, hz1, hz2⟩ := info_parts info_mark
  have hlt := h1.lt
  have c0 : w.cell? ⟨nb, 0, none⟩ = some (.bool true) := h1.cell 0
  have c1 : w.cell? ⟨nb, 1, none⟩ = some v := h1.cell 1
  have f1 : w.frozen? ⟨nb, 1, none⟩ = false := h1.free 1
  have Hi := Lib.hid hi
  have Hz0 := Lib.hid hz0
  have Hz1 := Lib.hid hz1
  have Hz2 := Lib.hid hz2
  have H1 := Lib.hid h1
  have H2 := Lib.hid h2
  clear h1 h2 hi hz0 hz1 hz2
  go_enter Try.func118, Try.ntmps118
  go_wp2_with fail
  obtain ⟨wa, hwa⟩ : ∃ wa : World, wa = w.alloc (Obj.cells #[Value.int IntKind.u8 op, Value.int IntKind.i64 wd] 118) := ⟨_, rfl⟩
  have c0a : wa.cell? ⟨nb, 0, none⟩ = some (.bool true) := by rw [hwa]; exact (H1.out.alloc _).cell 0
  have H1a : Row wa nb #[Value.bool true, v] 128 := by rw [hwa]; exact H1.out.alloc _
  have c1a : wa.cell? ⟨nb, 1, none⟩ = some v := H1a.cell 1
  have m0 : wa.cell? ⟨w.heap.size, 0, none⟩ = some (.int .u8 op) := by rw [hwa]; exact (Row.new w _ _).cell 0
  have m1 : wa.cell? ⟨w.heap.size, 1, none⟩ = some (.int .i64 wd) := by rw [hwa]; exact (Row.new w _ _).cell 1
  have ha : wa.ownsRow (nb + 1) 118 2 v L.length (mks L) := by rw [hwa]; exact H2.out.alloc _
  have sa : Sm (fun b => nb ≤ b) w wa := by rw [hwa]; exact (Sm.refl _ _).alloc _
  have za : nb + 1 ≤ wa.heap.size := by rw [hwa, World.size_alloc]; omega
  rw [← hwa]
  have HA := Lib.hid ha
  have H1A := Lib.hid H1a
  clear hwa c0 c1 f1 ha H1a
  have hone : ∀ u ∈ [Value.int .u8 op, Value.int .i64 wd], u.oneCell' = true := by simp [Value.oneCell']
  have c1b : (wa.alloc (Obj.cells #[Value.int IntKind.u8 op, Value.int IntKind.i64 wd] 118)).cell? ⟨nb, 1, none⟩ = some v := (H1A.out.alloc _).cell 1
  go_region_law (refine step_append_own rfl (.tmp 16) (.tmp 18) 63 rfl (nb + 1) 118 i0 (.agg #[.int .u8 0, .int .i64 0]) 2 16 Try.underlying63 Hi.out Hz0.out Hz1.out Hz2.out rfl (by decide) v L.length (mks L) (by simp [Act.eval]) (HA.out.drew.alloc _) ⟨wa.heap.size, 0, none⟩ 1 1 [.int .u8 op, .int .i64 wd] (by simp [Act.eval]) rfl (new_cells wa.drew [.int .u8 op, .int .i64 wd] 118) hone (by unfold maxLen; omega) (by omega) (by simp; omega) ?_; intro v' w' hown' hg'; obtain ⟨g', cap', hv'⟩ := own_form hown' (by omega); subst hv'; have H1' := Lib.hid (((H1A.out.alloc _).drew).grown hg' (fun e => by have := (HA.out.lt nb e).1; omega)); have c1' : w'.cell? ⟨nb, 1, none⟩ = some v := H1'.out.cell 1; have f1' : w'.frozen? ⟨nb, 1, none⟩ = false := H1'.out.free 1)
  all_goals
    go_wp2
    refine bodyPost_end (results_none rfl _ _ _) rfl ?_
    have H1' := Row.grown ((Row.alloc H1A.out _).drew) hg' (fun e => by have := (HA.out.lt nb e).1; omega)
    have hs' : Sm (fun b => nb ≤ b) wa w' := ((Sm.refl _ wa).alloc _).drew.trans (sm_grown hg' fun k e => by have := (HA.out.lt k e).1; omega)
    refine ⟨rfl, ⟨_, H1'.set 1 _, ?_⟩, sa.trans (hs'.setCell (Nat.le_refl _) _)⟩
    rw [mks_snoc, List.length_append]
    exact ownsRow_setCell_below hown' (by simp) _
end Go.Proofs.Ytdedmmjmiakidaa
/- Plain words: the gate that writes down, in goroutine 0's company. No condition. -/
namespace Go.Proofs.Ytdedmmjmiakidaa
open Go.Conc Go.RowKit
section
variable {W : Machine → Trace → Prop} {x : LX} {w : World}
instance ho_noted {nb : Nat} {L : List (Int × Int)} : HO fun u => Noted nb u L := by unfold Noted; infer_instance
theorem note_run (k b : Nat) (w : World) : Sem.run Try.prog (Go.method (k + 1) 61 (.pointer (some ⟨b, 0, none⟩)) "Step") w = .ok (118, .pointer (some ⟨b, 0, none⟩)) w := by kernel_rfl
theorem note_ev (k b : Nat) (w : World) : Sem.events Try.prog (Go.method (k + 1) 61 (.pointer (some ⟨b, 0, none⟩)) "Step") w #[] = #[] := by kernel_rfl
set_option maxHeartbeats 1600000 in
theorem note_body (nb : Nat) (op wd : Int) (w : World) (L : List (Int × Int)) (hL : L.length < 1000000) (h : Noted nb w L) :
    (Try.f118.body.getD .skip).wp Try.prog (onlyK fun a' w' => a'.defers = [] ∧ Noted nb w' (L ++ [(op, wd)]) ∧ Sm (fun b => nb ≤ b) w w') ⟨#[.pointer (some ⟨nb, 0, none⟩), .agg #[.int .u8 op, .int .i64 wd]] ++ Array.replicate 20 undef, []⟩ w := by
  obtain ⟨v, h1, h2⟩ := h
  obtain ⟨i0, hi, hz0, hz1, hz2⟩ := info_parts info_mark
  have hlt := h1.lt
  have c0 : w.cell? ⟨nb, 0, none⟩ = some (.bool true) := h1.cell 0
  have c1 : w.cell? ⟨nb, 1, none⟩ = some v := h1.cell 1
  have f1 : w.frozen? ⟨nb, 1, none⟩ = false := h1.free 1
  have Hi := Lib.hid hi
  have Hz0 := Lib.hid hz0
  have Hz1 := Lib.hid hz1
  have Hz2 := Lib.hid hz2
  have H1 := Lib.hid h1
  have H2 := Lib.hid h2
  clear h1 h2 hi hz0 hz1 hz2
  walk_nrmf Try.f118
  go_wp2_with fail
  obtain ⟨wa, hwa⟩ : ∃ wa : World, wa = w.alloc (Obj.cells #[Value.int IntKind.u8 op, Value.int IntKind.i64 wd] 118) := ⟨_, rfl⟩
  have c0a : wa.cell? ⟨nb, 0, none⟩ = some (.bool true) := by rw [hwa]; exact (H1.out.alloc _).cell 0
  have H1a : Row wa nb #[Value.bool true, v] 128 := by rw [hwa]; exact H1.out.alloc _
  have c1a : wa.cell? ⟨nb, 1, none⟩ = some v := H1a.cell 1
  have m0 : wa.cell? ⟨w.heap.size, 0, none⟩ = some (.int .u8 op) := by rw [hwa]; exact (Row.new w _ _).cell 0
  have m1 : wa.cell? ⟨w.heap.size, 1, none⟩ = some (.int .i64 wd) := by rw [hwa]; exact (Row.new w _ _).cell 1
  have ha : wa.ownsRow (nb + 1) 118 2 v L.length (mks L) := by rw [hwa]; exact H2.out.alloc _
  have sa : Sm (fun b => nb ≤ b) w wa := by rw [hwa]; exact (Sm.refl _ _).alloc _
  have za : nb + 1 ≤ wa.heap.size := by rw [hwa, World.size_alloc]; omega
  rw [← hwa]
  have HA := Lib.hid ha
  have H1A := Lib.hid H1a
  clear hwa c0 c1 f1 ha H1a
  have hone : ∀ u ∈ [Value.int .u8 op, Value.int .i64 wd], u.oneCell' = true := by simp [Value.oneCell']
  have c1b : (wa.alloc (Obj.cells #[Value.int IntKind.u8 op, Value.int IntKind.i64 wd] 118)).cell? ⟨nb, 1, none⟩ = some v := (H1A.out.alloc _).cell 1
  go_region_law (refine step_append_own rfl (.tmp 16) (.tmp 18) 63 rfl (nb + 1) 118 i0 (.agg #[.int .u8 0, .int .i64 0]) 2 16 Try.underlying63 Hi.out Hz0.out Hz1.out Hz2.out rfl (by decide) v L.length (mks L) (by simp [Act.eval]) (HA.out.drew.alloc _) ⟨wa.heap.size, 0, none⟩ 1 1 [.int .u8 op, .int .i64 wd] (by simp [Act.eval]) rfl (new_cells wa.drew [.int .u8 op, .int .i64 wd] 118) hone (by unfold maxLen; omega) (by omega) (by simp; omega) ?_; intro v' w' hown' hg'; obtain ⟨g', cap', hv'⟩ := own_form hown' (by omega); subst hv'; have H1' := Lib.hid (((H1A.out.alloc _).drew).grown hg' (fun e => by have := (HA.out.lt nb e).1; omega)); have c1' : w'.cell? ⟨nb, 1, none⟩ = some v := H1'.out.cell 1; have f1' : w'.frozen? ⟨nb, 1, none⟩ = false := H1'.out.free 1)
  all_goals
    have H1' := Row.grown ((Row.alloc H1A.out _).drew) hg' (fun e => by have := (HA.out.lt nb e).1; omega)
    have hs' : Sm (fun b => nb ≤ b) wa w' := ((Sm.refl _ wa).alloc _).drew.trans (sm_grown hg' fun k e => by have := (HA.out.lt k e).1; omega)
    refine ⟨rfl, ⟨_, H1'.set 1 _, ?_⟩, sa.trans (hs'.setCell (Nat.le_refl _) _)⟩
    rw [mks_snoc, List.length_append]
    exact ownsRow_setCell_below hown' (by simp) _
/-- A gate at block nb that has been told L. -/
def NoteAt (nb : Nat) (L : List (Int × Int)) (u : World) : Prop := nb < u.heap.size ∧ Noted nb u L
instance ho_noteAt {nb : Nat} {L : List (Int × Int)} : HO (NoteAt nb L) := by
  have h1 : HO fun u : World => nb < u.heap.size := ho_size (p := fun k => nb < k)
  exact ho_and
def noteGate (nb : Nat) : Value := .iface 61 (.pointer (some ⟨nb, 0, none⟩))
set_option maxRecDepth 100000 in
set_option maxHeartbeats 1600000 in
/-- The gate that writes down. -/
theorem gateNote {J : Job} {M : World → Prop} {nb : Nat} (hm : HO M) (hf : ∀ a b, J.foot a b → b < nb) (hk : ∀ (a : J.St) (u u' : World), J.Rep a u → Sm (J.foot a) u u' → M u → M u') (hn : ∀ u u' : World, Sm (fun b => nb ≤ b) u u' → nb < u.heap.size → M u → M u') : Gate0 J W x (noteGate nb) (NoteAt nb) M where
  hg := fun _ => inferInstance
  hm := hm
  keep := fun a L u u' h1 h2 h3 => ⟨⟨Nat.lt_of_lt_of_le h3.1.1 h2.size, h3.1.2.sm h2 fun b hb hfb => by have := hf a b hfb; omega⟩, hk a u u' h1 h2 h3.2⟩
  step := fun w a L m Q hL h hq => by
    have O := envL_ok (W := W)
    refine cpsC_body O Try.func46 rfl ?_
    simp only [Try.ntmps46]
    refine cps_opaque fun Q' hQ => ?_
    unfold noteGate
    walk_nrm
    repeat refine cps_seq O ?_
    (refine cps_region O ?_; simp only [List.size_toArray, List.length_cons, List.length_nil, Nat.reduceAdd, Nat.zero_add, List.range, List.range.loop])
    refine valE O rfl (.iface 61 (.pointer (some ⟨nb, 0, none⟩))) rfl rfl (fun _ => by simp [go_sem]) (fun _ => by go_simp; try (first | rfl | (simp [*]))) ?_; try walk_nrm
    refine opK h (.bool true) rfl (by kernel_rfl) rfl (fun u hu _ => ⟨u, .inl (by go_simp), hu⟩) fun w1 h1 _ => ?_
    try walk_nrm
    refine cpsR_nil O ?_
    show cps _ _ _ _ _ _
    refine cps_cond O (v := true) rfl ?_
    simp only [if_true]
    (refine cps_region O ?_; simp only [List.size_toArray, List.length_cons, List.length_nil, Nat.reduceAdd, Nat.zero_add, List.range, List.range.loop])
    refine valE O rfl (.iface 61 (.pointer (some ⟨nb, 0, none⟩))) rfl rfl (fun _ => by simp [go_sem]) (fun _ => by go_simp; try (first | rfl | (simp [*]))) ?_; try walk_nrm
    refine valE O rfl (.int .u8 m.1) rfl rfl (fun _ => by simp [go_sem]) (fun _ => by go_simp; try (first | rfl | (simp [*]))) ?_; try walk_nrm
    refine valE O rfl (.int .i64 m.2) rfl rfl (fun _ => by simp [go_sem]) (fun _ => by go_simp; try (first | rfl | (simp [*]))) ?_; try walk_nrm
    refine valE O rfl (markV m) rfl rfl (fun _ => by simp [go_sem]) (fun _ => by go_simp; try (first | rfl | (simp [*]))) ?_; try walk_nrm
    refine cpsR_enter O (f := 118) (args := #[.pointer (some ⟨nb, 0, none⟩), markV m]) rfl rfl (fun w₁ _ => ⟨#[], ?_, O.still _ _⟩) ?_
    · rw [show (envL W).P = Try.prog from rfl, Sem.runT_eq]
      have hn0 := fun args w => run_callF (f := 118) Try.func118 (by kernel_rfl) rfl args w
      have hn1 := fun args w es => ev_callF (f := 118) Try.func118 (by kernel_rfl) rfl args w es
      have hr := fun k => note_run k nb
      have he := fun k => note_ev k nb
      refine Prod.ext ?_ ?_
      · simp [go_sem, execOp, Act.eval, hr, hn0, markV]
      · simp [go_sem, execOp, Act.eval, hr, he, hn0, hn1, markV]
    · refine cpsC_body O Try.func118 rfl ?_
      simp only [Try.ntmps118]
      have := hm
      refine aloneK (M' := fun _ u => J.Rep a u ∧ NoteAt nb (L ++ [m]) u ∧ M u) h1 (by kernel_rfl) (fun u hu => ?_) fun t' w' h' _ => ?_
      · refine wp_mono (note_body nb m.1 m.2 u L hL hu.2.1.2) fun e a' u' q => ?_
        cases e with
        | normal =>
          obtain ⟨q1, q2, q3⟩ := q
          refine ⟨q1, J.frame a u u' (fun b hb => ?_) hu.1, ⟨Nat.lt_of_lt_of_le hu.2.1.1 q3.size, q2⟩, hn u u' q3 hu.2.1.1 hu.2.2⟩
          have := hf a b hb
          exact q3.block b (by have := hu.2.1.1; omega) (by omega)
        | _ => exact q.elim
      · refine ⟨.inl rfl, .tuple #[], ret0E O rfl rfl, ?_⟩
        refine cpsR_nil O ?_
        exact hQ _ _ _ _ ⟨.inl rfl, .tuple #[], ret0E O rfl rfl, hq w' h'⟩
end
section
variable {G : List (Int × Int) → World → Prop} {M : World → Prop}
theorem fin_at {J : Job} {x' : LX} {f : J.St × J.Res × List (Int × Int)} {m' : LX} {k' : Nat} {a' : J.St} {r : J.Res} {w' : World} (h : AtG J x' G M f m' k' a' (a', .inr r) w') : m' = x' ∧ a' = f.1 ∧ r = f.2.1 ∧ Kn x' (fun u => J.Rep f.1 u ∧ G f.2.2 u ∧ M u) w' := by
  obtain ⟨rfl, L', h1, _, h3⟩ := h
  rw [Job.fin_inr] at h1
  obtain rfl := Option.some.inj h1
  exact ⟨rfl, rfl, rfl, h3⟩
end
end Go.Proofs.Ytdedmmjmiakidaa
/- Plain words: what stays where memory grows; what is known behind a play. No condition. -/
namespace Go.Proofs.Ytdedmmjmiakidaa
open Go.Conc Go.RowKit
/-- Memory has grown: what was there stands. -/
structure Gr (u u' : World) : Prop where
  size : u.heap.size ≤ u'.heap.size
  block : ∀ b, b < u.heap.size → u'.heap[b]? = u.heap[b]?
  os : u'.os = u.os
  out : u'.output = u.output
theorem Gr.refl (u : World) : Gr u u := ⟨Nat.le_refl _, fun _ _ => rfl, rfl, rfl⟩
theorem Gr.trans {a b c : World} (h : Gr a b) (k : Gr b c) : Gr a c := ⟨Nat.le_trans h.size k.size, fun x hx => (k.block x (Nat.lt_of_lt_of_le hx h.size)).trans (h.block x hx), k.os.trans h.os, k.out.trans h.out⟩
theorem Gr.of_sm {F : Nat → Prop} {w u u' : World} (h : Gr w u) (k : Sm F u u') (hF : ∀ b, F b → w.heap.size ≤ b) : Gr w u' :=
  ⟨Nat.le_trans h.size k.size, fun x hx => (k.block x (Nat.lt_of_lt_of_le hx h.size) (fun hf => by have := hF x hf; omega)).trans (h.block x hx), k.os.trans h.os, k.output.trans h.out⟩
theorem Gr.of_sm0 {F : Nat → Prop} {u u' : World} (k : Sm F u u') (hF : ∀ b, F b → u.heap.size ≤ b) : Gr u u' := (Gr.refl u).of_sm k hF
theorem Gr.of_below {u u' : World} (k : Below u.heap.size u u') : Gr u u' := ⟨k.size, k.block, k.os, k.output⟩
/-- .. so does this. -/
class GM (M : World → Prop) : Prop where
  keep : ∀ u u' : World, Gr u u' → M u → M u'
instance (priority := low) gm_ho {M : World → Prop} [GM M] : HO M := ⟨fun u u' h1 h2 h3 q => GM.keep u u' ⟨by rw [h1]; exact Nat.le_refl _, fun b _ => by rw [h1], h2, h3⟩ q⟩
instance gm_and {A B : World → Prop} [GM A] [GM B] : GM fun u => A u ∧ B u := ⟨fun u u' h q => ⟨GM.keep u u' h q.1, GM.keep u u' h q.2⟩⟩
instance gm_ex {α : Sort _} {A : α → World → Prop} [h : ∀ x, GM (A x)] : GM fun u => ∃ x, A x u := ⟨fun u u' e q => q.imp fun x hx => (h x).keep u u' e hx⟩
instance gm_const {p : Prop} : GM fun _ => p := ⟨fun _ _ _ q => q⟩
instance gm_row {b : Nat} {c : Array Value} {t : TypeId} : GM fun u => Row u b c t := ⟨fun u u' h q => by
  have := h.block b q.lt
  unfold Row at *
  rw [this]; exact q⟩
instance gm_own {b : Nat} {e : TypeId} {s : Nat} {v : Value} {n : Nat} {xs : List Value} : GM fun u => u.ownsRow b e s v n xs := ⟨fun u u' h q => ownsRow_of q fun c hc => h.block c (q.lt c hc).2⟩
instance gm_gr {w : World} : GM fun u => Gr w u := ⟨fun _ _ h q => q.trans h⟩
instance gm_rep {J : Job} {a : J.St} : GM (J.Rep a) := ⟨fun u u' h q => J.frame a u u' (fun b hb => by
  obtain ⟨o, ho, _⟩ := J.real a u b q hb
  exact h.block b (Array.getElem?_eq_some_iff.1 ho).1) q⟩
/-- What was known ahead of a call that has taken memory since. -/
def Since (B : Nat) (M : World → Prop) (u : World) : Prop := ∃ u0, M u0 ∧ Gr u0 u ∧ u0.heap.size = B
instance ho_since {B : Nat} {M : World → Prop} : HO (Since B M) := ⟨fun u u' h1 h2 h3 q => by
  obtain ⟨u0, q1, q2, q3⟩ := q
  exact ⟨u0, q1, q2.trans ⟨by rw [h1]; exact Nat.le_refl _, fun b _ => by rw [h1], h2, h3⟩, q3⟩⟩
theorem Since.now {B : Nat} {M : World → Prop} [GM M] {u : World} (h : Since B M u) : M u := by
  obtain ⟨u0, q1, q2, q3⟩ := h
  exact GM.keep u0 u q2 q1
theorem Since.sm {B : Nat} {M : World → Prop} {F : Nat → Prop} {u u' : World} (h : Since B M u) (k : Sm F u u') (hF : ∀ b, F b → B ≤ b) : Since B M u' := by
  obtain ⟨u0, q1, q2, q3⟩ := h
  exact ⟨u0, q1, q2.of_sm k (by rw [q3]; exact hF), q3⟩
section
variable {W : Machine → Trace → Prop} {x : LX} {M : World → Prop} {w : World} {Q : LX → Value → World → Prop}
theorem Kn.since (h : Kn x M w) : Kn x (Since w.heap.size M) w := ⟨h.real, fun u hu => ⟨u, h.on u hu, Gr.refl u, hu.size⟩⟩
end
instance gm_core {Y : Core} {a : Y.Full} : GM (Y.Rep a) := ⟨fun u u' h q => Y.frame a u u' (fun b hb => by
  obtain ⟨o, ho, _⟩ := Y.real a u b q hb
  exact h.block b (Array.getElem?_eq_some_iff.1 ho).1) q⟩
instance gm_or {A B : World → Prop} [GM A] [GM B] : GM fun u => A u ∨ B u := ⟨fun u u' h q => q.imp (GM.keep u u' h) (GM.keep u u' h)⟩
instance gm_noted {nb : Nat} {L : List (Int × Int)} : GM fun u => Noted nb u L := by unfold Noted; infer_instance
instance gm_noteAt {nb : Nat} {L : List (Int × Int)} : GM (NoteAt nb L) := ⟨fun u u' h q => ⟨Nat.lt_of_lt_of_le q.1 h.size, gm_noted.keep u u' h q.2⟩⟩
instance gm_since {B : Nat} {M : World → Prop} : GM (Since B M) := ⟨fun u u' k q => by obtain ⟨u0, q1, q2, q3⟩ := q; exact ⟨u0, q1, q2.trans k, q3⟩⟩
open Go.ConcR (WgAt wgBlock)
section
variable {Y : Core} {M : World → Prop} {B : Nat} {w w' : World} {o₀ : Own} {Wg B0 N : Nat} {a : Y.Full} {tr : List Turned} {vt : Value}
instance ho_core {a : Y.Full} : HO (Y.Rep a) := ⟨fun u u' h _ _ q => Y.frame a u u' (fun b _ => by rw [h]) q⟩
/-- What is known behind a play. -/
theorem Played.kn (h : Played Y Wg B0 o₀ a tr vt w') (hs : Since B M w) (hB : B ≤ Wg) (ho : ∀ b, b < B → o₀ b = w.heap[b]?) (hos : w.os = o₀.os ∧ w.output = o₀.out) (hsz : w.heap.size ≤ w'.heap.size) :
    Kn ⟨some Wg, N⟩ (fun u => Y.Rep a u ∧ u.ownsRow B0 tTurned 3 vt tr.length (tr.flatMap turnCells) ∧ Since B M u) w' := by
  refine ⟨fun b hb => ?_, fun u hu => ?_⟩
  · obtain rfl : Wg = b := Option.some.inj hb
    obtain ⟨st, sm, hw⟩ := h.wg
    exact ⟨_, hw⟩
  · have hne : ∀ b, b ≠ Wg → u.heap[b]? = w'.heap[b]? := fun b hb => hu.heap b fun hF => hb (Option.some.inj hF).symm
    refine ⟨Y.frame a w' u (fun b hb => hne b (h.foot b hb).1) h.rep, ownsRow_of h.trace fun b e => hne b fun e2 => h.traceW (e2 ▸ e), ?_⟩
    obtain ⟨u0, q1, q2, q3⟩ := hs
    refine ⟨u0, q1, ⟨?_, fun b hb => ?_, ?_, ?_⟩, q3⟩
    · have := q2.size
      rw [hu.size]; omega
    · rw [hne b (by omega), ← q2.block b hb]
      have hlt : b < w.heap.size := Nat.lt_of_lt_of_le hb q2.size
      have e1 : w.heap[b]? = some w.heap[b] := Array.getElem?_eq_getElem hlt
      rw [e1]
      exact h.old b _ (by rw [ho b (by omega)]; exact e1)
    · exact hu.os.trans (h.os.trans (hos.1.symm.trans q2.os))
    · exact hu.output.trans (h.out.trans (hos.2.symm.trans q2.out))
end
section
variable {E : Env} {n : E.ι} {t : Array Value} {w : World} {Q : E.ι → Exit → Array Value → World → Prop}
/-- A loop's round. -/
def cpsL (E : Env) (c : Code) (Q : E.ι → Exit → Array Value → World → Prop) (n : E.ι) (t : Array Value) (w : World) : Prop :=
  ∀ (b : Frame) (k : List Item) (cs : List Frame), E.Fr b cs → (∀ n', E.le n' n → ∀ e t' w', Q n' e t' w' → aft E n' b k cs e t' w') → E.Go n (G (b.at ⟨t, []⟩ (.code c :: .inLoop c :: k)) cs) w
def loopQ (E : Env) (c : Code) (Q : E.ι → Exit → Array Value → World → Prop) : E.ι → Exit → Array Value → World → Prop
  | n, .normal, t, w => cpsL E c Q n t w
  | n, e, t, w => Q n e t w
theorem cps_loop_of (O : E.Ok) {c : Code} (h : cpsL E c Q n t w) : cps E (.loop c) Q n t w := fun b k cs hf hk => O.step1 rfl (fun _ => stepG_loop) (h b k cs hf hk)
theorem cpsL_step (O : E.Ok) {c : Code} (h : cps E c (loopQ E c Q) n t w) : cpsL E c Q n t w := fun b k cs hf hk => by
  refine h b (.inLoop c :: k) cs hf fun n' hn e t' w' q => ?_
  cases e with
  | normal => exact O.step1 rfl (fun _ => stepG_inLoop) (q b k cs hf fun n'' hn' => hk n'' (O.ltrans _ _ _ hn' hn))
  | exit id => exact (hk n' hn _ _ _ q).imp fun k' h => ⟨by simpa [exitTo] using h.1, h.2⟩
  | ret => exact fun todo => hk n' hn _ _ _ q todo
  | _ => trivial
end
end Go.Proofs.Ytdedmmjmiakidaa
/- From a walk of a law, alone, to its row: the law's row says 'leaving', and a call that starts no goroutine leaves none. -/
namespace Go.Proofs.Ytdedmmjmiakidaa
open Go.ChangeShapes Go.WideShapes Go.ChangeAt Go.RowKit Go.Deep
set_option linter.unusedVariables false

section
variable {H : Type} {enc : TypeId × Value → H}

/-- Each argument reads as it did, where nothing that was there has turned. -/
theorem trodAll_below {P : Program} (hl : laidOutB P = true) {W W' : World} (hb : Below W.heap.size W W') : ∀ (ts : List TypeId) (vs : List Value) (ds : List (DataW H)) (ps : List MemPlace),
    (∀ t ∈ ts, P.readableRec t = true ∧ t < P.types.size) → DataW.TrodAll enc P W 0 (fun _ => true) true ts vs ds ps → (∀ x ∈ ps, x.block < W.heap.size) →
    DataW.TrodAll enc P W' 0 (fun b => decide (b < W.heap.size)) true ts vs ds ps := by
  intro ts
  induction ts with
  | nil =>
    intro vs ds ps _ h _
    obtain ⟨rfl, rfl, rfl⟩ := trodAll_nil h
    exact trodAll_mk0
  | cons t ts ih =>
    intro vs ds ps ht h hlt
    obtain ⟨v, vs', d, ds', p, q, rfl, rfl, rfl, h1, h2⟩ := trodAll_cons h
    obtain ⟨r1, r2⟩ := ht t (by simp)
    exact trodAll_cons_mk (Below.trod hl r1 r2 h1 hb (fun x hx => hlt x (by simp [hx]))) (ih vs' ds' q (fun t' ht' => ht t' (by simp [ht'])) h2 (fun x hx => hlt x (by simp [hx])))

/-- What a law's row asks behind the call: true; the arguments as they were. -/
theorem law_post {P : Program} {f : Func} {s : ChangeSpec} (hl : laidOutB P = true) (hts : ∀ t ∈ f.params.toList, P.readableRec t = true ∧ t < P.types.size) (hv : s.vars = []) {tb : TypeId} (hres : f.resultTypes = #[tb]) (hbool : P.underlying tb = some .bool)
    {W W' : World} {args : Array Value} {ds gs : List (DataW H)} {before : List MemPlace} (hW : DataW.Whole enc P f.params.toList s.vars false W args.toList ds gs before)
    (hspec : s.fn H (ds ++ []) = { results := [.lit (.bool true)], args := ds }) (hb : Below W.heap.size W W') : s.post enc P f false true false false W args (.bool true) W' := by
  have hlt : ∀ p ∈ before, p.block < W.heap.size := fun p hp => hW.lt p hp
  have hW2 := hW
  obtain ⟨p, q, hA, hV, rfl, hfz, hnd⟩ := hW2
  rw [hv] at hV
  obtain ⟨rfl, rfl⟩ := trodVars_none hV
  refine ⟨ds, [], p ++ [], [], p, [], hW, ?_, ?_, ?_, hb.frame _, fun h => by cases h⟩
  · rw [hspec, hres]
    exact trodAll_mk1 (shut_bool hbool true)
  · rw [hspec]
    exact trodAll_below hl hb _ _ _ _ hts hA (fun x hx => hlt x (by simp [hx]))
  · rw [hspec, hv]
    rfl
end

theorem plain_at {w : World} {a : Addr} {i : Nat} {v : Value} (h0 : ∃ u, w.cell? (a.add 0) = some u) (h : w.cell? (a.add i) = some v) : ∃ b off, a = ⟨b, off, none⟩ ∧ b < w.heap.size ∧ w.cell? ⟨b, off + i, none⟩ = some v := by
  obtain ⟨u, hu⟩ := h0
  have e0 : a.add 0 = a := by simp [Addr.add]
  rw [e0] at hu
  obtain ⟨b, off, sp⟩ := a
  have hsp : sp = none := by
    unfold World.cell? at hu
    split at hu
    · split at hu
      · cases hu
      · rename_i hs
        simpa using hs
    · cases hu
  subst hsp
  have hb : b < w.heap.size := by
    unfold World.cell? at hu
    split at hu
    · rename_i hh
      exact (Array.getElem?_eq_some_iff.1 hh).1
    · cases hu
  refine ⟨b, off, rfl, hb, ?_⟩
  have : (⟨b, off, none⟩ : Addr).add i = ⟨b, off + i, none⟩ := by
    unfold Addr.add
    split <;> simp_all
  rw [← this]
  exact h

section
variable {H : Type} {enc : TypeId × Value → H}

theorem open_bools_arg {P : Program} {t e : TypeId} (ht : P.underlying t = some (.slice e)) (he : P.underlying e = some .bool) (hc : P.cellsOf e = 1) {W : World} {b0 : Nat} {v : Value} {d : DataW H} {p : List MemPlace}
    (hok : Value.okWide P W .any b0 t v) (h : DataW.Trod enc P W 0 (fun _ => true) true t v d p) :
    ∃ a len cap, ∃ bs : Nat → Bool, v = .slice a len cap ∧ len ≤ 9223372036854775807 ∧ ∀ j, j < len → ∃ b off, a = some ⟨b, off, none⟩ ∧ b < W.heap.size ∧ W.cell? ⟨b, off + j, none⟩ = some (.bool (bs j)) := by
  obtain ⟨a0, len, cap, rfl⟩ := okWide_slice ht hok
  obtain ⟨fuel, hf⟩ := h
  rcases open_bools ht he hc hf with ⟨hcs, hx⟩ | ⟨a, len', cap', B, hcs, _, hl, hm, hx, hcell⟩
  · simp [Value.cells] at hcs
    obtain ⟨rfl, rfl, rfl⟩ := hcs
    exact ⟨none, 0, 0, fun _ => false, rfl, by omega, fun j h => absurd h (by omega)⟩
  · simp [Value.cells] at hcs
    obtain ⟨rfl, rfl, rfl⟩ := hcs
    refine ⟨some a, len, cap, B, rfl, by unfold maxLen at hm; omega, fun j hj => ?_⟩
    obtain ⟨b, off, rfl, h1, h2⟩ := plain_at ⟨_, hcell 0 (by omega)⟩ (hcell j (by omega))
    exact ⟨b, off, rfl, h1, h2⟩

theorem open_u64s_arg {P : Program} {t e : TypeId} (ht : P.underlying t = some (.slice e)) (he : P.underlying e = some (.int .u64)) (hc : P.cellsOf e = 1) {W : World} {b0 : Nat} {v : Value} {d : DataW H} {p : List MemPlace}
    (hok : Value.okWide P W .any b0 t v) (h : DataW.Trod enc P W 0 (fun _ => true) true t v d p) :
    ∃ a len cap, ∃ ns : Nat → Nat, v = .slice a len cap ∧ len ≤ 9223372036854775807 ∧ (∀ j, j < len → ns j < 18446744073709551616) ∧ ∀ j, j < len → ∃ b off, a = some ⟨b, off, none⟩ ∧ b < W.heap.size ∧ W.cell? ⟨b, off + j, none⟩ = some (.int .u64 (ns j : Int)) := by
  obtain ⟨a0, len, cap, rfl⟩ := okWide_slice ht hok
  obtain ⟨fuel, hf⟩ := h
  rcases open_ints ht he hc hf with ⟨hcs, hx⟩ | ⟨a, len', cap', zs, hcs, _, hl, hm, hz, hx, hcell, hwz⟩
  · simp [Value.cells] at hcs
    obtain ⟨rfl, rfl, rfl⟩ := hcs
    exact ⟨none, 0, 0, fun _ => 0, rfl, by omega, fun j h => absurd h (by omega), fun j h => absurd h (by omega)⟩
  · simp [Value.cells] at hcs
    obtain ⟨rfl, rfl, rfl⟩ := hcs
    simp only [if_true] at hz
    have hbd : ∀ j, j < zs.length → 0 ≤ zs.getD j 0 ∧ zs.getD j 0 < 18446744073709551616 := by
      intro j hj
      have := hwz _ (List.getElem_mem hj)
      have e : zs.getD j 0 = zs[j] := by simp [List.getD, hj]
      rw [e]
      simp [Lit.wf, IntKind.min, IntKind.max, IntKind.signed, IntKind.bits] at this
      omega
    refine ⟨some a, len, cap, fun j => (zs.getD j 0).toNat, rfl, by unfold maxLen at hm; omega, fun j hj => by have := hbd j (by omega); show (zs.getD j 0).toNat < _; omega, fun j hj => ?_⟩
    obtain ⟨b, off, rfl, h1, h2⟩ := plain_at ⟨_, hcell 0 (by omega)⟩ (hcell j (by omega))
    refine ⟨b, off, rfl, h1, ?_⟩
    have := hbd j (by omega)
    rw [h2, Int.toNat_of_nonneg this.1]
end

/-- A call that starts no goroutine leaves none behind. -/
theorem leaving_of_handed {a : Assume} {C : Checked} {os : Os} {f : FuncId} {r : Reach} {Pre : World → Array Value → Prop} {Post : World → Array Value → Value → World → Prop}
    (h : ReturnsInHanded a C os f r Pre Post) : ReturnsInLeavingWide a C os f r Pre Post := fun enter =>
  ReturnsInOpen.mono (fun m w t ⟨⟨hq, ht⟩, hh, he⟩ => ⟨hh, ⟨fun g hg => ⟨0, by
    unfold Machine.othersDone at hq
    rw [List.all_eq_true] at hq
    have := hq g hg
    simpa [Goroutine.LeavesIn] using this⟩, ht⟩, he⟩) (fun _ x => x) (h enter)

theorem laid_out : laidOutB Try.prog = true := by kernel_rfl
theorem readable_of (ts : List TypeId) (h : (ts.all fun t => Try.prog.readableRec t && decide (t < Try.prog.types.size)) = true) : ∀ t ∈ ts, Try.prog.readableRec t = true ∧ t < Try.prog.types.size := by
  intro t ht
  rw [List.all_eq_true] at h
  have := h t ht
  simpa using this
theorem own_knob : ownKnob Try.prog.godebug = none := by kernel_rfl
end Go.Proofs.Ytdedmmjmiakidaa
/- Plain words: from a law's good run to what its row asks. No condition. -/
namespace Go.Proofs.Ytdedmmjmiakidaa
open Go.Conc Go.RowKit Go.ChangeShapes Go.WideShapes Go.ChangeAt Go.Deep
section
variable {H : Type} {enc : TypeId × Value → H}
theorem law_post_gr {P : Program} {f : Func} {s : ChangeSpec} (hl : laidOutB P = true) (hts : ∀ t ∈ f.params.toList, P.readableRec t = true ∧ t < P.types.size) (hv : s.vars = []) {tb : TypeId} (hres : f.resultTypes = #[tb]) (hbool : P.underlying tb = some .bool)
    {W W' : World} {args : Array Value} {ds gs : List (DataW H)} {before : List MemPlace} (hW : DataW.Whole enc P f.params.toList s.vars false W args.toList ds gs before)
    (hspec : s.fn H (ds ++ []) = { results := [.lit (.bool true)], args := ds }) (hg : Gr W W') : s.post enc P f false true false false W args (.bool true) W' := by
  have hb : Below W.heap.size W { W' with tape := W.tape } := ⟨hg.os, rfl, hg.out, hg.size, hg.block⟩
  have hlt : ∀ p ∈ before, p.block < W.heap.size := fun p hp => hW.lt p hp
  have hW2 := hW
  obtain ⟨p, q, hA, hV, rfl, hfz, hnd⟩ := hW2
  rw [hv] at hV
  obtain ⟨rfl, rfl⟩ := trodVars_none hV
  refine ⟨ds, [], p ++ [], [], p, [], hW, ?_, ?_, ?_, ?_, fun h => by cases h⟩
  · rw [hspec, hres]
    exact trodAll_mk1 (shut_bool hbool true)
  · rw [hspec]
    exact DataW.TrodAll.of_heap (w := { W' with tape := W.tape }) (w' := W') rfl (trodAll_below hl hb _ _ _ _ hts hA (fun x hx => hlt x (by simp [hx])))
  · rw [hspec, hv]
    rfl
  · have hk := hb.frame fun p_1 => p_1 ∈ p ++ [] ∧ (p_1 ∈ [] ∨ p_1 ∈ p ∨ p_1 ∈ [])
    unfold World.keptBut at hk ⊢
    exact hk
end
end Go.Proofs.Ytdedmmjmiakidaa
/- patchbayref00.Within, walked alone. -/
namespace Go.Proofs.Ytdedmmjmiakidaa
open Go.RowKit
set_option linter.unusedVariables false

/-- The number from 0 to n - 1 that Within gives. -/
def wi (i n : Int) : Nat := (if i.tmod n < 0 then i.tmod n + n else i.tmod n).toNat
theorem wi_lt (i n : Int) (h0 : 0 < n) : (wi i n : Int) < n := by
  unfold wi
  have h1 : -n < i.tmod n := by have := Int.lt_tmod_of_pos i h0; omega
  have h2 := Int.tmod_lt_of_pos i h0
  split <;> omega

theorem within_c (i n : Int) (h0 : 0 < n) (h1 : n < 1000000) (w : World) :
    Calls Try.prog 26 #[.int .i64 i, .int .i64 n] w fun e w' => e = .returned (.int .i64 (wi i n)) ∧ w = w' := by
  have hb : -n < i.tmod n ∧ i.tmod n < n := by
    constructor
    · have := Int.lt_tmod_of_pos i h0; omega
    · exact Int.tmod_lt_of_pos i h0
  obtain ⟨hb1, hb2⟩ := hb
  have hn : (n == 0) = false := by simp; omega
  have hw : (wi i n : Int) = if i.tmod n < 0 then i.tmod n + n else i.tmod n := by
    unfold wi
    split <;> omega
  have HW := Lib.hid hw
  clear hw
  go_enter Try.func26, Try.ntmps26
  go_wp2
  · have h : i.tmod n < 0 := by assumption
    go_ret
    exact ⟨by rw [HW.out, if_pos h]; rfl, rfl⟩
  · have h : 0 ≤ i.tmod n := by assumption
    go_ret
    exact ⟨by rw [HW.out, if_neg (by omega)]; rfl, rfl⟩
end Go.Proofs.Ytdedmmjmiakidaa
