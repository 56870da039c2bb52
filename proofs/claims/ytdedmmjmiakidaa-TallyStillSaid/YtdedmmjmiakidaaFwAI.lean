/- Plain words: goroutine 0 waits for the group. No condition. -/
import Derived.Test.YtdedmmjmiakidaaFwAH
import Derived.Conc.WgGenWait
import Derived.Laws.ResultCell
set_option linter.unusedVariables false
set_option linter.unusedSimpArgs false
/- Plain words: goroutine 0 waits for the group. No condition. -/
namespace Go.Proofs.Ytdedmmjmiakidaa
open Go.Conc Go.RowKit Go.Conc.Lib Go.ConcR.Gen Go.ConcN.Gen
open Go.ConcN (sumTo upd sumTo_upd upd_ne upd_same)
open Go.ConcR (KK wgBlock WgAt stA smA rd wr mk)
/-- At most so many are counted; how deaf it is; whether it has said that it waits; how many goroutines there are. -/
structure WX where
  m : Nat
  d : Nat
  b : Bool
  N : Nat
/-- From here all is well. -/
def StW (W : Machine → Trace → Prop) (Wg : Nat) (x : WX) (g : Goroutine) (w : World) : Prop :=
  ∀ ph gs T q, WB Try.prog tWg Wg (WgL Wg) x.m x.d x.b x.N ph gs T w q → gs[0]? = some g → Win W gs w T
noncomputable def envW (W : Machine → Trace → Prop) (Wg : Nat) : Env where
  P := Try.prog
  main := true
  R := RWg tWg Wg
  ι := WX
  D := fun _ => DH Wg (WgL Wg) (fun _ => True) (fun _ => False) (fun _ => False)
  le := fun _ _ => True
  St := fun x => StW W Wg x
  cs := fun _ => True
section
variable {W : Machine → Trace → Prop} {Wg : Nat} {x : WX} {w : World}
theorem envW_ok : (envW W Wg).Ok where
  rrefl := RWg.refl
  rtrans := RWg.trans
  lrefl := fun _ => trivial
  ltrans := fun _ _ _ _ _ => trivial
  still := fun n w => ⟨fun _ _ _ h => h, rfl, id, Nat.le_refl _, by simp⟩
  draw := fun n w => ⟨fun _ _ _ h => h, rfl, fun _ => trivial, Nat.le_refl _, by simp⟩
  rdraw := fun w w₁ h => RWg.trans _ _ _ h (RWg.at w₁ _)
  sub := fun n w w' es es' h hs => ⟨h.ch, h.wg, h.keep, h.size, fun e he => h.ev e (hs e he)⟩
  push := fun _ _ _ _ _ _ _ => trivial
theorem winW (hW : Back Try.prog W) (hm : x.m < 2147483647) {g : Goroutine} (h : (envW W Wg).Go x g w) : StW W Wg x g w := fun ph gs T q B hg => by
  have hmono : ∀ ph gs T w q m', sumTo x.N (cnt4 ph) ≤ m' → WB Try.prog tWg Wg (WgL Wg) x.m x.d x.b x.N ph gs T w q → WB Try.prog tWg Wg (WgL Wg) m' x.d x.b x.N ph gs T w q := fun ph gs T w q m' h B => ⟨B.size, B.idle, B.above, B.zero, B.past, B.deaf, B.wg, h⟩
  refine whold_walk hm hW (fun _ h => h) h ph gs T w q (RWg.refl w) B hg fun ph gs' a' w' T' q' hst B' ha' => hst ph gs' T' q' B' ha'
theorem goW {g : Goroutine} (h : ∀ w₁, RWg tWg Wg w w₁ → StW W Wg x g w₁) : (envW W Wg).Go x g w := GoesI.stop h
/-- A step that touches the group, or makes it deaf or hearing. -/
theorem opW (hW : Back Try.prog W) (hm : x.m < 2147483647) {a : Goroutine} (hr : a.status = .running)
    (k : ∀ w₁ ph st sm, RWg tWg Wg w w₁ → WgAt tWg Wg w₁ st sm → WMode x.N ph x.b st sm → sumTo x.N (cnt4 ph) ≤ x.m → ∃ a' w' es d' b' m', stepG Try.prog true a w₁ = .go a' w' es ∧ w₁.heap.size ≤ w'.heap.size ∧ (∃ st sm, WgAt tWg Wg w' st sm ∧ WMode x.N ph b' st sm) ∧ deafBehind x.d es = d' ∧ sumTo x.N (cnt4 ph) ≤ m' ∧ m' ≤ x.m ∧
      (∀ e ∈ es, (∀ y, (MemAct.ofEvent e).touch? = some y → WgL Wg y.loc → y.kind ≠ .plain) ∧ (MemAct.ofEvent e).low w'.heap.size) ∧ (envW W Wg).Go ⟨m', d', b', x.N⟩ a' w') : (envW W Wg).Go x a w := goW fun w0 hR0 ph gs T q B hg => by
  refine wop hm hW (fun _ h => h) hr hg B fun w₁ ph₁ st sm hR hwg hmode hfew => ?_
  obtain ⟨a', w', es, d', b', m', hst, hsz, hwg', hd, hm', hle, hev, hG⟩ := k w₁ ph₁ st sm (RWg.trans _ _ _ hR0 hR) hwg hmode hfew
  refine ⟨a', w', es, d', b', hst, hsz, hwg', hd, hev, fun gs' T' q' B' ha' => ?_⟩
  exact winW (x := ⟨m', d', b', x.N⟩) hW (Nat.lt_of_le_of_lt hle hm) hG ph₁ gs' T' q' ⟨B'.size, B'.idle, B'.above, B'.zero, B'.past, B'.deaf, B'.wg, hm'⟩ ha'
/-- A mark. -/
theorem markW (hW : Back Try.prog W) (hm : x.m < 2147483647) {a a' : Goroutine} (hr : a.status = .running) {es : Array Event} {d' : Nat} (hwg : ∃ st sm, WgAt tWg Wg w st sm) (hst : ∀ w₁, stepG Try.prog true a w₁ = .go a' w₁ es) (hd : deafBehind x.d es = d')
    (hev : ∀ n, Wg < n → ∀ e ∈ es, (∀ y, (MemAct.ofEvent e).touch? = some y → WgL Wg y.loc → y.kind ≠ .plain) ∧ (MemAct.ofEvent e).low n) (h : (envW W Wg).Go { x with d := d' } a' w) : (envW W Wg).Go x a w :=
  opW hW hm hr fun w₁ ph st sm hR hwg hmode hfew => ⟨a', w₁, es, d', x.b, x.m, hst w₁, Nat.le_refl _, ⟨st, sm, hwg, hmode⟩, hd, hfew, Nat.le_refl _, hev _ (Array.getElem?_eq_some_iff.1 hwg).1, GoesI.rely envW_ok.rtrans h hR⟩
/-- It sleeps until the last one has left. -/
theorem blockW (hW : Back Try.prog W) (hm : x.m < 2147483647) (hb : x.b = true) {a a' : Goroutine} (hoff : a.offers = none) (hrun : a.status = .running)
    (hwait : ∀ w₁ st, WgAt tWg Wg w₁ st 0 → stepG Try.prog true a w₁ = .go { a with status := .blocked } w₁ #[])
    (hgo : ∀ w₁, WgAt tWg Wg w₁ 0 1 → stepG Try.prog true a w₁ = .go a' (w₁.setCell (smA Wg) (.int .u32 0)) (semEvents (smA Wg)))
    (h : (envW W Wg).Go ⟨0, x.d, false, x.N⟩ a' w) : (envW W Wg).Go x a w := goW fun w0 hR0 ph gs T q B hg => by
  obtain ⟨m, d, b, N⟩ := x
  subst hb
  have h0 := GoesI.rely envW_ok.rtrans h hR0
  refine wblocked (w := w0) (a' := a') hm hW (fun _ h => h) hoff hrun (fun w₁ st _ hw => hwait w₁ st hw) (fun w₁ _ hw => hgo w₁ hw) (fun gs T w₁ q hR B ha => ?_) _ true ph gs T w0 q (RWg.refl _) (Nat.le_refl _) (by simp) B hg
  exact winW (x := ⟨0, d, false, N⟩) hW (show (0 : Nat) < 2147483647 by decide) (GoesI.rely envW_ok.rtrans h0 hR) _ gs T q ⟨B.size, B.idle, B.above, B.zero, B.past, B.deaf, B.wg, by rw [cnt4_none]; exact Nat.le_refl _⟩ ha
theorem goI_pureW {b : Frame} {a : Act} {k : List Item} {cs : List Frame} {ops : Array Oper} {i : Nat} {l : List Nat} {o : Oper} (ho : ops[i]? = some o) (hw : Region.wanted o (yielded ops a.tmps) = true) (hke : b.kind ≠ .early) (he : ∀ w₁, (execOp a.eval o).events Try.prog w₁ #[] = #[])
    (h : ∀ w₁, ∀ K' : Act → Prop, (∀ a', (envW W Wg).Go x (G (b.at a' (.inRegion ops l :: k)) cs) w → K' a') → uponK o a (fun a' w' => w' = w₁ ∧ K' a') ((execOp a.eval o).run Try.prog w₁)) : (envW W Wg).Go x (G (b.at a (.inRegion ops (i :: l) :: k)) cs) w :=
  goI_pure envW_ok ho hw hke he h
theorem callW {b : Frame} {a : Act} {k : List Item} {cs : List Frame} {ops : Array Oper} {i : Nat} {rest : List Nat} {o : Oper} {f : FuncId} {fn : Func} {c : Code} {args : Array Operand} {ats : Array TypeId}
    (ho : ops[i]? = some o) (hw : Region.wanted o (yielded ops a.tmps) = true) (hk : b.kind ≠ .early) (hop : o.op = .call { callee := .value (.func f), args, argTypes := ats })
    (hf : Try.prog.funcs[f]? = some fn) (hname : (fn.name == "runtime.NumGoroutine") = false) (hb : fn.body = some c)
    (h : (envW W Wg).Go x (G ((base f).at { tmps := args.map a.eval ++ Array.replicate (fn.ntmps - (args.map a.eval).size) undef, defers := [] } [.code c]) (b.at a (.inRegion ops (i :: rest) :: k) :: cs)) w) : (envW W Wg).Go x (G (b.at a (.inRegion ops (i :: rest) :: k)) cs) w := by
  refine envW_ok.step1 rfl (fun v => ?_) h
  have hg : (stepG Try.prog true (G (b.at a (.inRegion ops (i :: rest) :: k)) cs) v).goes (fun g' w' es => g' = G ((base f).at { tmps := args.map a.eval ++ Array.replicate (fn.ntmps - (args.map a.eval).size) undef, defers := [] } [.code c]) (b.at a (.inRegion ops (i :: rest) :: k) :: cs) ∧ w' = v ∧ es = #[]) :=
    goes_call ho hw hk hop hf hname hb ⟨rfl, rfl, rfl⟩
  show stepG Try.prog true _ v = _
  generalize stepG Try.prog true (G (b.at a (.inRegion ops (i :: rest) :: k)) cs) v = st at hg ⊢
  cases st with
  | go g' w' ev =>
    have hg : _ ∧ _ ∧ _ := hg
    obtain ⟨h1, h2, h3⟩ := hg
    rw [h1, h2, h3]
  | _ => exact hg.elim
theorem leave1W {b b₀ : Frame} {a a₀ : Act} {todo : List Item} {k : List Item} {cs : List Frame} {ops : Array Oper} {i : Nat} {rest : List Nat} {fn : Func} {t : Tmp} (hn : b.kind = .normal) (hd : a.defers = []) (hf : Try.prog.funcs[b.fn]? = some fn) (hr : fn.results = #[.tmp t])
    (h : (envW W Wg).Go x (G (b₀.at (a₀.put ((ops[i]?).bind (·.dst)) (a.tmps.getD t undef)) (.inRegion ops rest :: k)) cs) w) : (envW W Wg).Go x (G { b.at a todo with mode := .returning } (b₀.at a₀ (.inRegion ops (i :: rest) :: k) :: cs)) w := by
  refine envW_ok.step1 rfl (fun w => ?_) h
  show stepG Try.prog true _ w = _
  rw [stepG_leave hn hd hf (results_tmp hr _ _ w) (events_results_tmp hr _ _), Frame.finish_at]
theorem leave0W {b b₀ : Frame} {a a₀ : Act} {todo : List Item} {k : List Item} {cs : List Frame} {ops : Array Oper} {i : Nat} {rest : List Nat} {fn : Func} (hn : b.kind = .normal) (hd : a.defers = []) (hf : Try.prog.funcs[b.fn]? = some fn) (hr : fn.results = #[])
    (h : (envW W Wg).Go x (G (b₀.at (a₀.put ((ops[i]?).bind (·.dst)) (.tuple #[])) (.inRegion ops rest :: k)) cs) w) : (envW W Wg).Go x (G { b.at a todo with mode := .returning } (b₀.at a₀ (.inRegion ops (i :: rest) :: k) :: cs)) w := by
  refine envW_ok.step1 rfl (fun w => ?_) h
  show stepG Try.prog true _ w = _
  rw [stepG_leave hn hd hf (results_none hr _ _ w) (events_results_none hr _ _), Frame.finish_at]
theorem goI_wgW (hwg : ∃ st sm, WgAt tWg Wg w st sm) {b : Frame} {a : Act} {k : List Item} {cs : List Frame} {ops : Array Oper} {i : Nat} {l : List Nat} {o : Oper} {v : Value} (ho : ops[i]? = some o) (hw : Region.wanted o (yielded ops a.tmps) = true) (hke : b.kind ≠ .early)
    (he : ∀ w₁ st sm, WgAt tWg Wg w₁ st sm → (execOp a.eval o).events Try.prog w₁ #[] = #[]) (hr : ∀ w₁ st sm, WgAt tWg Wg w₁ st sm → (execOp a.eval o).run Try.prog w₁ = .ok (.value v) w₁)
    (h : (envW W Wg).Go x (G (b.at (a.put o.dst v) (.inRegion ops l :: k)) cs) w) : (envW W Wg).Go x (G (b.at a (.inRegion ops (i :: l) :: k)) cs) w := by
  refine GoesI.one rfl fun w₁ hR => ?_
  obtain ⟨st1, sm1, hw1⟩ := (show RWg tWg Wg w w₁ from hR).wg hwg
  refine ⟨_, w₁, _, stepG_value ho hw hke (hr w₁ st1 sm1 hw1), ?_, GoesI.rely envW_ok.rtrans h hR⟩
  have : Go.Conc.listed Try.prog b.fn a o w₁ = #[] := by unfold Go.Conc.listed; rw [he w₁ st1 sm1 hw1, seen_none]
  show (envW W Wg).D x w₁ w₁ (Go.Conc.listed Try.prog b.fn a o w₁)
  rw [this]
  exact envW_ok.still _ _
theorem evw_mark {n : Nat} {m : Mark} (hm : (MemAct.ofEvent (mk m)).touch? = none) (hl : (MemAct.ofEvent (mk m)).low n) : ∀ e ∈ #[mk m], (∀ x, (MemAct.ofEvent e).touch? = some x → WgL Wg x.loc → x.kind ≠ .plain) ∧ (MemAct.ofEvent e).low n := by
  intro e he
  simp only [List.mem_toArray, List.mem_cons, List.not_mem_nil, or_false] at he
  subst he
  exact ⟨fun x hx => (by rw [hm] at hx; cases hx), hl⟩
theorem evw_write {n : Nat} (hn : Wg < n) : ∀ e ∈ #[mk (.write ⟨Wg, 1, none⟩)], (∀ x, (MemAct.ofEvent e).touch? = some x → WgL Wg x.loc → x.kind ≠ .plain) ∧ (MemAct.ofEvent e).low n := by
  intro e he
  simp only [List.mem_toArray, List.mem_cons, List.not_mem_nil, or_false] at he
  subst he
  refine ⟨fun x hx => ?_, ?_⟩
  · simp [mk, MemAct.ofEvent, MemAct.touch?] at hx
    try subst hx
    exact fun _ => by simp
  · first | exact hn | trivial
theorem evw_rd {n : Nat} (hn : Wg < n) : ∀ e ∈ #[rd (stA Wg)], (∀ x, (MemAct.ofEvent e).touch? = some x → WgL Wg x.loc → x.kind ≠ .plain) ∧ (MemAct.ofEvent e).low n := by
  intro e he
  simp only [List.mem_toArray, List.mem_cons, List.not_mem_nil, or_false] at he
  subst he
  refine ⟨fun x hx => ?_, hn⟩
  simp [rd, MemAct.ofEvent, MemAct.touch?] at hx
  subst hx
  exact fun _ => by simp
theorem evw_rw {n : Nat} (hn : Wg < n) : ∀ e ∈ #[rd (stA Wg), wr (stA Wg)], (∀ x, (MemAct.ofEvent e).touch? = some x → WgL Wg x.loc → x.kind ≠ .plain) ∧ (MemAct.ofEvent e).low n := by
  intro e he
  simp only [List.mem_toArray, List.mem_cons, List.not_mem_nil, or_false] at he
  rcases he with rfl | rfl
  · exact evw_rd hn _ (by simp)
  · refine ⟨fun x hx => ?_, hn⟩
    simp [wr, MemAct.ofEvent, MemAct.touch?] at hx
    subst hx
    exact fun _ => by simp
set_option maxRecDepth 100000 in
set_option maxHeartbeats 16000000 in
/-- The loop of Wait. -/
theorem wait_loop (hW : Back Try.prog W) {N : Nat} {b₀ : Frame} {a₀ : Act} {ops₀ : Array Oper} {i₀ : Nat} {rest₀ : List Nat} {k₀ : List Item} {cs : List Frame} : ∀ (m : Nat), m < 2147483647 → ∀ (T : Array Value) (w : World), T.size = 84 → T[0]? = some (.pointer (some ⟨Wg, 0, none⟩)) → (∃ st sm, WgAt tWg Wg w st sm) →
    (∀ w', RWg tWg Wg w w' → (envW W Wg).Go ⟨0, 0, false, N⟩ (G (b₀.at (a₀.put ((ops₀[i₀]?).bind (·.dst)) (.tuple #[])) (.inRegion ops₀ rest₀ :: k₀)) cs) w') →
    (envW W Wg).Go ⟨m, 1, false, N⟩ (G ((base wgLink.wait).at ⟨T, []⟩ [.code (L7 wgLink), .inLoop (L7 wgLink), .inBlock 0]) (b₀.at a₀ (.inRegion ops₀ (i₀ :: rest₀) :: k₀) :: cs)) w := by
  intro m
  induction m using Nat.strongRecOn with
  | _ m ih =>
  intro hm T w hT84 t0 hwg hk
  have O := envW_ok (W := W) (Wg := Wg)
  obtain ⟨L, hL⟩ : ∃ L, L = wgLink := ⟨_, rfl⟩
  have H : WgLib Try.prog L := hL ▸ wgLib
  have htw : L.tWg = tWg := by rw [hL]
  rw [← hL] at ih ⊢
  clear hL
  lib_facts
  obtain ⟨v0, v1, v2, v3, v4, v5, v6, v7, v8, v9, v10, v11, v12, v13, v14, v15, v16, v17, v18, v19, v20, v21, v22, v23, v24, v25, v26, v27, v28, v29, v30, v31, v32, v33, v34, v35, v36, v37, v38, v39, v40, v41, v42, v43, v44, v45, v46, v47, v48, v49, v50, v51, v52, v53, v54, v55, v56, v57, v58, v59, v60, v61, v62, v63, v64, v65, v66, v67, v68, v69, v70, v71, v72, v73, v74, v75, v76, v77, v78, v79, v80, v81, v82, v83, rfl⟩ := array84 T hT84
  simp only [List.getElem?_toArray, List.getElem?_cons_zero, Option.some.injEq] at t0
  subst t0
  simp only [L7, body_wait, waitFn, Option.getD_some]
  refine O.step1 rfl (fun _ => stepG_block) ?_
  refine O.step1 rfl (fun _ => stepG_seq) ?_
  refine O.step1 rfl (fun _ => stepG_region) ?_; simp only [List.size_toArray, List.length_cons, List.length_nil, Nat.reduceAdd, Nat.zero_add, List.range, List.range.loop]
  refine goI_pureW rfl rfl (by k_ne) (fun _ => by simp [go_sem, *]) (fun wz K hK => ?_); go_simp; (first | refine ⟨rfl, hK _ ?_⟩ | refine hK _ ?_); clear hK K wz; try w_num
  refine goI_pureW rfl rfl (by k_ne) (fun _ => by simp [go_sem, *]) (fun wz K hK => ?_); go_simp; (first | refine ⟨rfl, hK _ ?_⟩ | refine hK _ ?_); clear hK K wz; try w_num
  refine goI_pureW rfl rfl (by k_ne) (fun _ => by simp [go_sem, *]) (fun wz K hK => ?_); go_simp; (first | refine ⟨rfl, hK _ ?_⟩ | refine hK _ ?_); clear hK K wz; try w_num
  refine callW rfl rfl (by k_ne) rfl H.f_uLoad (nm_uLoad L) rfl ?_; walk_nrmf uLoadFn
  refine O.step1 rfl (fun _ => stepG_seq) ?_
  refine O.step1 rfl (fun _ => stepG_region) ?_; simp only [List.size_toArray, List.length_cons, List.length_nil, Nat.reduceAdd, Nat.zero_add, List.range, List.range.loop]
  refine goI_pureW rfl rfl (by k_ne) (fun _ => by simp [go_sem, *]) (fun wz K hK => ?_); go_simp; (first | refine ⟨rfl, hK _ ?_⟩ | refine hK _ ?_); clear hK K wz; try w_num
  refine O.step1 rfl (fun _ => stepG_region_end) ?_
  refine O.step1 rfl (fun _ => stepG_seq) ?_
  refine O.step1 rfl (fun _ => stepG_region) ?_; simp only [List.size_toArray, List.length_cons, List.length_nil, Nat.reduceAdd, Nat.zero_add, List.range, List.range.loop]
  refine goI_pureW rfl rfl (by k_ne) (fun _ => by simp [go_sem, *]) (fun wz K hK => ?_); go_simp; (first | refine ⟨rfl, hK _ ?_⟩ | refine hK _ ?_); clear hK K wz; try w_num
  refine goI_pureW rfl rfl (by k_ne) (fun _ => by simp [go_sem, *]) (fun wz K hK => ?_); go_simp; (first | refine ⟨rfl, hK _ ?_⟩ | refine hK _ ?_); clear hK K wz; try w_num
  refine goI_pureW rfl rfl (by k_ne) (fun _ => by simp [go_sem, *]) (fun wz K hK => ?_); go_simp; (first | refine ⟨rfl, hK _ ?_⟩ | refine hK _ ?_); clear hK K wz; try w_num
  refine opW hW hm rfl fun w₁ ph st sm hR hw hmode hfew => ?_
  generalize hb0 : (⟨m, 1, false, N⟩ : WX).b = b0 at hmode
  change sumTo N (cnt4 ph) ≤ m at hfew
  cases hmode with
  | reg => cases hb0
  | last => cases hb0
  | rel => cases hb0
  | semd => cases hb0
  | opn hph =>
  clear hb0
  replace hk : ∀ w', RWg tWg Wg w₁ w' → (envW W Wg).Go ⟨0, 0, false, N⟩ (G (b₀.at (a₀.put ((ops₀[i₀]?).bind (·.dst)) (.tuple #[])) (.inRegion ops₀ rest₀ :: k₀)) cs) w' := fun w' h => hk w' (RWg.trans _ _ _ hR h)
  replace hwg : ∃ st sm, WgAt tWg Wg w₁ st sm := ⟨_, _, hw⟩
  have hlow : Wg < w₁.heap.size := (Array.getElem?_eq_some_iff.1 hw).1
  clear hR
  have hmode : WMode N ph false (((sumTo N (cnt4 ph) : Nat) : Int) * KK) 0 := .opn hph
  generalize hv : sumTo N (cnt4 ph) = v at hw hmode hfew
  rcases Nat.eq_zero_or_pos v with rfl | hvp
  · -- nobody is counted
    have hw0 : WgAt L.tWg Wg w₁ 0 0 := by rw [htw]; simpa using hw
    refine ⟨_, w₁, #[rd (stA Wg)], 1, false, 0, stepG_load_atomic (v := 0) rfl rfl (by k_ne) rfl H.f_loadU64 (x_loadU64_n L) (x_loadU64_b L) (x_loadU64_x L) .u64 (x_loadU64_f L) rfl hw0.cellSt, Nat.le_refl _, ⟨_, _, hw, hmode⟩, rfl, (by first | exact Nat.le_of_eq hv | exact Nat.le_refl _), Nat.zero_le _, evw_rd hlow, ?_⟩
    clear hw hw0 hmode hv hph ih hfew hm
    have hm : (0 : Nat) < 2147483647 := by decide
    walk_nrm
    refine goI_pureW rfl rfl (by k_ne) (fun _ => by simp [go_sem, *]) (fun wz K hK => ?_); go_simp; (first | refine ⟨rfl, hK _ ?_⟩ | refine hK _ ?_); clear hK K wz; try w_num
    refine O.step1 rfl (fun _ => stepG_region_end) ?_
    refine O.step1 rfl (fun _ => stepG_ret') ?_
    refine leave1W rfl rfl H.f_uLoad rfl ?_; walk_nrm
    refine goI_pureW rfl rfl (by k_ne) (fun _ => by simp [go_sem, *]) (fun wz K hK => ?_); go_simp; (first | refine ⟨rfl, hK _ ?_⟩ | refine hK _ ?_); clear hK K wz; try w_num
    refine O.step1 rfl (fun _ => stepG_region_end) ?_
    refine O.step1 rfl (fun _ => stepG_seq) ?_
    refine O.step1 rfl (fun _ => stepG_region) ?_; simp only [List.size_toArray, List.length_cons, List.length_nil, Nat.reduceAdd, Nat.zero_add, List.range, List.range.loop]
    refine goI_pureW rfl rfl (by k_ne) (fun _ => by simp [go_sem, *]) (fun wz K hK => ?_); go_simp; (first | refine ⟨rfl, hK _ ?_⟩ | refine hK _ ?_); clear hK K wz; try w_num
    refine goI_pureW rfl rfl (by k_ne) (fun _ => by simp [go_sem, *]) (fun wz K hK => ?_); go_simp; (first | refine ⟨rfl, hK _ ?_⟩ | refine hK _ ?_); clear hK K wz; try w_num
    refine goI_pureW rfl rfl (by k_ne) (fun _ => by simp [go_sem, *]) (fun wz K hK => ?_); go_simp; (first | refine ⟨rfl, hK _ ?_⟩ | refine hK _ ?_); clear hK K wz; try w_num
    refine goI_pureW rfl rfl (by k_ne) (fun _ => by simp [go_sem, *]) (fun wz K hK => ?_); go_simp; (first | refine ⟨rfl, hK _ ?_⟩ | refine hK _ ?_); clear hK K wz; try w_num
    refine O.step1 rfl (fun _ => stepG_region_end) ?_
    refine O.step1 rfl (fun _ => stepG_seq) ?_
    refine O.step1 rfl (fun _ => stepG_region) ?_; simp only [List.size_toArray, List.length_cons, List.length_nil, Nat.reduceAdd, Nat.zero_add, List.range, List.range.loop]
    refine goI_pureW rfl rfl (by k_ne) (fun _ => by simp [go_sem, *]) (fun wz K hK => ?_); go_simp; (first | refine ⟨rfl, hK _ ?_⟩ | refine hK _ ?_); clear hK K wz; try w_num
    refine goI_pureW rfl rfl (by k_ne) (fun _ => by simp [go_sem, *]) (fun wz K hK => ?_); go_simp; (first | refine ⟨rfl, hK _ ?_⟩ | refine hK _ ?_); clear hK K wz; try w_num
    refine goI_pureW rfl rfl (by k_ne) (fun _ => by simp [go_sem, *]) (fun wz K hK => ?_); go_simp; (first | refine ⟨rfl, hK _ ?_⟩ | refine hK _ ?_); clear hK K wz; try w_num
    refine goI_pureW rfl rfl (by k_ne) (fun _ => by simp [go_sem, *]) (fun wz K hK => ?_); go_simp; (first | refine ⟨rfl, hK _ ?_⟩ | refine hK _ ?_); clear hK K wz; try w_num
    refine O.step1 rfl (fun _ => stepG_region_end) ?_
    refine O.step1 rfl (fun _ => stepG_seq) ?_
    refine O.step1 rfl (fun _ => stepG_seq) ?_
    refine O.step1 rfl (fun _ => stepG_region) ?_; simp only [List.size_toArray, List.length_cons, List.length_nil, Nat.reduceAdd, Nat.zero_add, List.range, List.range.loop]
    refine goI_pureW rfl rfl (by k_ne) (fun _ => by simp [go_sem, *]) (fun wz K hK => ?_); go_simp; (first | refine ⟨rfl, hK _ ?_⟩ | refine hK _ ?_); clear hK K wz; try w_num
    refine goI_pureW rfl rfl (by k_ne) (fun _ => by simp [go_sem, *]) (fun wz K hK => ?_); go_simp; (first | refine ⟨rfl, hK _ ?_⟩ | refine hK _ ?_); clear hK K wz; try w_num
    refine O.step1 rfl (fun _ => stepG_region_end) ?_
    refine O.step1 rfl (fun _ => stepG_cond (t := true) rfl) ?_; simp only [if_true, if_false, Bool.false_eq_true, ↓reduceIte]
    refine O.step1 rfl (fun _ => stepG_seq) ?_
    refine O.step1 rfl (fun _ => stepG_cond (t := true) rfl) ?_; simp only [if_true, if_false, Bool.false_eq_true, ↓reduceIte]
    refine O.step1 rfl (fun _ => stepG_seq) ?_
    refine O.step1 rfl (fun _ => stepG_region) ?_; simp only [List.size_toArray, List.length_cons, List.length_nil, Nat.reduceAdd, Nat.zero_add, List.range, List.range.loop]
    refine markW hW hm rfl hwg (fun w₁ => stepG_mark0 .enable (by simp) rfl rfl (by k_ne) rfl H.f_enable (x_enable_n L) (x_enable_b L) (x_enable_x L) (x_enable_f L)) rfl (fun n hn => evw_mark rfl trivial) ?_
    walk_nrm
    refine O.step1 rfl (fun _ => stepG_region_end) ?_
    refine O.step1 rfl (fun _ => stepG_region) ?_; simp only [List.size_toArray, List.length_cons, List.length_nil, Nat.reduceAdd, Nat.zero_add, List.range, List.range.loop]
    refine goI_pureW rfl rfl (by k_ne) (fun _ => by simp [go_sem, *]) (fun wz K hK => ?_); go_simp; (first | refine ⟨rfl, hK _ ?_⟩ | refine hK _ ?_); clear hK K wz; try w_num
    refine goI_wgW hwg (v := .pointer (some ⟨Wg, 0, none⟩)) rfl rfl (by k_ne) (fun w st sm hw => ?_) (fun w st sm hw => ?_) ?_
    · have hc0 : w.cell? ⟨Wg, 0, none⟩ = some (.int .u64 st) := hw.cellSt
      have hce := fun es => events_convert_to_unsafe (P := Try.prog) H.underlying_tWgP H.underlying_tUP H.room_tWg hc0 es
      simp [go_sem, hce]
    · have hc0 : w.cell? ⟨Wg, 0, none⟩ = some (.int .u64 st) := hw.cellSt
      have hcv := run_convert_to_unsafe (P := Try.prog) H.underlying_tWgP H.underlying_tUP H.room_tWg hc0
      go_simp
    walk_nrm
    refine markW hW hm rfl hwg (fun w₁ => stepG_markAt .acquire (by simp) rfl rfl (by k_ne) rfl H.f_acquire (x_acquire_n L) (x_acquire_b L) (x_acquire_x L) (x_acquire_f L) (ad := stA Wg) (by simp [Act.eval, stA])) rfl (fun n hn => evw_mark rfl (by first | trivial | exact hn)) ?_
    walk_nrm
    refine O.step1 rfl (fun _ => stepG_region_end) ?_
    refine O.step1 rfl (fun _ => stepG_seq) ?_
    refine O.step1 rfl (fun _ => stepG_seq) ?_
    refine O.step1 rfl (fun _ => stepG_region) ?_; simp only [List.size_toArray, List.length_cons, List.length_nil, Nat.reduceAdd, Nat.zero_add, List.range, List.range.loop]
    refine goI_pureW rfl rfl (by k_ne) (fun _ => by simp [go_sem, *]) (fun wz K hK => ?_); go_simp; (first | refine ⟨rfl, hK _ ?_⟩ | refine hK _ ?_); clear hK K wz; try w_num
    refine goI_pureW rfl rfl (by k_ne) (fun _ => by simp [go_sem, *]) (fun wz K hK => ?_); go_simp; (first | refine ⟨rfl, hK _ ?_⟩ | refine hK _ ?_); clear hK K wz; try w_num
    refine goI_pureW rfl rfl (by k_ne) (fun _ => by simp [go_sem, *]) (fun wz K hK => ?_); go_simp; (first | refine ⟨rfl, hK _ ?_⟩ | refine hK _ ?_); clear hK K wz; try w_num
    refine goI_pureW rfl rfl (by k_ne) (fun _ => by simp [go_sem, *]) (fun wz K hK => ?_); go_simp; (first | refine ⟨rfl, hK _ ?_⟩ | refine hK _ ?_); clear hK K wz; try w_num
    refine goI_pureW rfl rfl (by k_ne) (fun _ => by simp [go_sem, *]) (fun wz K hK => ?_); go_simp; (first | refine ⟨rfl, hK _ ?_⟩ | refine hK _ ?_); clear hK K wz; try w_num
    refine goI_pureW rfl rfl (by k_ne) (fun _ => by simp [go_sem, *]) (fun wz K hK => ?_); go_simp; (first | refine ⟨rfl, hK _ ?_⟩ | refine hK _ ?_); clear hK K wz; try w_num
    refine goI_pureW rfl rfl (by k_ne) (fun _ => by simp [go_sem, *]) (fun wz K hK => ?_); go_simp; (first | refine ⟨rfl, hK _ ?_⟩ | refine hK _ ?_); clear hK K wz; try w_num
    refine goI_pureW rfl rfl (by k_ne) (fun _ => by simp [go_sem, *]) (fun wz K hK => ?_); go_simp; (first | refine ⟨rfl, hK _ ?_⟩ | refine hK _ ?_); clear hK K wz; try w_num
    refine O.step1 rfl (fun _ => stepG_unwanted rfl rfl) ?_; walk_nrm
    refine O.step1 rfl (fun _ => stepG_unwanted rfl rfl) ?_; walk_nrm
    refine goI_pureW rfl rfl (by k_ne) (fun _ => by simp [go_sem, *]) (fun wz K hK => ?_); go_simp; (first | refine ⟨rfl, hK _ ?_⟩ | refine hK _ ?_); clear hK K wz; try w_num
    refine O.step1 rfl (fun _ => stepG_region_end) ?_
    refine O.step1 rfl (fun _ => stepG_cond (t := false) rfl) ?_; simp only [if_true, if_false, Bool.false_eq_true, ↓reduceIte]
    refine O.step1 rfl (fun _ => stepG_skip) ?_
    refine O.step1 rfl (fun _ => stepG_ret') ?_
    refine leave0W rfl rfl H.f_wait rfl ?_; walk_nrm
    exact hk _ (RWg.refl _)
  · -- v are counted
    obtain ⟨S, hS⟩ : ∃ S : Int, (v : Int) * KK = S := ⟨_, rfl⟩
    have hv2 : v < 2147483647 := by omega
    have a1 : S / 4294967296 = (v : Int) := by rw [← hS]; simp only [KK]; omega
    have b1 : bits .and .u64 S 2147483648 = 0 := by rw [← hS]; have := Go.ConcN.st_flag v 0 (by omega) (by omega); simpa [KK] using this
    have b2 : bits .and .u64 S 2147483647 = 0 := by rw [← hS]; have := Go.ConcN.st_waiters v 0 (by omega) (by omega); simpa [KK] using this
    have c1 : IntKind.i32.wrap (v : Int) = (v : Int) := by rw [IntKind.wrap_i32]; omega
    have w1 : IntKind.u64.wrap (S + 1) = S + 1 := by rw [IntKind.wrap_u64, ← hS]; simp only [KK]; omega
    have q3 : decide ((v : Int) < 0) = false := decide_eq_false (by omega)
    have q4 : decide (0 < (v : Int)) = true := decide_eq_true (by omega)
    have q5 : ((v : Int) == 0) = false := by simp; omega
    have q6 : decide ((v : Int) = 0) = false := decide_eq_false (by omega)
    rw [hS] at hw hmode
    refine ⟨_, w₁, #[rd (stA Wg)], 1, false, v, stepG_load_atomic (v := S) rfl rfl (by k_ne) rfl H.f_loadU64 (x_loadU64_n L) (x_loadU64_b L) (x_loadU64_x L) .u64 (x_loadU64_f L) rfl hw.cellSt, Nat.le_refl _, ⟨_, _, hw, hmode⟩, rfl, (by first | exact Nat.le_of_eq hv | exact Nat.le_refl _), hfew, evw_rd hlow, ?_⟩
    clear hw hmode hv hph ph hlow
    have ihv : ∀ m', m' < v → _ := fun m' h => ih m' (Nat.lt_of_lt_of_le h hfew) (Nat.lt_trans h hv2)
    clear ih
    replace hm := hv2
    clear hfew hv2
    have HS := Lib.hid (And.intro hS hm)
    have HI := Lib.hid ihv
    have HK := Lib.hid (And.intro hk hwg)
    clear hS hm ihv hk hwg
    walk_nrm
    refine goI_pureW rfl rfl (by k_ne) (fun _ => by simp [go_sem, *]) (fun wz K hK => ?_); go_simp; (first | refine ⟨rfl, hK _ ?_⟩ | refine hK _ ?_); clear hK K wz; try w_num
    refine O.step1 rfl (fun _ => stepG_region_end) ?_
    refine O.step1 rfl (fun _ => stepG_ret') ?_
    refine leave1W rfl rfl H.f_uLoad rfl ?_; walk_nrm
    refine goI_pureW rfl rfl (by k_ne) (fun _ => by simp [go_sem, *]) (fun wz K hK => ?_); go_simp; (first | refine ⟨rfl, hK _ ?_⟩ | refine hK _ ?_); clear hK K wz; try w_num
    refine O.step1 rfl (fun _ => stepG_region_end) ?_
    refine O.step1 rfl (fun _ => stepG_seq) ?_
    refine O.step1 rfl (fun _ => stepG_region) ?_; simp only [List.size_toArray, List.length_cons, List.length_nil, Nat.reduceAdd, Nat.zero_add, List.range, List.range.loop]
    refine goI_pureW rfl rfl (by k_ne) (fun _ => by simp [go_sem, *]) (fun wz K hK => ?_); go_simp; (first | refine ⟨rfl, hK _ ?_⟩ | refine hK _ ?_); clear hK K wz; try w_num
    refine goI_pureW rfl rfl (by k_ne) (fun _ => by simp [go_sem, *]) (fun wz K hK => ?_); go_simp; (first | refine ⟨rfl, hK _ ?_⟩ | refine hK _ ?_); clear hK K wz; try w_num
    refine goI_pureW rfl rfl (by k_ne) (fun _ => by simp [go_sem, *]) (fun wz K hK => ?_); go_simp; (first | refine ⟨rfl, hK _ ?_⟩ | refine hK _ ?_); clear hK K wz; try w_num
    refine goI_pureW rfl rfl (by k_ne) (fun _ => by simp [go_sem, *]) (fun wz K hK => ?_); go_simp; (first | refine ⟨rfl, hK _ ?_⟩ | refine hK _ ?_); clear hK K wz; try w_num
    refine O.step1 rfl (fun _ => stepG_region_end) ?_
    refine O.step1 rfl (fun _ => stepG_seq) ?_
    refine O.step1 rfl (fun _ => stepG_region) ?_; simp only [List.size_toArray, List.length_cons, List.length_nil, Nat.reduceAdd, Nat.zero_add, List.range, List.range.loop]
    refine goI_pureW rfl rfl (by k_ne) (fun _ => by simp [go_sem, *]) (fun wz K hK => ?_); go_simp; (first | refine ⟨rfl, hK _ ?_⟩ | refine hK _ ?_); clear hK K wz; try w_num
    refine goI_pureW rfl rfl (by k_ne) (fun _ => by simp [go_sem, *]) (fun wz K hK => ?_); go_simp; (first | refine ⟨rfl, hK _ ?_⟩ | refine hK _ ?_); clear hK K wz; try w_num
    refine goI_pureW rfl rfl (by k_ne) (fun _ => by simp [go_sem, *]) (fun wz K hK => ?_); go_simp; (first | refine ⟨rfl, hK _ ?_⟩ | refine hK _ ?_); clear hK K wz; try w_num
    refine goI_pureW rfl rfl (by k_ne) (fun _ => by simp [go_sem, *]) (fun wz K hK => ?_); go_simp; (first | refine ⟨rfl, hK _ ?_⟩ | refine hK _ ?_); clear hK K wz; try w_num
    refine O.step1 rfl (fun _ => stepG_region_end) ?_
    refine O.step1 rfl (fun _ => stepG_seq) ?_
    refine O.step1 rfl (fun _ => stepG_seq) ?_
    refine O.step1 rfl (fun _ => stepG_region) ?_; simp only [List.size_toArray, List.length_cons, List.length_nil, Nat.reduceAdd, Nat.zero_add, List.range, List.range.loop]
    refine goI_pureW rfl rfl (by k_ne) (fun _ => by simp [go_sem, *]) (fun wz K hK => ?_); go_simp; (first | refine ⟨rfl, hK _ ?_⟩ | refine hK _ ?_); clear hK K wz; try w_num
    refine goI_pureW rfl rfl (by k_ne) (fun _ => by simp [go_sem, *]) (fun wz K hK => ?_); go_simp; (first | refine ⟨rfl, hK _ ?_⟩ | refine hK _ ?_); clear hK K wz; try w_num
    refine O.step1 rfl (fun _ => stepG_region_end) ?_
    refine O.step1 rfl (fun _ => stepG_cond (t := false) (by first | rfl | (simp [Act.eval]; omega))) ?_; simp only [if_true, if_false, Bool.false_eq_true, ↓reduceIte]
    refine O.step1 rfl (fun _ => stepG_skip) ?_
    refine O.step1 rfl (fun _ => stepG_seq) ?_
    refine O.step1 rfl (fun _ => stepG_region) ?_; simp only [List.size_toArray, List.length_cons, List.length_nil, Nat.reduceAdd, Nat.zero_add, List.range, List.range.loop]
    refine goI_pureW rfl rfl (by k_ne) (fun _ => by simp [go_sem, *]) (fun wz K hK => ?_); go_simp; (first | refine ⟨rfl, hK _ ?_⟩ | refine hK _ ?_); clear hK K wz; try w_num
    refine goI_pureW rfl rfl (by k_ne) (fun _ => by simp [go_sem, *]) (fun wz K hK => ?_); go_simp; (first | refine ⟨rfl, hK _ ?_⟩ | refine hK _ ?_); clear hK K wz; try w_num
    refine goI_pureW rfl rfl (by k_ne) (fun _ => by simp [go_sem, *]) (fun wz K hK => ?_); go_simp; (first | refine ⟨rfl, hK _ ?_⟩ | refine hK _ ?_); clear hK K wz; try w_num
    refine goI_pureW rfl rfl (by k_ne) (fun _ => by simp [go_sem, *]) (fun wz K hK => ?_); go_simp; (first | refine ⟨rfl, hK _ ?_⟩ | refine hK _ ?_); clear hK K wz; try w_num
    refine goI_pureW rfl rfl (by k_ne) (fun _ => by simp [go_sem, *]) (fun wz K hK => ?_); go_simp; (first | refine ⟨rfl, hK _ ?_⟩ | refine hK _ ?_); clear hK K wz; try w_num
    refine goI_pureW rfl rfl (by k_ne) (fun _ => by simp [go_sem, *]) (fun wz K hK => ?_); go_simp; (first | refine ⟨rfl, hK _ ?_⟩ | refine hK _ ?_); clear hK K wz; try w_num
    refine callW rfl rfl (by k_ne) rfl H.f_uCas (nm_uCas L) rfl ?_; walk_nrmf uCasFn
    refine O.step1 rfl (fun _ => stepG_seq) ?_
    refine O.step1 rfl (fun _ => stepG_region) ?_; simp only [List.size_toArray, List.length_cons, List.length_nil, Nat.reduceAdd, Nat.zero_add, List.range, List.range.loop]
    refine goI_pureW rfl rfl (by k_ne) (fun _ => by simp [go_sem, *]) (fun wz K hK => ?_); go_simp; (first | refine ⟨rfl, hK _ ?_⟩ | refine hK _ ?_); clear hK K wz; try w_num
    refine O.step1 rfl (fun _ => stepG_region_end) ?_
    refine O.step1 rfl (fun _ => stepG_seq) ?_
    refine O.step1 rfl (fun _ => stepG_region) ?_; simp only [List.size_toArray, List.length_cons, List.length_nil, Nat.reduceAdd, Nat.zero_add, List.range, List.range.loop]
    refine goI_pureW rfl rfl (by k_ne) (fun _ => by simp [go_sem, *]) (fun wz K hK => ?_); go_simp; (first | refine ⟨rfl, hK _ ?_⟩ | refine hK _ ?_); clear hK K wz; try w_num
    refine goI_pureW rfl rfl (by k_ne) (fun _ => by simp [go_sem, *]) (fun wz K hK => ?_); go_simp; (first | refine ⟨rfl, hK _ ?_⟩ | refine hK _ ?_); clear hK K wz; try w_num
    refine goI_pureW rfl rfl (by k_ne) (fun _ => by simp [go_sem, *]) (fun wz K hK => ?_); go_simp; (first | refine ⟨rfl, hK _ ?_⟩ | refine hK _ ?_); clear hK K wz; try w_num
    refine goI_pureW rfl rfl (by k_ne) (fun _ => by simp [go_sem, *]) (fun wz K hK => ?_); go_simp; (first | refine ⟨rfl, hK _ ?_⟩ | refine hK _ ?_); clear hK K wz; try w_num
    refine goI_pureW rfl rfl (by k_ne) (fun _ => by simp [go_sem, *]) (fun wz K hK => ?_); go_simp; (first | refine ⟨rfl, hK _ ?_⟩ | refine hK _ ?_); clear hK K wz; try w_num
    unfold Hid at HS HI HK
    have ihv := HI
    obtain ⟨hS, hm⟩ := HS
    obtain ⟨hk, hwg⟩ := HK
    clear HI
    refine opW hW hm rfl fun w₂ ph st sm hR hw hmode hfew => ?_
    generalize hb0 : (⟨v, 1, false, N⟩ : WX).b = b0 at hmode
    change sumTo N (cnt4 ph) ≤ v at hfew
    cases hmode with
    | reg => cases hb0
    | last => cases hb0
    | rel => cases hb0
    | semd => cases hb0
    | opn hph =>
    clear hb0
    replace hk : ∀ w', RWg tWg Wg w₂ w' → (envW W Wg).Go ⟨0, 0, false, N⟩ (G (b₀.at (a₀.put ((ops₀[i₀]?).bind (·.dst)) (.tuple #[])) (.inRegion ops₀ rest₀ :: k₀)) cs) w' := fun w' h => hk w' (RWg.trans _ _ _ hR h)
    replace hwg : ∃ st sm, WgAt tWg Wg w₂ st sm := ⟨_, _, hw⟩
    have hlow : Wg < w₂.heap.size := (Array.getElem?_eq_some_iff.1 hw).1
    clear hR
    have hmode : WMode N ph false (((sumTo N (cnt4 ph) : Nat) : Int) * KK) 0 := .opn hph
    generalize hv : sumTo N (cnt4 ph) = v' at hw hmode hfew
    by_cases e : v' = v
    · -- it hits
      subst e
      rw [hS] at hw hmode
      have hw2 := hw.setSt (S + 1)
      have hreg : WMode N ph true (S + 1) 0 := by
        have := WMode.reg (N := N) (ph := ph) hph (by rw [hv]; exact hvp)
        rw [hv, hS] at this
        exact this
      have hsz := (aside_setCell w₂ (stA Wg) (.int .u64 (S + 1))).size
      refine ⟨_, w₂.setCell (stA Wg) (.int .u64 (S + 1)), #[rd (stA Wg), wr (stA Wg)], 1, true, v', (stepG_cas_hit (v := S) (n := S + 1) rfl rfl (by k_ne) rfl H.f_casU64 (x_casU64_n L) (x_casU64_b L) (x_casU64_x L) .u64 (x_casU64_f L) rfl rfl rfl hw.cellSt (hw.thaw 0)).trans (by rfl), Nat.le_of_eq hsz.symm, ⟨_, _, hw2, hreg⟩, rfl, (by first | exact Nat.le_of_eq hv | exact Nat.le_refl _), Nat.le_refl _, evw_rw (by rw [hsz]; exact hlow), ?_⟩
      replace hk : ∀ w', RWg tWg Wg (w₂.setCell (stA Wg) (.int .u64 (S + 1))) w' → (envW W Wg).Go ⟨0, 0, false, N⟩ (G (b₀.at (a₀.put ((ops₀[i₀]?).bind (·.dst)) (.tuple #[])) (.inRegion ops₀ rest₀ :: k₀)) cs) w' := fun w' h => hk w' (RWg.trans _ _ _ (rwg_set (v := S + 1) hw) h)
      replace hwg : ∃ st sm, WgAt tWg Wg (w₂.setCell (stA Wg) (.int .u64 (S + 1))) st sm := ⟨_, _, hw2⟩
      clear hw hw2 hreg hmode hv hph ph hlow hsz ihv hfew hS
      change (envW W Wg).Go ⟨v', 1, true, N⟩ _ _
      walk_nrm
      refine goI_pureW rfl rfl (by k_ne) (fun _ => by simp [go_sem, *]) (fun wz K hK => ?_); go_simp; (first | refine ⟨rfl, hK _ ?_⟩ | refine hK _ ?_); clear hK K wz; try w_num
      refine O.step1 rfl (fun _ => stepG_region_end) ?_
      refine O.step1 rfl (fun _ => stepG_ret') ?_
      refine leave1W rfl rfl H.f_uCas rfl ?_; walk_nrm
      refine O.step1 rfl (fun _ => stepG_region_end) ?_
      refine O.step1 rfl (fun _ => stepG_cond (t := true) rfl) ?_; simp only [if_true, if_false, Bool.false_eq_true, ↓reduceIte]
      refine O.step1 rfl (fun _ => stepG_seq) ?_
      refine O.step1 rfl (fun _ => stepG_seq) ?_
      refine O.step1 rfl (fun _ => stepG_region) ?_; simp only [List.size_toArray, List.length_cons, List.length_nil, Nat.reduceAdd, Nat.zero_add, List.range, List.range.loop]
      refine goI_pureW rfl rfl (by k_ne) (fun _ => by simp [go_sem, *]) (fun wz K hK => ?_); go_simp; (first | refine ⟨rfl, hK _ ?_⟩ | refine hK _ ?_); clear hK K wz; try w_num
      refine goI_pureW rfl rfl (by k_ne) (fun _ => by simp [go_sem, *]) (fun wz K hK => ?_); go_simp; (first | refine ⟨rfl, hK _ ?_⟩ | refine hK _ ?_); clear hK K wz; try w_num
      refine goI_pureW rfl rfl (by k_ne) (fun _ => by simp [go_sem, *]) (fun wz K hK => ?_); go_simp; (first | refine ⟨rfl, hK _ ?_⟩ | refine hK _ ?_); clear hK K wz; try w_num
      refine goI_pureW rfl rfl (by k_ne) (fun _ => by simp [go_sem, *]) (fun wz K hK => ?_); go_simp; (first | refine ⟨rfl, hK _ ?_⟩ | refine hK _ ?_); clear hK K wz; try w_num
      refine O.step1 rfl (fun _ => stepG_region_end) ?_
      refine O.step1 rfl (fun _ => stepG_cond (t := true) rfl) ?_; simp only [if_true, if_false, Bool.false_eq_true, ↓reduceIte]
      refine O.step1 rfl (fun _ => stepG_region) ?_; simp only [List.size_toArray, List.length_cons, List.length_nil, Nat.reduceAdd, Nat.zero_add, List.range, List.range.loop]
      refine goI_pureW rfl rfl (by k_ne) (fun _ => by simp [go_sem, *]) (fun wz K hK => ?_); go_simp; (first | refine ⟨rfl, hK _ ?_⟩ | refine hK _ ?_); clear hK K wz; try w_num
      refine goI_pureW rfl rfl (by k_ne) (fun _ => by simp [go_sem, *]) (fun wz K hK => ?_); go_simp; (first | refine ⟨rfl, hK _ ?_⟩ | refine hK _ ?_); clear hK K wz; try w_num
      refine goI_pureW rfl rfl (by k_ne) (fun _ => by simp [go_sem, *]) (fun wz K hK => ?_); go_simp; (first | refine ⟨rfl, hK _ ?_⟩ | refine hK _ ?_); clear hK K wz; try w_num
      refine goI_wgW hwg (v := .pointer (some ⟨Wg, 1, none⟩)) rfl rfl (by k_ne) (fun w st sm hw => ?_) (fun w st sm hw => ?_) ?_
      · have hc0 : w.cell? ⟨Wg, 1, none⟩ = some (.int .u32 sm) := hw.cellSm
        have hce := fun es => events_convert_to_unsafe (P := Try.prog) H.underlying_tPU32 H.underlying_tUP H.room_tU32 hc0 es
        simp [go_sem, hce]
      · have hc0 : w.cell? ⟨Wg, 1, none⟩ = some (.int .u32 sm) := hw.cellSm
        have hcv := run_convert_to_unsafe (P := Try.prog) H.underlying_tPU32 H.underlying_tUP H.room_tU32 hc0
        go_simp
      walk_nrm
      refine markW hW hm rfl hwg (fun w₁ => stepG_markAt .write (by simp) rfl rfl (by k_ne) rfl H.f_raceWrite (x_raceWrite_n L) (x_raceWrite_b L) (x_raceWrite_x L) (x_raceWrite_f L) (ad := ⟨Wg, 1, none⟩) (by simp [Act.eval])) rfl (fun n hn => evw_write hn) ?_
      walk_nrm
      refine O.step1 rfl (fun _ => stepG_region_end) ?_
      refine O.step1 rfl (fun _ => stepG_seq) ?_
      refine O.step1 rfl (fun _ => stepG_region) ?_; simp only [List.size_toArray, List.length_cons, List.length_nil, Nat.reduceAdd, Nat.zero_add, List.range, List.range.loop]
      refine goI_pureW rfl rfl (by k_ne) (fun _ => by simp [go_sem, *]) (fun wz K hK => ?_); go_simp; (first | refine ⟨rfl, hK _ ?_⟩ | refine hK _ ?_); clear hK K wz; try w_num
      refine O.step1 rfl (fun _ => stepG_region_end) ?_
      refine O.step1 rfl (fun _ => stepG_seq) ?_
      refine O.step1 rfl (fun _ => stepG_seq) ?_
      refine O.step1 rfl (fun _ => stepG_region) ?_; simp only [List.size_toArray, List.length_cons, List.length_nil, Nat.reduceAdd, Nat.zero_add, List.range, List.range.loop]
      refine goI_pureW rfl rfl (by k_ne) (fun _ => by simp [go_sem, *]) (fun wz K hK => ?_); go_simp; (first | refine ⟨rfl, hK _ ?_⟩ | refine hK _ ?_); clear hK K wz; try w_num
      refine goI_pureW rfl rfl (by k_ne) (fun _ => by simp [go_sem, *]) (fun wz K hK => ?_); go_simp; (first | refine ⟨rfl, hK _ ?_⟩ | refine hK _ ?_); clear hK K wz; try w_num
      refine goI_pureW rfl rfl (by k_ne) (fun _ => by simp [go_sem, *]) (fun wz K hK => ?_); go_simp; (first | refine ⟨rfl, hK _ ?_⟩ | refine hK _ ?_); clear hK K wz; try w_num
      refine goI_pureW rfl rfl (by k_ne) (fun _ => by simp [go_sem, *]) (fun wz K hK => ?_); go_simp; (first | refine ⟨rfl, hK _ ?_⟩ | refine hK _ ?_); clear hK K wz; try w_num
      refine O.step1 rfl (fun _ => stepG_unwanted rfl rfl) ?_; walk_nrm
      refine goI_pureW rfl rfl (by k_ne) (fun _ => by simp [go_sem, *]) (fun wz K hK => ?_); go_simp; (first | refine ⟨rfl, hK _ ?_⟩ | refine hK _ ?_); clear hK K wz; try w_num
      refine O.step1 rfl (fun _ => stepG_region_end) ?_
      refine O.step1 rfl (fun _ => stepG_cond (t := false) rfl) ?_; simp only [if_true, if_false, Bool.false_eq_true, ↓reduceIte]
      refine O.step1 rfl (fun _ => stepG_skip) ?_
      refine O.step1 rfl (fun _ => stepG_seq) ?_
      refine O.step1 rfl (fun _ => stepG_region) ?_; simp only [List.size_toArray, List.length_cons, List.length_nil, Nat.reduceAdd, Nat.zero_add, List.range, List.range.loop]
      refine goI_pureW rfl rfl (by k_ne) (fun _ => by simp [go_sem, *]) (fun wz K hK => ?_); go_simp; (first | refine ⟨rfl, hK _ ?_⟩ | refine hK _ ?_); clear hK K wz; try w_num
      refine goI_pureW rfl rfl (by k_ne) (fun _ => by simp [go_sem, *]) (fun wz K hK => ?_); go_simp; (first | refine ⟨rfl, hK _ ?_⟩ | refine hK _ ?_); clear hK K wz; try w_num
      refine goI_pureW rfl rfl (by k_ne) (fun _ => by simp [go_sem, *]) (fun wz K hK => ?_); go_simp; (first | refine ⟨rfl, hK _ ?_⟩ | refine hK _ ?_); clear hK K wz; try w_num
      refine goI_pureW rfl rfl (by k_ne) (fun _ => by simp [go_sem, *]) (fun wz K hK => ?_); go_simp; (first | refine ⟨rfl, hK _ ?_⟩ | refine hK _ ?_); clear hK K wz; try w_num
      refine blockW hW hm rfl rfl rfl (fun w₁ st hw => stepG_semacquire_wait rfl rfl rfl H.f_semacquire (x_semacquire_n L) (x_semacquire_b L) (x_semacquire_x L) (x_semacquire_f L) (by simp [Act.eval, smA]) hw.cellSm) (fun w₁ hw => (stepG_semacquire (n := 1) rfl rfl (by k_ne) rfl H.f_semacquire (x_semacquire_n L) (x_semacquire_b L) (x_semacquire_x L) (x_semacquire_f L) (by simp [Act.eval, smA]) hw.cellSm (by k_ne) (hw.thaw 1)).trans (by rfl)) ?_
      clear hm
      have hm : (0 : Nat) < 2147483647 := by decide
      walk_nrm
      refine O.step1 rfl (fun _ => stepG_region_end) ?_
      refine O.step1 rfl (fun _ => stepG_seq) ?_
      refine O.step1 rfl (fun _ => stepG_region) ?_; simp only [List.size_toArray, List.length_cons, List.length_nil, Nat.reduceAdd, Nat.zero_add, List.range, List.range.loop]
      refine goI_pureW rfl rfl (by k_ne) (fun _ => by simp [go_sem, *]) (fun wz K hK => ?_); go_simp; (first | refine ⟨rfl, hK _ ?_⟩ | refine hK _ ?_); clear hK K wz; try w_num
      refine goI_pureW rfl rfl (by k_ne) (fun _ => by simp [go_sem, *]) (fun wz K hK => ?_); go_simp; (first | refine ⟨rfl, hK _ ?_⟩ | refine hK _ ?_); clear hK K wz; try w_num
      refine goI_pureW rfl rfl (by k_ne) (fun _ => by simp [go_sem, *]) (fun wz K hK => ?_); go_simp; (first | refine ⟨rfl, hK _ ?_⟩ | refine hK _ ?_); clear hK K wz; try w_num
      refine callW rfl rfl (by k_ne) rfl H.f_uLoad (nm_uLoad L) rfl ?_; walk_nrmf uLoadFn
      refine O.step1 rfl (fun _ => stepG_seq) ?_
      refine O.step1 rfl (fun _ => stepG_region) ?_; simp only [List.size_toArray, List.length_cons, List.length_nil, Nat.reduceAdd, Nat.zero_add, List.range, List.range.loop]
      refine goI_pureW rfl rfl (by k_ne) (fun _ => by simp [go_sem, *]) (fun wz K hK => ?_); go_simp; (first | refine ⟨rfl, hK _ ?_⟩ | refine hK _ ?_); clear hK K wz; try w_num
      refine O.step1 rfl (fun _ => stepG_region_end) ?_
      refine O.step1 rfl (fun _ => stepG_seq) ?_
      refine O.step1 rfl (fun _ => stepG_region) ?_; simp only [List.size_toArray, List.length_cons, List.length_nil, Nat.reduceAdd, Nat.zero_add, List.range, List.range.loop]
      refine goI_pureW rfl rfl (by k_ne) (fun _ => by simp [go_sem, *]) (fun wz K hK => ?_); go_simp; (first | refine ⟨rfl, hK _ ?_⟩ | refine hK _ ?_); clear hK K wz; try w_num
      refine goI_pureW rfl rfl (by k_ne) (fun _ => by simp [go_sem, *]) (fun wz K hK => ?_); go_simp; (first | refine ⟨rfl, hK _ ?_⟩ | refine hK _ ?_); clear hK K wz; try w_num
      refine goI_pureW rfl rfl (by k_ne) (fun _ => by simp [go_sem, *]) (fun wz K hK => ?_); go_simp; (first | refine ⟨rfl, hK _ ?_⟩ | refine hK _ ?_); clear hK K wz; try w_num
      refine opW hW hm rfl fun w₄ ph st sm hR hw hmode hfew => ?_
      generalize hb0 : (⟨0, 1, false, N⟩ : WX).b = b0 at hmode
      change sumTo N (cnt4 ph) ≤ 0 at hfew
      cases hmode with
      | reg => cases hb0
      | last => cases hb0
      | rel => cases hb0
      | semd => cases hb0
      | opn hph =>
      clear hb0
      replace hk : ∀ w', RWg tWg Wg w₄ w' → (envW W Wg).Go ⟨0, 0, false, N⟩ (G (b₀.at (a₀.put ((ops₀[i₀]?).bind (·.dst)) (.tuple #[])) (.inRegion ops₀ rest₀ :: k₀)) cs) w' := fun w' h => hk w' (RWg.trans _ _ _ hR h)
      replace hwg : ∃ st sm, WgAt tWg Wg w₄ st sm := ⟨_, _, hw⟩
      have hlow : Wg < w₄.heap.size := (Array.getElem?_eq_some_iff.1 hw).1
      clear hR
      have hmode : WMode N ph false (((sumTo N (cnt4 ph) : Nat) : Int) * KK) 0 := .opn hph
      have hv : sumTo N (cnt4 ph) = 0 := by omega
      rw [hv] at hw hmode hfew
      have hw0 : WgAt L.tWg Wg w₄ 0 0 := by rw [htw]; simpa using hw
      refine ⟨_, w₄, #[rd (stA Wg)], 1, false, 0, stepG_load_atomic (v := 0) rfl rfl (by k_ne) rfl H.f_loadU64 (x_loadU64_n L) (x_loadU64_b L) (x_loadU64_x L) .u64 (x_loadU64_f L) rfl hw0.cellSt, Nat.le_refl _, ⟨_, _, hw, hmode⟩, rfl, (by first | exact Nat.le_of_eq hv | exact Nat.le_refl _), Nat.zero_le _, evw_rd hlow, ?_⟩
      clear hw hw0 hmode hv hph hfew
      walk_nrm
      refine goI_pureW rfl rfl (by k_ne) (fun _ => by simp [go_sem, *]) (fun wz K hK => ?_); go_simp; (first | refine ⟨rfl, hK _ ?_⟩ | refine hK _ ?_); clear hK K wz; try w_num
      refine O.step1 rfl (fun _ => stepG_region_end) ?_
      refine O.step1 rfl (fun _ => stepG_ret') ?_
      refine leave1W rfl rfl H.f_uLoad rfl ?_; walk_nrm
      refine goI_pureW rfl rfl (by k_ne) (fun _ => by simp [go_sem, *]) (fun wz K hK => ?_); go_simp; (first | refine ⟨rfl, hK _ ?_⟩ | refine hK _ ?_); clear hK K wz; try w_num
      refine goI_pureW rfl rfl (by k_ne) (fun _ => by simp [go_sem, *]) (fun wz K hK => ?_); go_simp; (first | refine ⟨rfl, hK _ ?_⟩ | refine hK _ ?_); clear hK K wz; try w_num
      refine O.step1 rfl (fun _ => stepG_region_end) ?_
      refine O.step1 rfl (fun _ => stepG_seq) ?_
      refine O.step1 rfl (fun _ => stepG_cond (t := true) rfl) ?_; simp only [if_true, if_false, Bool.false_eq_true, ↓reduceIte]
      refine O.step1 rfl (fun _ => stepG_seq) ?_
      refine O.step1 rfl (fun _ => stepG_region) ?_; simp only [List.size_toArray, List.length_cons, List.length_nil, Nat.reduceAdd, Nat.zero_add, List.range, List.range.loop]
      refine markW hW hm rfl hwg (fun w₁ => stepG_mark0 .enable (by simp) rfl rfl (by k_ne) rfl H.f_enable (x_enable_n L) (x_enable_b L) (x_enable_x L) (x_enable_f L)) rfl (fun n hn => evw_mark rfl trivial) ?_
      walk_nrm
      refine O.step1 rfl (fun _ => stepG_region_end) ?_
      refine O.step1 rfl (fun _ => stepG_region) ?_; simp only [List.size_toArray, List.length_cons, List.length_nil, Nat.reduceAdd, Nat.zero_add, List.range, List.range.loop]
      refine goI_pureW rfl rfl (by k_ne) (fun _ => by simp [go_sem, *]) (fun wz K hK => ?_); go_simp; (first | refine ⟨rfl, hK _ ?_⟩ | refine hK _ ?_); clear hK K wz; try w_num
      refine goI_wgW hwg (v := .pointer (some ⟨Wg, 0, none⟩)) rfl rfl (by k_ne) (fun w st sm hw => ?_) (fun w st sm hw => ?_) ?_
      · have hc0 : w.cell? ⟨Wg, 0, none⟩ = some (.int .u64 st) := hw.cellSt
        have hce := fun es => events_convert_to_unsafe (P := Try.prog) H.underlying_tWgP H.underlying_tUP H.room_tWg hc0 es
        simp [go_sem, hce]
      · have hc0 : w.cell? ⟨Wg, 0, none⟩ = some (.int .u64 st) := hw.cellSt
        have hcv := run_convert_to_unsafe (P := Try.prog) H.underlying_tWgP H.underlying_tUP H.room_tWg hc0
        go_simp
      walk_nrm
      refine markW hW hm rfl hwg (fun w₁ => stepG_markAt .acquire (by simp) rfl rfl (by k_ne) rfl H.f_acquire (x_acquire_n L) (x_acquire_b L) (x_acquire_x L) (x_acquire_f L) (ad := stA Wg) (by simp [Act.eval, stA])) rfl (fun n hn => evw_mark rfl (by first | trivial | exact hn)) ?_
      walk_nrm
      refine O.step1 rfl (fun _ => stepG_region_end) ?_
      refine O.step1 rfl (fun _ => stepG_seq) ?_
      refine O.step1 rfl (fun _ => stepG_seq) ?_
      refine O.step1 rfl (fun _ => stepG_region) ?_; simp only [List.size_toArray, List.length_cons, List.length_nil, Nat.reduceAdd, Nat.zero_add, List.range, List.range.loop]
      refine goI_pureW rfl rfl (by k_ne) (fun _ => by simp [go_sem, *]) (fun wz K hK => ?_); go_simp; (first | refine ⟨rfl, hK _ ?_⟩ | refine hK _ ?_); clear hK K wz; try w_num
      refine O.step1 rfl (fun _ => stepG_region_end) ?_
      refine O.step1 rfl (fun _ => stepG_cond (t := false) rfl) ?_; simp only [if_true, if_false, Bool.false_eq_true, ↓reduceIte]
      refine O.step1 rfl (fun _ => stepG_skip) ?_
      refine O.step1 rfl (fun _ => stepG_ret') ?_
      refine leave0W rfl rfl H.f_wait rfl ?_; walk_nrm
      exact hk _ (RWg.refl _)
    · -- it misses
      have hlt : v' < v := by omega
      refine ⟨_, w₂, #[rd (stA Wg)], 1, false, v', stepG_cas_miss (v := (v' : Int) * KK) (old := S) (n := S + 1) rfl rfl (by k_ne) rfl H.f_casU64 (x_casU64_n L) (x_casU64_b L) (x_casU64_x L) .u64 (x_casU64_f L) rfl rfl rfl hw.cellSt (hw.thaw 0) (by rw [← hS]; simp only [KK]; omega), Nat.le_refl _, ⟨_, _, hw, hmode⟩, rfl, (by first | exact Nat.le_of_eq hv | exact Nat.le_refl _), Nat.le_of_lt hlt, evw_rd hlow, ?_⟩
      clear hw hmode hv hph ph hlow hfew hS
      change (envW W Wg).Go ⟨v', 1, false, N⟩ _ _
      walk_nrm
      refine goI_pureW rfl rfl (by k_ne) (fun _ => by simp [go_sem, *]) (fun wz K hK => ?_); go_simp; (first | refine ⟨rfl, hK _ ?_⟩ | refine hK _ ?_); clear hK K wz; try w_num
      refine O.step1 rfl (fun _ => stepG_region_end) ?_
      refine O.step1 rfl (fun _ => stepG_ret') ?_
      refine leave1W rfl rfl H.f_uCas rfl ?_; walk_nrm
      refine O.step1 rfl (fun _ => stepG_region_end) ?_
      refine O.step1 rfl (fun _ => stepG_cond (t := false) rfl) ?_; simp only [if_true, if_false, Bool.false_eq_true, ↓reduceIte]
      refine O.step1 rfl (fun _ => stepG_skip) ?_
      refine O.step1 rfl (fun _ => stepG_inBlock) ?_
      refine O.step1 rfl (fun _ => stepG_inLoop) ?_
      exact ihv v' hlt _ w₂ (by simp) (by simp) hwg hk
set_option maxRecDepth 100000 in
set_option maxHeartbeats 4000000 in
/-- Wait, as its callers' steps see it. -/
theorem wait_go (hW : Back Try.prog W) {m N : Nat} (hm : m < 2147483647) {b₀ : Frame} {a₀ : Act} {ops₀ : Array Oper} {i₀ : Nat} {rest₀ : List Nat} {k₀ : List Item} {cs : List Frame} {w : World} (hwg : ∃ st sm, WgAt tWg Wg w st sm)
    (hk : ∀ w', RWg tWg Wg w w' → (envW W Wg).Go ⟨0, 0, false, N⟩ (G (b₀.at (a₀.put ((ops₀[i₀]?).bind (·.dst)) (.tuple #[])) (.inRegion ops₀ rest₀ :: k₀)) cs) w') :
    (envW W Wg).Go ⟨m, 0, false, N⟩ (G ((base wgLink.wait).at ⟨#[.pointer (some ⟨Wg, 0, none⟩)] ++ Array.replicate 83 undef, []⟩ [.code (body_wait wgLink)]) (b₀.at a₀ (.inRegion ops₀ (i₀ :: rest₀) :: k₀) :: cs)) w := by
  have O := envW_ok (W := W) (Wg := Wg)
  have hloop := wait_loop (Wg := Wg) (cs := cs) (b₀ := b₀) (a₀ := a₀) (ops₀ := ops₀) (i₀ := i₀) (rest₀ := rest₀) (k₀ := k₀) hW (N := N) m hm
  obtain ⟨L, hL⟩ : ∃ L, L = wgLink := ⟨_, rfl⟩
  have H : WgLib Try.prog L := hL ▸ wgLib
  rw [← hL] at hloop ⊢
  clear hL
  lib_facts
  have HL := Lib.hid hloop
  clear hloop
  simp only [body_wait, waitFn, Option.getD_some]
  refine O.step1 rfl (fun _ => stepG_seq) ?_
  refine O.step1 rfl (fun _ => stepG_cond (t := true) rfl) ?_; simp only [if_true, if_false, Bool.false_eq_true, ↓reduceIte]
  refine O.step1 rfl (fun _ => stepG_region) ?_; simp only [List.size_toArray, List.length_cons, List.length_nil, Nat.reduceAdd, Nat.zero_add, List.range, List.range.loop]
  refine markW hW hm rfl hwg (fun w₁ => stepG_mark0 .disable (by simp) rfl rfl (by k_ne) rfl H.f_disable (x_disable_n L) (x_disable_b L) (x_disable_x L) (x_disable_f L)) rfl (fun n hn => evw_mark rfl trivial) ?_
  walk_nrm
  refine O.step1 rfl (fun _ => stepG_region_end) ?_
  refine O.step1 rfl (fun _ => stepG_block) ?_
  refine O.step1 rfl (fun _ => stepG_loop) ?_
  unfold Hid at HL
  exact HL _ w (by simp) (by simp) hwg hk
end
end Go.Proofs.Ytdedmmjmiakidaa
/- Plain words: what a play asks of the threads that it is given. No condition. -/
namespace Go.Proofs.Ytdedmmjmiakidaa
open Go.Conc Go.RowKit
abbrev fNil : FuncId := 74
theorem fnil_run (d : FuncId) (caps : Array Value) (w : World) : Sem.run Try.prog (binOp .eql 94 (.func (.func d) #[] caps) .nilFunc) w = .ok (.bool false) w := by kernel_rfl
theorem fnil_ev (d : FuncId) (caps : Array Value) (w : World) : Sem.events Try.prog (binOp .eql 94 (.func (.func d) #[] caps) .nilFunc) w #[] = #[] := by kernel_rfl
section
variable {E : Env} {bad : E.ι → Nat → Prop} {n : E.ι} {w : World}
theorem retG (G : E.Good bad) {fn : Func} {t : Array Value} {i : Nat} {w : World} {v : Value} (h : fn.results = #[.tmp i]) (hi : t.getD i undef = v) : ∀ w₁, E.R w w₁ → ∃ es, (results fn t).runT E.P w₁ #[] = (.ok v w₁, es) ∧ E.D n w₁ w₁ es := fun w₁ _ => ⟨#[], by
  rw [G.prog, Sem.runT_eq, results_tmp (t := i) h, events_results_tmp (t := i) h, hi], G.ok.still _ _⟩
set_option maxRecDepth 100000 in
theorem isnil_c (G : E.Good bad) {d : FuncId} {caps : Array Value} {Q : E.ι → Value → World → Prop} (hq : Q n (.bool false) w) : cpsC E 74 #[.func (.func d) #[] caps] Q n w := by
  have O := G.ok
  refine cpsC_body O (by rw [G.prog]; exact Try.func74) rfl ?_
  simp only [Try.ntmps74]
  refine cps_opaque fun Q' hQ => ?_
  walk_nrm
  refine cps_seq O ?_
  (refine cps_region O ?_; simp only [List.size_toArray, List.length_cons, List.length_nil, Nat.reduceAdd, Nat.zero_add, List.range, List.range.loop])
  refine valG G (.bool false) rfl rfl (fun _ => by simp [go_sem]) (fun _ => by go_simp; try (first | rfl | (simp [*]))) ?_; try walk_nrm
  refine cpsR_nil O ?_
  show cps _ _ _ _ _ _
  refine cps_seq O ?_
  (refine cps_region O ?_; simp only [List.size_toArray, List.length_cons, List.length_nil, Nat.reduceAdd, Nat.zero_add, List.range, List.range.loop])
  refine valG G (.func (.func d) #[] caps) rfl rfl (fun _ => by simp [go_sem]) (fun _ => by go_simp; try (first | rfl | (simp [*]))) ?_; try walk_nrm
  refine valG G (.bool false) rfl rfl (fun _ => by simp [go_sem, fnil_ev]) (fun _ => by simp [go_sem, fnil_run]) ?_
  try walk_nrm
  refine valG G (.bool false) rfl rfl (fun _ => by simp [go_sem]) (fun _ => by go_simp; try (first | rfl | (simp [*]))) ?_; try walk_nrm
  refine cpsR_nil O ?_
  exact cps_ret O (hQ _ _ _ _ ⟨.inr rfl, .bool false, retG G rfl rfl, hq⟩)
/-- A row of functions. -/
structure FnRow (bad : Nat → Prop) (v : Value) (fs : List Value) (w : World) : Prop where
  row : w.ownsRow 0 tFn 1 v fs.length fs
  ok : ∀ b, v.ownBlock = some b → ¬ bad b
  fns : ∀ x ∈ fs, ∃ (d : FuncId) (caps : Array Value), x = .func (.func d) #[] caps
set_option maxRecDepth 100000 in
set_option maxHeartbeats 1000000 in
theorem nonil_c (G : E.Good bad) {v : Value} {fs : List Value} (h : FnRow (bad n) v fs w) (hl : fs.length < 1000000) {Q : E.ι → Value → World → Prop} (hq : Q n (.int .i64 (-1)) w) : cpsC E 97 #[v, .func (.func 74) #[] #[]] Q n w := by
  have O := G.ok
  refine cpsC_body O (by rw [G.prog]; exact Try.func97) rfl ?_
  simp only [Try.ntmps97]
  refine cps_opaque fun Q' hQ => ?_
  obtain ⟨ao, co, hv⟩ := own_form0 h.row
  subst hv
  have HH := Lib.hid h
  clear h
  walk_nrm
  refine cps_seq O ?_
  (refine cps_region O ?_; simp only [List.size_toArray, List.length_cons, List.length_nil, Nat.reduceAdd, Nat.zero_add, List.range, List.range.loop])
  refine valG G (.int .i64 0) rfl rfl (fun _ => by simp [go_sem]) (fun _ => by go_simp; try (first | rfl | (simp [*]))) ?_; try walk_nrm
  refine cpsR_nil O ?_
  show cps _ _ _ _ _ _
  refine cps_seq O ?_
  refine cps_seq O ?_
  (refine cps_region O ?_; simp only [List.size_toArray, List.length_cons, List.length_nil, Nat.reduceAdd, Nat.zero_add, List.range, List.range.loop])
  refine valG G (.slice ao fs.length co) rfl rfl (fun _ => by simp [go_sem]) (fun _ => by go_simp; try (first | rfl | (simp [*]))) ?_; try walk_nrm
  refine valG G (.int .i64 fs.length) rfl rfl (fun _ => by simp [go_sem]) (fun _ => by go_simp; try (first | rfl | (simp [*]))) ?_; try walk_nrm
  refine valG G (.int .i64 0) rfl rfl (fun _ => by simp [go_sem]) (fun _ => by go_simp; try (first | rfl | (simp [*]))) ?_; try walk_nrm
  refine cpsR_nil O ?_
  show cps _ _ _ _ _ _
  refine cps_block O ?_
  refine cps_loopm O (fun m n' t w' => n' = n ∧ w' = w ∧ ∃ (i : Nat) (y5 y9 y10 y11 y12 y13 y14 y15 y16 y17 y18 : Value), m + i = fs.length ∧ t = #[.slice ao fs.length co, .func (.func 74) #[] #[], undef, undef, .int .i64 0, y5, .slice ao fs.length co, .int .i64 fs.length, .int .i64 i, y9, y10, y11, y12, y13, y14, y15, y16, y17, y18]) ?_ (m := fs.length) ⟨rfl, rfl, 0, _, _, _, _, _, _, _, _, _, _, _, rfl, rfl⟩
  rintro m n' t w' ⟨rfl, rfl, i, y5, y9, y10, y11, y12, y13, y14, y15, y16, y17, y18, hmi, rfl⟩
  by_cases hi : i < fs.length
  · have h1 : decide (i < fs.length) = true := by simpa using hi
    have h2 : decide ((i : Int) < (fs.length : Int)) = true := by simp; omega
    obtain ⟨g, cap, e⟩ := own_form HH.out.row (by omega)
    cases e
    obtain ⟨x, hx⟩ : ∃ x, fs[i]? = some x := ⟨_, List.getElem?_eq_getElem hi⟩
    obtain ⟨d, caps, rfl⟩ := HH.out.fns x (List.mem_of_getElem? hx)
    have hcell : w'.cell? ⟨g, i, none⟩ = some (.func (.func d) #[] caps) := by
      have := HH.out.row.cells (g := g) rfl i (.func (.func d) #[] caps) (by simp [hx])
      have e : ((⟨g, 0, none⟩ : Addr).add i) = ⟨g, i, none⟩ := by
        unfold Addr.add
        split <;> simp_all
      rw [e] at this
      exact this
    have hg : ¬ bad n' g := HH.out.ok g rfl
    have h4 : decide (i < fs.length) = true := by simpa using hi
    have h7 : i < fs.length := hi
    have h8 : (i : Int) < fs.length := by omega
    clear hx
    refine cps_seq O ?_
    (refine cps_region O ?_; simp only [List.size_toArray, List.length_cons, List.length_nil, Nat.reduceAdd, Nat.zero_add, List.range, List.range.loop])
    refine valG G (.bool true) rfl rfl (fun _ => by simp [go_sem]) (fun _ => by go_simp; try (first | rfl | (simp [*]))) ?_; try walk_nrm
    refine cpsR_nil O ?_
    show cps _ _ _ _ _ _
    refine cps_seq O ?_
    refine cps_cond O (v := true) rfl ?_
    simp only [if_true]
    refine cps_skip O ?_
    show cps _ _ _ _ _ _
    refine cps_seq O ?_
    refine cps_block O ?_
    refine cps_seq O ?_
    (refine cps_region O ?_; simp only [List.size_toArray, List.length_cons, List.length_nil, Nat.reduceAdd, Nat.zero_add, List.range, List.range.loop])
    refine valG G (.int .i64 i) rfl rfl (fun _ => by simp [go_sem]) (fun _ => by go_simp; try (first | rfl | (simp [*]))) ?_; try walk_nrm
    refine valG G (.int .i64 i) rfl rfl (fun _ => by simp [go_sem]) (fun _ => by go_simp; try (first | rfl | (simp [*]))) ?_; try walk_nrm
    refine cpsR_nil O ?_
    show cps _ _ _ _ _ _
    refine cps_seq O ?_
    (refine cps_region O ?_; simp only [List.size_toArray, List.length_cons, List.length_nil, Nat.reduceAdd, Nat.zero_add, List.range, List.range.loop])
    refine valG G (.func (.func fNil) #[] #[]) rfl rfl (fun _ => by simp [go_sem]) (fun _ => by go_simp; try (first | rfl | (simp [*]))) ?_; try walk_nrm
    refine valG G (.slice (some ⟨g, 0, none⟩) fs.length co) rfl rfl (fun _ => by simp [go_sem]) (fun _ => by go_simp; try (first | rfl | (simp [*]))) ?_; try walk_nrm
    refine valG G (.int .i64 i) rfl rfl (fun _ => by simp [go_sem]) (fun _ => by go_simp; try (first | rfl | (simp [*]))) ?_; try walk_nrm
    refine valG G (.pointer (some ⟨g, i, none⟩)) rfl rfl (fun _ => by simp [go_sem, *]) (fun _ => by go_simp; try (first | rfl | (simp [*]))) ?_; try walk_nrm
    refine readG G (ad := ⟨g, i, none⟩) (v := .func (.func d) #[] caps) hg hcell rfl rfl (fun w₁ hc => by simp [go_sem, hc]) (fun w₁ hc => by go_simp) ?_; try walk_nrm
    refine callG G (f := 74) (vals := #[.func (.func d) #[] caps]) rfl rfl (fun w₁ => ?_) (fun w₁ => ?_) Try.func74 rfl rfl (isnil_c G ?_)
    · simp [go_sem, execOp, resolve, invoke, Deferred.ofValue, Act.eval]
    · simp [go_sem, execOp, resolve, invoke, Deferred.ofValue, Act.eval]
    try walk_nrm
    refine cpsR_nil O ?_
    show cps _ _ _ _ _ _
    refine cps_cond O (v := false) rfl ?_
    simp only [Bool.false_eq_true, if_false]
    refine cps_skip O ?_
    show cps _ _ _ _ _ _
    (refine cps_region O ?_; simp only [List.size_toArray, List.length_cons, List.length_nil, Nat.reduceAdd, Nat.zero_add, List.range, List.range.loop])
    have hw1 := wrap_i64 ((i : Int) + 1) (by omega) (by omega)
    refine valG G (.int .i64 (i + 1)) rfl rfl (fun _ => by simp [go_sem]) (fun _ => by go_simp; try (first | rfl | (simp [*]))) ?_; try walk_nrm
    refine valG G (.int .i64 (i + 1)) rfl rfl (fun _ => by simp [go_sem]) (fun _ => by go_simp; try (first | rfl | (simp [*]))) ?_; try walk_nrm
    refine cpsR_nil O ?_
    exact ⟨m - 1, by omega, rfl, rfl, i + 1, _, _, _, _, _, _, _, _, _, _, _, by omega, rfl⟩
  · have h1 : decide (i < fs.length) = false := by simpa using hi
    have h2 : decide ((i : Int) < (fs.length : Int)) = false := by simp; omega
    refine cps_seq O ?_
    (refine cps_region O ?_; simp only [List.size_toArray, List.length_cons, List.length_nil, Nat.reduceAdd, Nat.zero_add, List.range, List.range.loop])
    refine valG G (.bool false) rfl rfl (fun _ => by simp [go_sem]) (fun _ => by go_simp; try (first | rfl | (simp [*]))) ?_; try walk_nrm
    refine cpsR_nil O ?_
    show cps _ _ _ _ _ _
    refine cps_seq O ?_
    refine cps_cond O (v := false) rfl ?_
    simp only [Bool.false_eq_true, if_false]
    refine cps_exit O ?_
    show cps _ _ _ _ _ _
    refine cps_seq O ?_
    (refine cps_region O ?_; simp only [List.size_toArray, List.length_cons, List.length_nil, Nat.reduceAdd, Nat.zero_add, List.range, List.range.loop])
    refine valG G (.int .i64 (-1)) rfl rfl (fun _ => by simp [go_sem]) (fun _ => by go_simp; try (first | rfl | (simp [*]))) ?_; try walk_nrm
    refine cpsR_nil O ?_
    exact cps_ret O (hQ _ _ _ _ ⟨.inr rfl, .int .i64 (-1), retG G rfl rfl, hq⟩)
set_option maxRecDepth 100000 in
theorem hasnil_c (G : E.Good bad) {v : Value} {fs : List Value} (h : FnRow (bad n) v fs w) (hl : fs.length < 1000000) {Q : E.ι → Value → World → Prop} (hq : Q n (.bool false) w) : cpsC E 73 #[v, .func (.func 74) #[] #[]] Q n w := by
  have O := G.ok
  refine cpsC_body O (by rw [G.prog]; exact Try.func73) rfl ?_
  simp only [Try.ntmps73]
  refine cps_opaque fun Q' hQ => ?_
  obtain ⟨ao, co, hv⟩ := own_form0 h.row
  subst hv
  have HH := Lib.hid h
  clear h
  walk_nrm
  refine cps_seq O ?_
  (refine cps_region O ?_; simp only [List.size_toArray, List.length_cons, List.length_nil, Nat.reduceAdd, Nat.zero_add, List.range, List.range.loop])
  refine valG G (.bool false) rfl rfl (fun _ => by simp [go_sem]) (fun _ => by go_simp; try (first | rfl | (simp [*]))) ?_; try walk_nrm
  refine cpsR_nil O ?_
  show cps _ _ _ _ _ _
  refine cps_seq O ?_
  (refine cps_region O ?_; simp only [List.size_toArray, List.length_cons, List.length_nil, Nat.reduceAdd, Nat.zero_add, List.range, List.range.loop])
  refine valG G (.slice ao fs.length co) rfl rfl (fun _ => by simp [go_sem]) (fun _ => by go_simp; try (first | rfl | (simp [*]))) ?_; try walk_nrm
  refine valG G (.func (.func fNil) #[] #[]) rfl rfl (fun _ => by simp [go_sem]) (fun _ => by go_simp; try (first | rfl | (simp [*]))) ?_; try walk_nrm
  refine callS G (f := 97) (vals := #[.slice ao fs.length co, .func (.func 74) #[] #[]]) rfl rfl rfl Try.func97 rfl rfl rfl (nonil_c G HH.out hl ?_)
  try walk_nrm
  refine valG G (.bool false) rfl rfl (fun _ => by simp [go_sem]) (fun _ => by go_simp; try (first | rfl | (simp [*]))) ?_; try walk_nrm
  refine valG G (.bool false) rfl rfl (fun _ => by simp [go_sem]) (fun _ => by go_simp; try (first | rfl | (simp [*]))) ?_; try walk_nrm
  refine cpsR_nil O ?_
  exact cps_ret O (hQ _ _ _ _ ⟨.inr rfl, .bool false, retG G rfl rfl, hq⟩)
set_option maxRecDepth 100000 in
/-- Nothing is wrong. -/
theorem wrong_c (G : E.Good bad) {v : Value} {fs : List Value} (h : FnRow (bad n) v fs w) (hl : fs.length ≤ 16) (h0 : fs.length ≠ 0) {Q : E.ι → Value → World → Prop} (hq : Q n (.int .i64 0) w) : cpsC E 52 #[v] Q n w := by
  have O := G.ok
  refine cpsC_body O (by rw [G.prog]; exact Try.func52) rfl ?_
  simp only [Try.ntmps52]
  refine cps_opaque fun Q' hQ => ?_
  obtain ⟨ao, co, hv⟩ := own_form0 h.row
  subst hv
  have HH := Lib.hid h
  clear h
  have q1 : decide (fs.length = 0) = false := decide_eq_false h0
  have q2 : decide ((fs.length : Int) = 0) = false := decide_eq_false (by omega)
  have q3 : ((fs.length : Int) == 0) = false := by simp; exact fun h => h0 (by rw [h]; rfl)
  have q4 : decide ((16 : Int) < fs.length) = false := decide_eq_false (by omega)
  have q5 : decide (16 < fs.length) = false := decide_eq_false (by omega)
  walk_nrm
  refine cps_seq O ?_
  (refine cps_region O ?_; simp only [List.size_toArray, List.length_cons, List.length_nil, Nat.reduceAdd, Nat.zero_add, List.range, List.range.loop])
  refine valG G (.int .i64 0) rfl rfl (fun _ => by simp [go_sem]) (fun _ => by go_simp; try (first | rfl | (simp [*]))) ?_; try walk_nrm
  refine cpsR_nil O ?_
  show cps _ _ _ _ _ _
  refine cps_seq O ?_
  refine cps_block O ?_
  refine cps_seq O ?_
  (refine cps_region O ?_; simp only [List.size_toArray, List.length_cons, List.length_nil, Nat.reduceAdd, Nat.zero_add, List.range, List.range.loop])
  refine valG G (.slice ao fs.length co) rfl rfl (fun _ => by simp [go_sem]) (fun _ => by go_simp; try (first | rfl | (simp [*]))) ?_; try walk_nrm
  refine callS G (f := 73) (vals := #[.slice ao fs.length co, .func (.func 74) #[] #[]]) rfl rfl rfl Try.func73 rfl rfl rfl (hasnil_c G HH.out (by omega) ?_)
  try walk_nrm
  refine valG G (.bool false) rfl rfl (fun _ => by simp [go_sem]) (fun _ => by go_simp; try (first | rfl | (simp [*]))) ?_; try walk_nrm
  refine cpsR_nil O ?_
  show cps _ _ _ _ _ _
  refine cps_cond O (v := false) rfl ?_
  simp only [Bool.false_eq_true, if_false]
  refine cps_seq O ?_
  (refine cps_region O ?_; simp only [List.size_toArray, List.length_cons, List.length_nil, Nat.reduceAdd, Nat.zero_add, List.range, List.range.loop])
  refine valG G (.slice ao fs.length co) rfl rfl (fun _ => by simp [go_sem]) (fun _ => by go_simp; try (first | rfl | (simp [*]))) ?_; try walk_nrm
  refine valG G (.int .i64 fs.length) rfl rfl (fun _ => by simp [go_sem]) (fun _ => by go_simp; try (first | rfl | (simp [*]))) ?_; try walk_nrm
  refine valG G (.bool false) rfl rfl (fun _ => by simp [go_sem]) (fun _ => by go_simp; try (first | rfl | (simp [*]))) ?_; try walk_nrm
  refine valG G (.bool false) rfl rfl (fun _ => by simp [go_sem]) (fun _ => by go_simp; try (first | rfl | (simp [*]))) ?_; try walk_nrm
  refine cpsR_nil O ?_
  show cps _ _ _ _ _ _
  refine cps_cond O (v := false) rfl ?_
  simp only [Bool.false_eq_true, if_false]
  refine cps_seq O ?_
  (refine cps_region O ?_; simp only [List.size_toArray, List.length_cons, List.length_nil, Nat.reduceAdd, Nat.zero_add, List.range, List.range.loop])
  refine valG G (.slice ao fs.length co) rfl rfl (fun _ => by simp [go_sem]) (fun _ => by go_simp; try (first | rfl | (simp [*]))) ?_; try walk_nrm
  refine valG G (.int .i64 fs.length) rfl rfl (fun _ => by simp [go_sem]) (fun _ => by go_simp; try (first | rfl | (simp [*]))) ?_; try walk_nrm
  refine valG G (.bool false) rfl rfl (fun _ => by simp [go_sem]) (fun _ => by go_simp; try (first | rfl | (simp [*]))) ?_; try walk_nrm
  refine valG G (.bool false) rfl rfl (fun _ => by simp [go_sem]) (fun _ => by go_simp; try (first | rfl | (simp [*]))) ?_; try walk_nrm
  refine cpsR_nil O ?_
  show cps _ _ _ _ _ _
  refine cps_cond O (v := false) rfl ?_
  simp only [Bool.false_eq_true, if_false]
  refine cps_skip O ?_
  show cps _ _ _ _ _ _
  refine cps_seq O ?_
  (refine cps_region O ?_; simp only [List.size_toArray, List.length_cons, List.length_nil, Nat.reduceAdd, Nat.zero_add, List.range, List.range.loop])
  refine valG G (.int .i64 0) rfl rfl (fun _ => by simp [go_sem]) (fun _ => by go_simp; try (first | rfl | (simp [*]))) ?_; try walk_nrm
  refine cpsR_nil O ?_
  exact cps_ret O (hQ _ _ _ _ ⟨.inr rfl, .int .i64 0, retG G rfl rfl, hq⟩)
end
end Go.Proofs.Ytdedmmjmiakidaa
/- Plain words: into a play's company, into the wait, out of it. No condition. -/
namespace Go.Proofs.Ytdedmmjmiakidaa
open Go.Conc Go.RowKit
open Go.ConcN (sumTo upd sumTo_upd upd_ne upd_same)
open Go.ConcR (KK wgBlock WgAt stA smA rd wr mk)
section
variable {X : Spec} {W : Machine → Trace → Prop} {Wg : Nat} {A : MI X} {w : World} {x : LX} {g : Goroutine}
/-- A play that has not begun. -/
def MI.empty (X : Spec) (n : Nat) : MI X := ⟨[], [], n, 0, 0, fun _ => False⟩
theorem no_seat (s : SV) : ¬ (Membership.mem (γ := Tab) [] s) := fun ⟨v, hv⟩ => nomatch hv
theorem empty_ok {n : Nat} (h : 0 < n) : (MI.empty X n).Ok Wg := ⟨h, fun s hs => absurd hs (no_seat s), fun s hs => absurd hs (no_seat s), fun _ h => h.elim⟩
/-- The group is laid: into the play. -/
theorem intoM (hW : Back Try.prog W) (hx : x.wg = none) (hn : 0 < x.n) {b : Frame} {a : Act} {k : List Item} {cs : List Frame} {ops : Array Oper} {i : Nat} {l : List Nat} {o : Oper} {v : Value} {ob : Obj} (ho : ops[i]? = some o) (hw : Region.wanted o (yielded ops a.tmps) = true) (hke : b.kind ≠ .early)
    (he : ∀ w₁, (execOp a.eval o).events Try.prog w₁ #[] = #[]) (hr : ∀ w₁ : World, w₁.heap.size = w.heap.size → (execOp a.eval o).run Try.prog w₁ = .ok (.value v) (w₁.alloc ob)) (hob : ∀ w₁ : World, w₁.heap.size = w.heap.size → WgAt tWg w.heap.size (w₁.alloc ob) 0 0)
    (h : (envM W X w.heap.size).Go (MI.empty X x.n) (G (b.at (a.put o.dst v) (.inRegion ops l :: k)) cs) (w.alloc ob)) : (envL W).Go x (G (b.at a (.inRegion ops (i :: l) :: k)) cs) w := goL fun w0 hR0 gs T q L hP hg hsz => by
  refine lop hW rfl hg L hP fun w₁ hR => ?_
  have hat := atRel_trans _ _ _ hR0 hR
  obtain ⟨d, hd⟩ := hat
  have hs1 : w₁.heap.size = w.heap.size := by rw [hd]; rfl
  have hl : Go.Conc.listed Try.prog b.fn a o w₁ = #[] := by unfold Go.Conc.listed; rw [he w₁, seen_none]
  refine ⟨_, _, _, stepG_value ho hw hke (hr w₁ hs1), ⟨by rw [(alloc_at w₁ ob).2.1]; exact Nat.le_succ _, by rw [hl]; simp⟩, fun gs' T₀ q' fn pos hsz' L' hP' ha' hlow => ?_⟩
  have hbase : Base Try.prog tWg w.heap.size (WgL w.heap.size) (fun _ => True) (fun _ => False) (fun _ => False) (fun _ => none) 0 (fun x => x = 0) 0 0 (fun _ => 0) gs' (T₀ ++ MemOp.ofEvents 0 fn pos (Go.Conc.listed Try.prog b.fn a o w₁)) (w₁.alloc ob) q' := by
    refine Base.ofL (Shun := x.sh) L' hP' (fun l hl => ?_) (fun j acc hacc hwl => ?_) (hob w₁ hs1)
    · unfold LX.sh at hl
      rw [hx] at hl
      exact hl.elim
    · obtain ⟨ad, hloc, hblk⟩ := hwl
      unfold touchAt at hacc
      rw [hl] at hacc
      obtain ⟨op, h1, h2⟩ := Option.bind_eq_some_iff.1 hacc
      have h1 : (T₀.act? j) = some op := by simpa [MemOp.ofEvents] using h1
      obtain ⟨op', h3, rfl⟩ := Option.map_eq_some_iff.1 (show (T₀[j]?).map (·.act) = some op from h1)
      have := touch_low h2 (hlow op' (Array.mem_of_getElem? h3))
      rw [hloc] at this
      have this : ad.block < w₁.heap.size := this
      omega
  have hG : (envM W X w.heap.size).Go (MI.empty X x.n) (G (b.at (a.put o.dst v) (.inRegion ops l :: k)) cs) (w₁.alloc ob) := by
    have hR2 : RWg tWg w.heap.size (w.alloc ob) (w₁.alloc ob) := by
      rw [hd]
      refine ⟨fun _ _ => rfl, fun _ => ⟨0, 0, ?_⟩, fun _ hn => ?_, rfl, rfl, rfl, rfl⟩
      · have := hob w₁ hs1
        rw [hd] at this
        exact this
      · exact ⟨_, hn⟩
    exact GoesI.rely envM_ok.rtrans h hR2
  refine winM (A := MI.empty X x.n) hW (empty_ok hn) hG (fun _ => 0) gs' _ q' ?_ ?_ ha'
  · have e1 : KT (MI.empty X x.n).θ = fun _ => True := funext fun w => propext ⟨fun _ => trivial, fun _ s hs => absurd hs (no_seat s)⟩
    have e3 : isCh (MI.empty X x.n).θ = fun _ => False := funext fun c => propext ⟨fun ⟨s, hs, _⟩ => no_seat s hs, fun h => h.elim⟩
    have e4 : (MI.empty X x.n).seat w.heap.size = fun _ => none := by
      funext j
      unfold MI.seat MI.empty
      simp
    rw [e1, e3, e4]
    exact hbase
  · rw [hsz', hsz]; rfl
/-- Into the wait. -/
theorem intoW (hW : Back Try.prog W) (hall : ∀ p ∈ A.thr, p.2 = none) (hd : A.d = 0) (hcr : A.cr = 0) (hm : A.off + A.thr.length < 2147483647) (h : (envW W Wg).Go ⟨A.off + A.thr.length, 0, false, A.off + A.thr.length⟩ g w) : (envM W X Wg).Go A g w := goM fun w₁ hR ct gs T q B hsz hg => by
  have hno : A.seat Wg = fun _ => none := by
    funext x
    cases e : A.seat Wg x with
    | none => rfl
    | some st =>
      obtain ⟨i, s, pc, n, _, hi, _⟩ := MI.seat_inv e
      have := hall _ (List.mem_of_getElem? hi)
      cases this
  rw [hno, hd, hcr] at B
  have hct : ∀ i, ct i = 0 ∨ ct i = 1 := fun i => by have := (B.ones i).1; omega
  have hsum : ∀ N, sumTo N ct ≤ N := fun N => by
    induction N with
    | zero => exact Nat.le_refl _
    | succ N ih => show sumTo N ct + ct N ≤ N + 1; have := (B.ones N).1; omega
  have B2 := WB.ofBase B hct ((B.ones 0).2 rfl)
  refine winW (x := ⟨A.off + A.thr.length, 0, false, A.off + A.thr.length⟩) hW hm (GoesI.rely envW_ok.rtrans h hR) (fun i => if ct i = 1 then 4 else 0) gs T q ?_ hg
  have hs := hsum gs.size
  rw [hsz] at B2 hs
  exact ⟨B2.size, B2.idle, B2.above, B2.zero, B2.past, B2.deaf, B2.wg, Nat.le_trans B2.few hs⟩
/-- Out of it. -/
theorem outW (hW : Back Try.prog W) {N : Nat} (h : ∀ w₁, RWg tWg Wg w w₁ → (envL W).Go ⟨some Wg, N⟩ g w₁) : (envW W Wg).Go ⟨0, 0, false, N⟩ g w := goW fun w₁ hR ph gs T q B hg => by
  have hf : sumTo N (cnt4 ph) = 0 := Nat.le_zero.1 B.few
  obtain ⟨st, sm, _, hmode⟩ := B.wg
  have hph : ph = fun _ => 0 := by
    funext i
    cases hmode with
    | opn hz =>
      rcases Nat.lt_or_ge i N with hi | hi
      · exact (hz i).resolve_right (cnt4_zero hf i hi)
      · exact (B.above i hi).2
  rw [hph] at B
  obtain ⟨L, hP⟩ := WB.toL (m := 0) (N := N) B
  exact winL (x := ⟨some Wg, N⟩) hW (h w₁ hR) gs T q L hP hg B.size
end
end Go.Proofs.Ytdedmmjmiakidaa
/- Plain words: a play, from its call to its end. No condition. -/
namespace Go.Proofs.Ytdedmmjmiakidaa
open Go.Conc Go.RowKit Go.Conc.Lib Go.ConcR.Gen Go.ConcN.Gen
open Go.ConcR (KK wgBlock WgAt stA smA rd wr mk)
section
variable {E : Env} {n : E.ι} {t : Array Value} {w : World} {b : Frame} {k : List Item} {cs : List Frame}
/-- The first of two pieces, in the raw. -/
theorem goSeq (O : E.Ok) {c d : Code} (hf : E.Fr b cs) (h : ∀ Q' : E.ι → Exit → Array Value → World → Prop, (∀ n' t' w', E.Go n' (G (b.at ⟨t', []⟩ (.code d :: k)) cs) w' → Q' n' .normal t' w') → cps E c Q' n t w) : E.Go n (G (b.at ⟨t, []⟩ (.code (.seq c d) :: k)) cs) w :=
  O.step1 rfl (fun _ => stepG_seq) (h (fun n' e t' w' => e = .normal ∧ E.Go n' (G (b.at ⟨t', []⟩ (.code d :: k)) cs) w') (fun _ _ _ h => ⟨rfl, h⟩) b (.code d :: k) cs hf fun n' _ e t' w' q => by
    obtain ⟨rfl, q⟩ := q
    exact q)
end
section
variable {E : Env} {bad : E.ι → Nat → Prop} {n : E.ι} {w : World} {ops : Array Oper} {i : Nat} {o : Oper} {l : List Nat} {t : Array Value} {Qr : E.ι → Array Value → World → Prop}
/-- A read of two cells. -/
theorem read2G (G : E.Good bad) {a1 a2 : Addr} {v1 v2 v : Value} (hn1 : ¬ bad n a1.block) (hn2 : ¬ bad n a2.block) (hc1 : w.cell? a1 = some v1) (hc2 : w.cell? a2 = some v2) (ho : ops[i]? = some o) (hw : Region.wanted o (yielded ops t) = true)
    (he : ∀ w₁, w₁.cell? a1 = some v1 → w₁.cell? a2 = some v2 → (execOp (⟨t, []⟩ : Act).eval o).events Try.prog w₁ #[] = #[⟨.cell a1, false, false⟩, ⟨.cell a2, false, false⟩]) (hr : ∀ w₁, w₁.cell? a1 = some v1 → w₁.cell? a2 = some v2 → (execOp (⟨t, []⟩ : Act).eval o).run Try.prog w₁ = .ok (.value v) w₁)
    (h : cpsR E ops l Qr n ((⟨t, []⟩ : Act).put o.dst v).tmps w) : cpsR E ops (i :: l) Qr n t w := by
  refine cpsR_op G.ok ho hw fun w₁ hR => ?_
  have h1 := G.cell hn1 hc1 hR
  have h2 := G.cell hn2 hc2 hR
  refine ⟨v, w₁, #[⟨.cell a1, false, false⟩, ⟨.cell a2, false, false⟩], .inl ?_, G.reads n w₁ _ fun e hel => ?_, h.rely G.ok hR⟩
  · rw [G.prog, Sem.runT_eq, hr w₁ h1 h2, he w₁ h1 h2]
  · simp only [List.mem_toArray, List.mem_cons, List.not_mem_nil, or_false] at hel
    rcases hel with rfl | rfl
    · exact ⟨a1, rfl, hn1, size_of_cell h1⟩
    · exact ⟨a2, rfl, hn2, size_of_cell h2⟩
end
section
variable {W : Machine → Trace → Prop} {x : LX} {w : World} {ops : Array Oper} {i : Nat} {o : Oper} {l : List Nat} {t : Array Value} {Qr : LX → Array Value → World → Prop}
theorem allocL {ob : Obj} (v : Value) (ho : ops[i]? = some o) (hw : Region.wanted o (yielded ops t) = true) (he : ∀ w₁, (execOp (⟨t, []⟩ : Act).eval o).events Try.prog w₁ #[] = #[])
    (hr : ∀ w₁ : World, w₁.heap.size = w.heap.size → (execOp (⟨t, []⟩ : Act).eval o).run Try.prog w₁ = .ok (.value v) (w₁.alloc ob)) (h : cpsR (envL W) ops l Qr x ((⟨t, []⟩ : Act).put o.dst v).tmps (w.alloc ob)) : cpsR (envL W) ops (i :: l) Qr x t w := by
  refine cpsR_op envL_ok ho hw fun w₁ hR => ?_
  obtain ⟨d, rfl⟩ : AtRel w w₁ := hR
  refine ⟨v, (w.at d).alloc ob, #[], .inl ?_, ⟨by rw [(alloc_at (w.at d) ob).2.1]; exact Nat.le_succ _, by simp⟩, h.rely envL_ok (show AtRel _ _ from ⟨d, rfl⟩)⟩
  show (execOp (⟨t, []⟩ : Act).eval o).runT Try.prog _ #[] = _
  rw [Sem.runT_eq, hr (w.at d) rfl, he]
theorem storeL {f : World → World} {es : Array Event} (hf : ∀ d : Nat, f (w.at d) = (f w).at d) (hs : (f w).heap.size = w.heap.size) (hes : ∀ e ∈ es, ∃ (a : Addr) (wr : Bool), e = ⟨.cell a, wr, false⟩ ∧ ¬ x.bad a.block ∧ a.block < w.heap.size) (ho : ops[i]? = some o) (hw : Region.wanted o (yielded ops t) = true) (hst : ∀ d : Nat, (execOp (⟨t, []⟩ : Act).eval o).runT Try.prog (w.at d) #[] = (.ok .skip (f (w.at d)), es))
    (h : cpsR (envL W) ops l Qr x ((⟨t, []⟩ : Act).put o.dst undef).tmps (f w)) : cpsR (envL W) ops (i :: l) Qr x t w := by
  refine cpsR_op envL_ok ho hw fun w₁ hR => ?_
  obtain ⟨d, rfl⟩ : AtRel w w₁ := hR
  refine ⟨undef, f (w.at d), es, .inr ⟨hst d, rfl⟩, ⟨by rw [hf]; exact Nat.le_of_eq hs.symm, fun e he => ?_⟩, h.rely envL_ok (show AtRel _ _ from ⟨d, hf d⟩)⟩
  obtain ⟨a, wr, rfl, hb, hl⟩ := hes e he
  exact evL_cell a wr (sh_bad hb) (by rw [hf]; show _ < (f w).heap.size; rw [hs]; exact hl)
end
theorem wait_go' {W : Machine → Trace → Prop} {Wg : Nat} {w : World} (hW : Back Try.prog W) {m N : Nat} (hm : m < 2147483647) {t0 : Array Value} {b₀ : Frame} {a₀ : Act} {ops₀ : Array Oper} {i₀ : Nat} {rest₀ : List Nat} {k₀ : List Item} {cs : List Frame} (ht : t0 = #[.pointer (some ⟨Wg, 0, none⟩)] ++ Array.replicate 83 undef) (hwg : ∃ st sm, WgAt tWg Wg w st sm)
    (hk : ∀ w', RWg tWg Wg w w' → (envW W Wg).Go ⟨0, 0, false, N⟩ (G (b₀.at (a₀.put ((ops₀[i₀]?).bind (·.dst)) (.tuple #[])) (.inRegion ops₀ rest₀ :: k₀)) cs) w') :
    (envW W Wg).Go ⟨m, 0, false, N⟩ (G ((base wgLink.wait).at ⟨t0, []⟩ [.code (body_wait wgLink)]) (b₀.at a₀ (.inRegion ops₀ (i₀ :: rest₀) :: k₀) :: cs)) w := by
  subst ht
  exact wait_go hW hm hwg hk
noncomputable def p0 : Code := match (Try.f37.body.getD .skip) with | .seq c _ => c | c => c
noncomputable def p1 : Code := match (Try.f37.body.getD .skip) with | .seq _ (.seq c _) => c | c => c
noncomputable def p2 : Code := match (Try.f37.body.getD .skip) with | .seq _ (.seq _ (.seq c _)) => c | c => c
noncomputable def p6 : Code := match (Try.f37.body.getD .skip) with | .seq _ (.seq _ (.seq _ (.seq c _))) => c | c => c
noncomputable def p7 : Code := match (Try.f37.body.getD .skip) with | .seq _ (.seq _ (.seq _ (.seq _ (.seq c _)))) => c | c => c
noncomputable def p35 : Code := match (Try.f37.body.getD .skip) with | .seq _ (.seq _ (.seq _ (.seq _ (.seq _ (.seq _ (.seq _ (.seq _ (.seq _ (.seq c _))))))))) => c | c => c
noncomputable def p36 : Code := match (Try.f37.body.getD .skip) with | .seq _ (.seq _ (.seq _ (.seq _ (.seq _ (.seq _ (.seq _ (.seq _ (.seq _ (.seq _ (.seq c _)))))))))) => c | c => c
theorem body_play : Try.f37.body = some (.seq p0 (.seq p1 (.seq p2 (.seq p6 (.seq p7 (.seq c8 (.seq c15 (.seq c20 (.seq c28 (.seq p35 (.seq p36 .ret))))))))))) := by kernel_rfl
/-- Behind a play. -/
structure Played (Y : Core) (Wg B0 : Nat) (o₀ : Own) (a : Y.St) (tr : List Turned) (vt : Value) (w : World) : Prop where
  wg : ∃ st sm, WgAt tWg Wg w st sm
  wgo : o₀ Wg = none
  rep : Y.Rep a w
  foot : ∀ b, Y.foot a b → b ≠ Wg ∧ o₀ b = none ∧ vt.ownBlock ≠ some b
  old : Keeps o₀ w
  os : w.os = o₀.os
  out : w.output = o₀.out
  trace : w.ownsRow B0 tTurned 3 vt tr.length (tr.flatMap turnCells)
  traceW : vt.ownBlock ≠ some Wg
  base : ∀ b ob, o₀ b = some ob → b < B0
section
variable {Y : Core} {W : Machine → Trace → Prop} {Wg B0 pb rb off : Nat} {o₀ : Own} {A : MI Y.spec} {w : World} {σ : PSt Y} {svs : List SV} {tr : List Turned} {a : Y.St} {vs vt : Value}
theorem over_ok (h : A.Ok Wg) : A.over.Ok Wg := ⟨h.pos, fun s hs => absurd hs (no_seat s), fun s hs => absurd hs (no_seat s), fun _ h => h.elim⟩
/-- The play begins. -/
theorem LP.begin {n : Nat} (hn : 0 < n) (hwg : ∃ st sm, WgAt tWg Wg w st sm) (hrow : w.heap[pb]? = some (.cells #[.slice none 0 0, .slice none 0 0, .slice none 0 0] tPlay (0, 0))) (hpW : pb ≠ Wg) (hold : ∀ b ob, o₀ b = some ob → w.heap[b]? = some ob ∧ b < pb ∧ b ≠ Wg ∧ (b < Y.base ∨ ∀ cap buf cl x r t, ob ≠ .chan cap buf cl x r t)) (hbW : Y.base ≤ Wg)
    (hos : w.os = o₀.os ∧ w.output = o₀.out) (hrep : Y.Rep a w) (hfoot : ∀ b, Y.foot a b → o₀ b = none ∧ b ≠ Wg ∧ b ≠ pb) : LP Wg pb pb n o₀ (MI.empty Y.spec n) ⟨a, [], []⟩ (.slice none 0 0) (.slice none 0 0) w := by
  have hmine : ∀ b, mineB o₀ pb (.slice none 0 0) (.slice none 0 0) b ↔ o₀ b ≠ none ∨ b = pb := fun b => by simp [mineB, Value.ownBlock]
  have hnoF : ∀ b, inF Wg [] b → b = Wg := fun b hb => hb.resolve_right fun ⟨s, hs, _⟩ => no_seat s hs
  have hmW : ∀ b, mineB o₀ pb (.slice none 0 0) (.slice none 0 0) b → b ≠ Wg := fun b hb => by
    rcases (hmine b).1 hb with h | rfl
    · obtain ⟨ob, hob⟩ := Option.ne_none_iff_exists'.1 h
      exact (hold b ob hob).2.2.1
    · exact hpW
  have hst : (fun _ : Loc => False) = StT [] := funext fun l => propext ⟨fun h => h.elim, fun ⟨s, hs, _⟩ => no_seat s hs⟩
  have hok := empty_ok (X := Y.spec) (Wg := Wg) hn
  refine ⟨hok, ⟨fun s hs => absurd hs (no_seat s), fun i j p q h => (by simp [MI.empty] at h), fun p hp => (by simp [MI.empty] at hp)⟩, fun i j p q h => (by simp [MI.empty] at h), rfl, rfl, rfl, rfl, hst, rfl, fun p hp => (by simp [MI.empty] at hp), by simp, by simp [MI.empty], ?_⟩
  refine ⟨⟨fun s hs => absurd hs (no_seat s), hwg, fun c ⟨s, hs, _⟩ => absurd hs (no_seat s), fun s x y z hm => (by cases hm)⟩, ⟨hrow, World.ownsRow_nil _ _ _ _, World.ownsRow_nil _ _ _ _⟩, fun u hu => ⟨?_, fun b ob hob => ?_, hu.os, hu.output⟩, fun b ob hob => ⟨(hold b ob hob).1, (hold b ob hob).2.1⟩, hos.1, hos.2, fun b hb hF => hmW b hb (hnoF b hF), Nat.le_refl _, hbW, by simp [Value.ownBlock], by simp [Value.ownBlock], fun b h => (by simp [Value.ownBlock] at h)⟩
  · exact Y.frame a w u (fun b hb => hu.heap b fun hF => (hfoot b hb).2.1 (hnoF b hF)) hrep
  · obtain ⟨hm, hb⟩ := snap_some.1 hob
    refine ⟨by rw [hu.heap b fun hF => hmW b hm (hnoF b hF)]; exact hb, fun hf => ?_, ?_⟩
    · rcases (hmine b).1 hm with h | rfl
      · exact h (hfoot b hf).1
      · exact (hfoot b hf).2.2 rfl
    · rcases (hmine b).1 hm with h | rfl
      · obtain ⟨ob', hob'⟩ := Option.ne_none_iff_exists'.1 h
        rw [(hold b ob' hob').1] at hb
        obtain rfl := Option.some.inj hb
        exact (hold b _ hob').2.2.2
      · rw [hrow] at hb
        obtain rfl := Option.some.inj hb
        exact .inr fun _ _ _ _ _ _ e => by cases e
set_option maxRecDepth 100000 in
set_option maxHeartbeats 8000000 in
/-- .. from where the group is laid. -/
theorem play_mid (hW : Back Try.prog W) {N : Nat} {vo vth : Value} {order : List Int} {ths : List (Thr Y)} (h : LP Wg pb pb N o₀ (MI.empty Y.spec N) ⟨a, [], []⟩ (.slice none 0 0) (.slice none 0 0) w) (hn : N < 60000)
    (hord : ∀ w, Keeps o₀ w → w.ownsRow 0 3 1 vo order.length (order.map (Value.int .i64))) (hobo : ∀ b, vo.ownBlock = some b → o₀ b ≠ none) (hol : order.length < 1000000) (hov : ∀ k ∈ order, k < 9223372036854775808)
    (hth : ∀ w, Keeps o₀ w → w.ownsRow 0 tFn 1 vth ths.length (ths.map Thr.val)) (hobt : ∀ b, vth.ownBlock = some b → o₀ b ≠ none) (h16 : ths.length ≤ 16) (hrun : ∀ d ∈ ths, ThrC Y d.f d.caps d.start)
    (hall : ∀ p ∈ (playF (ths.map (·.start)) order a).ps, p = none) {b : Frame} {k : List Item} {cs : List Frame} (hf : (envL W).Fr b cs) {x2 x3 x5 x6 x9 x10 x11 x12 x13 x14 x15 x16 x17 x18 x19 x20 x21 x22 x23 x24 x25 x26 x27 x28 x29 x30 x31 x32 x33 x34 x35 x36 x37 x38 x39 x40 x41 x42 x43 x44 x45 x46 x47 x48 x49 x50 x51 x52 x53 x54 x55 x56 x57 x58 x59 x60 x61 x62 x63 x64 x65 x66 x67 x68 x69 x70 x71 x72 x73 x74 x75 x76 x77 x78 x79 x80 x81 x82 x83 x84 x85 x86 x87 x88 x89 x90 x91 x92 x93 x94 x95 x96 x97 x98 x99 x100 : Value}
    (hk : ∀ w' vs vt (svs : List SV) (x0 x1 x2 x3 x5 x6 x7 x9 x10 x11 x12 x13 x14 x15 x16 x17 x18 x19 x20 x21 x22 x23 x24 x25 x26 x27 x28 x29 x30 x31 x32 x33 x34 x35 x36 x37 x38 x39 x40 x41 x42 x43 x44 x45 x46 x47 x48 x49 x50 x51 x52 x53 x54 x55 x56 x57 x58 x59 x60 x61 x62 x63 x64 x65 x66 x67 x68 x69 x70 x71 x72 x73 x74 x75 x76 x77 x78 x79 x80 x81 x82 x83 x84 x85 x86 x87 x88 x89 x90 x91 x92 x93 x94 x95 x96 x97 x98 x99 x100 : Value), PE Y Wg pb pb o₀ (playF (ths.map (·.start)) order a).a svs (playF (ths.map (·.start)) order a).tr vs vt svs.length w' → (envL W).Go ⟨some Wg, N + ths.length⟩ (G (b.at ⟨#[x0, x1, x2, x3, .pointer (some ⟨rb, 0, none⟩), x5, x6, x7, .pointer (some ⟨pb, 0, none⟩), x9, x10, x11, x12, x13, x14, x15, x16, x17, x18, x19, x20, x21, x22, x23, x24, x25, x26, x27, x28, x29, x30, x31, x32, x33, x34, x35, x36, x37, x38, x39, x40, x41, x42, x43, x44, x45, x46, x47, x48, x49, x50, x51, x52, x53, x54, x55, x56, x57, x58, x59, x60, x61, x62, x63, x64, x65, x66, x67, x68, x69, x70, x71, x72, x73, x74, x75, x76, x77, x78, x79, x80, x81, x82, x83, x84, x85, x86, x87, x88, x89, x90, x91, x92, x93, x94, x95, x96, x97, x98, x99, x100], []⟩ (.code (.seq p36 .ret) :: k)) cs) w') :
    (envM W Y.spec Wg).Go (MI.empty Y.spec N) (G (b.at ⟨#[vo, vth, x2, x3, .pointer (some ⟨rb, 0, none⟩), x5, x6, .pointer (some ⟨Wg, 0, none⟩), .pointer (some ⟨pb, 0, none⟩), x9, x10, x11, x12, x13, x14, x15, x16, x17, x18, x19, x20, x21, x22, x23, x24, x25, x26, x27, x28, x29, x30, x31, x32, x33, x34, x35, x36, x37, x38, x39, x40, x41, x42, x43, x44, x45, x46, x47, x48, x49, x50, x51, x52, x53, x54, x55, x56, x57, x58, x59, x60, x61, x62, x63, x64, x65, x66, x67, x68, x69, x70, x71, x72, x73, x74, x75, x76, x77, x78, x79, x80, x81, x82, x83, x84, x85, x86, x87, x88, x89, x90, x91, x92, x93, x94, x95, x96, x97, x98, x99, x100], []⟩ (.code (.seq c8 (.seq c15 (.seq c20 (.seq c28 (.seq p35 (.seq p36 .ret)))))) :: k)) cs) w := by
  have O := envM_ok (W := W) (X := Y.spec) (Wg := Wg)
  have hfM : (envM W Y.spec Wg).Fr b cs := ⟨hf.kind, hf.fn, trivial⟩
  have hke : b.kind ≠ .early := by simpa using hf.kind
  refine goSeq O hfM fun Q1 hQ1 => ?_
  refine starts_c hW h rfl (by exact hn) hth hobt h16 hrun ?_
  intro A1 vs1 w1
  intros
  rename_i hL1 hlen1
  refine hQ1 _ _ _ ?_
  refine goSeq O hfM fun Q2 hQ2 => ?_
  refine order_c hW hL1 hord hobo hol hov ?_
  intro A2 vt2 w2
  intros
  rename_i hL2 hsv2
  refine hQ2 _ _ _ ?_
  refine goSeq O hfM fun Q3 hQ3 => ?_
  refine rest_c hW hL2 ?_
  intro A3 vt3 w3
  intros
  rename_i hL3 hsv3
  refine hQ3 _ _ _ ?_
  have hall' : ∀ p ∈ A3.thr, p.2 = none := fun p hp => by
    have hm : p.2.map (·.1) ∈ (playF (ths.map (·.start)) order a).ps := by
      have e := hL3.ps
      rw [show (playF (ths.map (·.start)) order a).ps = _ from e]
      exact List.mem_map.2 ⟨p, hp, rfl⟩
    have := hall _ hm
    exact Option.map_eq_none_iff.1 this
  have hlen3 : A3.thr.length = ths.length := by
    have e1 := congrArg List.length hsv3
    have e2 := congrArg List.length hsv2
    simp only [List.length_map] at e1 e2
    omega
  have hN : A3.over.off + A3.over.thr.length = N + ths.length := by
    show A3.off + A3.thr.length = _
    rw [hL3.off, hlen3]
  have hP3 := hL3.over hall'
  refine overM hW hL3.ok hall' ?_
  refine goSeq O hfM fun Q4 hQ4 => ?_
  refine close_c hW (over_ok hL3.ok) rfl hP3 (by rw [List.length_map]; exact hL3.few) ?_
  intro w4
  intros
  rename_i hP4
  refine hQ4 _ _ _ ?_
  refine O.step1 rfl (fun _ => stepG_seq) ?_
  simp only [p35, Try.f37, Option.getD_some]
  refine O.step1 rfl (fun _ => stepG_region) ?_
  simp only [List.size_toArray, List.length_cons, List.length_nil, Nat.reduceAdd, Nat.zero_add, List.range, List.range.loop]
  refine callM (f := wgLink.wait) (fn := waitFn wgLink) (c := body_wait wgLink) rfl rfl hke rfl wgLib.f_wait (nm_wait wgLink) rfl ?_
  refine intoW hW hall' hL3.d hL3.cr (by rw [show A3.over.off + A3.over.thr.length = _ from hN]; omega) ?_
  rw [hN]
  refine wait_go' hW (by omega) (by simp [Act.eval]; rfl) hP4.wg fun w5 hR5 => ?_
  refine outW hW fun w6 hR6 => ?_
  refine envL_ok.step1 rfl (fun _ => stepG_region_end) ?_
  have hP6 := (hP4.rwg hR5).rwg hR6
  exact hk w6 vs1 vt3 _ _ _ _ _ _ _ _ _ _ _ _ _ _ _ _ _ _ _ _ _ _ _ _ _ _ _ _ _ _ _ _ _ _ _ _ _ _ _ _ _ _ _ _ _ _ _ _ _ _ _ _ _ _ _ _ _ _ _ _ _ _ _ _ _ _ _ _ _ _ _ _ _ _ _ _ _ _ _ _ _ _ _ _ _ _ _ _ _ _ _ _ _ _ _ _ _ _ _ _ hP6
abbrev tTrace : TypeId := 97
set_option maxRecDepth 100000 in
set_option maxHeartbeats 4000000 in
/-- .. its results. -/
theorem play_tail {N : Nat} {o₁ : Own} (h : PE Y Wg pb pb o₁ a svs tr vs vt svs.length w) (h1 : ∀ b ob, o₀ b = some ob → o₁ b = some ob) (h1s : o₁.os = o₀.os ∧ o₁.out = o₀.out) (hrb : o₁ rb = some (.cells #[.slice none 0 0, .slice none 0 0] tTrace (0, 0))) (hrb0 : o₀ rb = none) {x0 x1 x2 x3 x5 x6 x7 x9 x10 x11 x12 x13 x14 x15 x16 x17 x18 x19 x20 x21 x22 x23 x24 x25 x26 x27 x28 x29 x30 x31 x32 x33 x34 x35 x36 x37 x38 x39 x40 x41 x42 x43 x44 x45 x46 x47 x48 x49 x50 x51 x52 x53 x54 x55 x56 x57 x58 x59 x60 x61 x62 x63 x64 x65 x66 x67 x68 x69 x70 x71 x72 x73 x74 x75 x76 x77 x78 x79 x80 x81 x82 x83 x84 x85 x86 x87 x88 x89 x90 x91 x92 x93 x94 x95 x96 x97 x98 x99 x100 : Value} {Qc : LX → Value → World → Prop} (hq : ∀ w', Played Y Wg pb o₀ a tr vt w' → w.heap.size ≤ w'.heap.size → Qc ⟨some Wg, N⟩ (.tuple #[.agg #[vt, .slice none 0 0], .int .i64 0]) w') :
    cps (envL W) (.seq p36 .ret) (fun n' e t' w' => (e = .normal ∨ e = .ret) ∧ ∃ v, (∀ w₁, (envL W).R w' w₁ → ∃ es, (results Try.f37 t').runT (envL W).P w₁ #[] = (.ok v w₁, es) ∧ (envL W).D n' w₁ w₁ es) ∧ Qc n' v w') ⟨some Wg, N⟩ #[x0, x1, x2, x3, .pointer (some ⟨rb, 0, none⟩), x5, x6, x7, .pointer (some ⟨pb, 0, none⟩), x9, x10, x11, x12, x13, x14, x15, x16, x17, x18, x19, x20, x21, x22, x23, x24, x25, x26, x27, x28, x29, x30, x31, x32, x33, x34, x35, x36, x37, x38, x39, x40, x41, x42, x43, x44, x45, x46, x47, x48, x49, x50, x51, x52, x53, x54, x55, x56, x57, x58, x59, x60, x61, x62, x63, x64, x65, x66, x67, x68, x69, x70, x71, x72, x73, x74, x75, x76, x77, x78, x79, x80, x81, x82, x83, x84, x85, x86, x87, x88, x89, x90, x91, x92, x93, x94, x95, x96, x97, x98, x99, x100] w := by
  have O := envL_ok (W := W)
  have G := envL_good (W := W)
  obtain ⟨av, cv, hv⟩ := own_form0 h.mem.trace
  subst hv
  have hrbm : mineB o₁ pb vs (.slice av tr.length cv) rb := .inl (by rw [hrb]; simp)
  have hpW : pb ≠ Wg := h.mine pb (.inr (.inl rfl))
  have hrW : rb ≠ Wg := h.mine rb hrbm
  have hrh := h.old rb _ hrb
  have hrl : rb < w.heap.size := (Array.getElem?_eq_some_iff.1 hrh).1
  have hp1 : w.cell? ⟨pb, 1, none⟩ = some (.slice av tr.length cv) := by
    have := h.mem.row
    simp [World.cell?, this]
  have hp2 : w.cell? ⟨pb, 2, none⟩ = some (.slice none 0 0) := by
    have := h.mem.row
    simp [World.cell?, this]
  obtain ⟨w', hw'⟩ : ∃ w', w' = (w.setCell ⟨rb, 0, none⟩ (.slice av tr.length cv)).setCell ⟨rb, 1, none⟩ (.slice none 0 0) := ⟨_, rfl⟩
  have has : Aside rb w w' := by
    rw [hw']
    have h1 := aside_setCell w ⟨rb, 0, none⟩ (.slice av tr.length cv)
    have h2 := aside_setCell (w.setCell ⟨rb, 0, none⟩ (.slice av tr.length cv)) ⟨rb, 1, none⟩ (.slice none 0 0)
    exact { tape := h2.tape.trans h1.tape, os := h2.os.trans h1.os, output := h2.output.trans h1.output, size := h2.size.trans h1.size, block := fun b hb => (h2.block b hb).trans (h1.block b hb) }
  have hrc' : w'.heap[rb]? = some (.cells #[.slice av tr.length cv, .slice none 0 0] tTrace (0, 0)) := by
    rw [hw']
    simp [World.setCell, hrh, Array.getElem?_modify]
  have hnf : ∀ b, Y.foot a b → b ≠ rb := fun b hb e => (h.foot b hb).2 (e ▸ hrbm)
  have hpl : Played Y Wg pb o₀ a tr (.slice av tr.length cv) w' := by
    have hkeep : Keeps o₀ w' := fun b ob hob => by
      rw [has.block b fun e => by rw [show b = rb from e, hrb0] at hob; cases hob]
      exact h.old b ob (h1 b ob hob)
    refine ⟨?_, ?_, Y.frame a w w' (fun b hb => has.block b (hnf b hb)) h.rep, fun b hb => ⟨(h.foot b hb).1, ?_, fun e => (h.foot b hb).2 (.inr (.inr (.inr e)))⟩, hkeep, has.os.trans (h.os.trans h1s.1), has.output.trans (h.out.trans h1s.2), ownsRow_of h.mem.trace fun b e => has.block b fun e2 => ?_, fun e => h.mine Wg (.inr (.inr (.inr e))) rfl, fun b ob hob => (h.oc b ob (h1 b ob hob)).1⟩
    · obtain ⟨st, sm, hw⟩ := h.wg
      exact ⟨st, sm, by unfold WgAt; rw [has.block Wg fun e => hrW e.symm]; exact hw⟩
    · cases e : o₀ Wg with
      | none => rfl
      | some ob => exact absurd rfl (h.mine Wg (.inl (by rw [h1 Wg ob e]; simp)))
    · cases e : o₀ b with
      | none => rfl
      | some ob => exact absurd (.inl (by rw [h1 b ob e]; simp)) (h.foot b hb).2
    · have := (own_base h.mem.trace e).1
      have hlt := (h.oc rb _ hrb).1
      have e2 : b = rb := e2
      omega
  have hQ := hq w' hpl (Nat.le_of_eq has.size.symm)
  have HQ := Lib.hid hQ
  have Hw := Lib.hid hw'
  have Hsz := Lib.hid has.size
  have Hrh := Lib.hid hrh
  have Hrc := Lib.hid hrc'
  clear hq hQ hpl hw' h hrh hrc' has
  refine cps_opaque fun Q' hQ' => ?_
  simp only [p36, Try.f37, Option.getD_some]
  refine cps_seq O ?_
  (refine cps_region O ?_; simp only [List.size_toArray, List.length_cons, List.length_nil, Nat.reduceAdd, Nat.zero_add, List.range, List.range.loop])
  refine valG G (.pointer (some ⟨pb, 1, none⟩)) rfl rfl (fun _ => by simp [go_sem]) (fun _ => by go_simp; try (first | rfl | (simp [*]))) ?_; try walk_nrm
  refine read2G G (a1 := ⟨pb, 1, none⟩) (a2 := ⟨pb, 2, none⟩) (v := .agg #[.slice av tr.length cv, .slice none 0 0]) (fun e => hpW (Option.some.inj e).symm) (fun e => hpW (Option.some.inj e).symm) hp1 hp2 rfl rfl (fun w₁ hc1 hc2 => by simp [go_sem, hc1, hc2]) (fun w₁ hc1 hc2 => by simp [go_sem, hc1, hc2]) ?_
  try walk_nrm
  refine storeL (f := fun w => (w.setCell ⟨rb, 0, none⟩ (.slice av tr.length cv)).setCell ⟨rb, 1, none⟩ (.slice none 0 0)) (es := #[⟨.cell ⟨rb, 0, none⟩, true, false⟩, ⟨.cell ⟨rb, 1, none⟩, true, false⟩]) (fun d => rfl) (by rw [← Hw.out]; exact Hsz.out) (fun e he => ?_) rfl rfl (fun d => ?_) ?_
  · simp only [List.mem_toArray, List.mem_cons, List.not_mem_nil, or_false] at he
    rcases he with rfl | rfl
    · exact ⟨_, _, rfl, fun e => hrW (Option.some.inj e).symm, hrl⟩
    · exact ⟨_, _, rfl, fun e => hrW (Option.some.inj e).symm, hrl⟩
  · obtain ⟨wd, hwd⟩ : ∃ wd, wd = w.at d := ⟨_, rfl⟩
    have hwh : wd.heap[rb]? = some (.cells #[.slice none 0 0, .slice none 0 0] tTrace (0, 0)) := by rw [hwd]; exact Hrh.out
    have hw1 : (wd.setCell ⟨rb, 0, none⟩ (.slice av tr.length cv)).heap[rb]? = some (.cells #[.slice av tr.length cv, .slice none 0 0] tTrace (0, 0)) := by simp [World.setCell, hwh, Array.getElem?_modify]
    have hc : wd.cell? ⟨rb, 0, none⟩ = some (.slice none 0 0) := by simp [World.cell?, hwh]
    have hz : wd.frozen? ⟨rb, 0, none⟩ = false := by simp [World.frozen?, hwh]
    have hc1 : (wd.setCell ⟨rb, 0, none⟩ (.slice av tr.length cv)).cell? ⟨rb, 1, none⟩ = some (.slice none 0 0) := by simp only [World.cell?, hw1]; rfl
    have hz1 : (wd.setCell ⟨rb, 0, none⟩ (.slice av tr.length cv)).frozen? ⟨rb, 1, none⟩ = false := by simp only [World.frozen?, hw1]; rfl
    rw [← hwd]
    rw [Sem.runT_eq]
    refine Prod.ext ?_ ?_
    · simp [go_sem, stored, hc, hz, hc1, hz1]
    · simp [go_sem, stored, fun w es a => events_store Try.prog w es a (.slice av tr.length cv) .plain rfl, fun w es a => events_store Try.prog w es a (.slice none 0 0) .plain rfl, storedEv, hc, hz, hc1, hz1]
  show cpsR _ _ _ _ _ _ ((w.setCell ⟨rb, 0, none⟩ (.slice av tr.length cv)).setCell ⟨rb, 1, none⟩ (.slice none 0 0))
  rw [← Hw.out]
  try walk_nrm
  refine valG G (.int .i64 0) rfl rfl (fun _ => by simp [go_sem]) (fun _ => by go_simp; try (first | rfl | (simp [*]))) ?_; try walk_nrm
  refine cpsR_nil O ?_
  refine cps_ret O (hQ' _ _ _ _ ⟨.inr rfl, .tuple #[.agg #[.slice av tr.length cv, .slice none 0 0], .int .i64 0], fun w₁ hR => ⟨#[⟨.cell ⟨rb, 0, none⟩, false, false⟩, ⟨.cell ⟨rb, 1, none⟩, false, false⟩], ?_, ?_⟩, HQ.out⟩)
  · obtain ⟨d, rfl⟩ : AtRel w' w₁ := hR
    obtain ⟨wd, hwd⟩ : ∃ wd, wd = w'.at d := ⟨_, rfl⟩
    have hwh : wd.heap[rb]? = some (.cells #[.slice av tr.length cv, .slice none 0 0] tTrace (0, 0)) := by rw [hwd]; exact Hrc.out
    have hc : wd.cell? ⟨rb, 0, none⟩ = some (.slice av tr.length cv) := by simp [World.cell?, hwh]
    have hc1 : wd.cell? ⟨rb, 1, none⟩ = some (.slice none 0 0) := by simp [World.cell?, hwh]
    rw [← hwd]
    show (results Try.f37 _).runT Try.prog _ #[] = _
    rw [Sem.runT_eq]
    refine Prod.ext ?_ ?_
    · rw [results_cell_tmp (p := 4) (u := 5) (ty := tTrace) rfl]
      simp [go_sem, hc, hc1]
    · simp [go_sem, results, hc, hc1]
  · obtain ⟨d, rfl⟩ : AtRel w' w₁ := hR
    refine G.reads _ _ _ fun e he => ?_
    simp only [List.mem_toArray, List.mem_cons, List.not_mem_nil, or_false] at he
    rcases he with rfl | rfl
    · exact ⟨⟨rb, 0, none⟩, rfl, fun e => hrW (Option.some.inj e).symm, (Array.getElem?_eq_some_iff.1 Hrc.out).1⟩
    · exact ⟨⟨rb, 1, none⟩, rfl, fun e => hrW (Option.some.inj e).symm, (Array.getElem?_eq_some_iff.1 Hrc.out).1⟩
end
end Go.Proofs.Ytdedmmjmiakidaa
