/- The reference machine: World.Copy. -/
import Derived.Test.YtokoniaoknnggaaMacN
import Derived.Laws.OwnMore
namespace Go.Proofs.Ytokoniaoknnggaa
open Go.RowKit
set_option linter.unusedVariables false
set_option linter.unusedSimpArgs false

/-- The value of a world: of each object its words, and its list, which is empty. -/
structure WV (B : Nat) (vW vL : Value) (ws : List (List Nat)) (nl : Nat) (w : World) : Prop where
  ex : ∃ vrs : List Value, w.ownsRow B 36 1 vW ws.length vrs ∧ (∀ (i : Nat) (l : List Nat) (v : Value), ws[i]? = some l → vrs[i]? = some v → w.ownsRow B 38 1 v l.length (u64L l) ∧ l.length < 1000000 ∧ 0 < l.length) ∧
    (∀ (i j : Nat) (vi vj : Value) (b : Nat), vrs[i]? = some vi → vrs[j]? = some vj → vi.ownBlock = some b → vj.ownBlock = some b → i = j)
  lists : w.ownsRow B 178 1 vL nl (List.replicate nl (.slice none 0 0))
  few : ws.length < 1000 ∧ nl < 1000
theorem WV.sm {B : Nat} {vW vL : Value} {ws : List (List Nat)} {nl : Nat} {w w' : World} {F : Nat → Prop} (h : WV B vW vL ws nl w) (k : Sm F w w') (hF : ∀ b, B ≤ b → ¬ F b) : WV B vW vL ws nl w' := by
  obtain ⟨vrs, h1, h2, h3⟩ := h.ex
  exact ⟨⟨vrs, own_sm h1 k hF, fun i l v hl hv => ⟨own_sm (h2 i l v hl hv).1 k hF, (h2 i l v hl hv).2⟩, h3⟩, own_sm h.lists k hF, h.few⟩
theorem own_base {w : World} {B B' : Nat} {T : TypeId} {sz n : Nat} {v : Value} {xs : List Value} (h : w.ownsRow B T sz v n xs) (hb : ∀ b, v.ownBlock = some b → B' ≤ b) : w.ownsRow B' T sz v n xs := by
  obtain ⟨h1, h2⟩ := h
  refine ⟨h1, ?_⟩
  rcases h2 with h2 | ⟨g, cap, cur, rfl, hg, r⟩
  · exact .inl h2
  · exact .inr ⟨g, cap, cur, rfl, hb g rfl, r⟩
theorem info_row : (Try.prog.info? 36).map (fun i => (i.zero, i.size, i.bytes)) = some (some (.slice none 0 0), 1, 24) := by kernel_rfl
theorem info_prs : (Try.prog.info? 178).map (fun i => (i.zero, i.size, i.bytes)) = some (some (.slice none 0 0), 1, 24) := by kernel_rfl
theorem copyWords_c (B : Nat) (v : Value) (l : List Nat) (h0 : 0 < l.length) (hl : l.length < 1000000) (w : World) (h : w.ownsRow B 38 1 v l.length (u64L l)) :
    Calls Try.prog 79 #[v] w fun e w' => ∃ v', e = .returned v' ∧ w'.ownsRow w.heap.size 38 1 v' l.length (u64L l) ∧ Sm (fun _ => False) w w' := by
  obtain ⟨b, c, rfl⟩ := own_form h h0
  obtain ⟨iu, hiu, hz0, hz1, hz2⟩ := info_parts info_u64
  have hc := h.cells rfl
  have hlen : (u64L l).length = l.length * 1 := by simp [u64L]
  go_enter Try.func79, Try.ntmps79
  go_wp2_with (at_builtin; refine wpList_append_own _ rfl (.tmp 4) (.tmp 5) 36 rfl w.heap.size 38 iu (.int .u64 0) 1 8 Try.underlying36 hiu hz0 hz1 hz2 rfl (by decide) _ 0 [] rfl (World.ownsRow_nil _ _ _ _) ⟨b, 0, none⟩ l.length c (u64L l) (by simp [Act.eval, Act.put]) hlen hc (by simp [u64L, Value.oneCell']) (by unfold maxLen; omega) (by omega) (Nat.le_refl _) ?_)
  intro v' w' hown hg _
  try simp only [Nat.zero_add, List.nil_append] at hown
  go_wp2
  go_ret
  exact ⟨v', rfl, hown, sm_grown hg (fun b h => by cases h)⟩
theorem add0 (g i : Nat) : ((⟨g, 0, none⟩ : Addr).add i) = ⟨g, i, none⟩ := by
  unfold Addr.add
  split <;> simp_all
theorem own_at {w : World} {B T sz n g cap : Nat} {xs : List Value} (h : w.ownsRow B T sz (.slice (some ⟨g, 0, none⟩) n cap) n xs) {i : Nat} {v : Value} (hv : xs[i]? = some v) : w.cell? ⟨g, i, none⟩ = some v := by
  have := h.cells rfl i v hv
  rwa [add0] at this
theorem own_ne {w : World} {B T sz n b : Nat} {v : Value} {xs : List Value} {c : Array Value} {T' : TypeId} (h : w.ownsRow B T sz v n xs) (hr : Row w b c T') (hT : T ≠ T') : v.ownBlock ≠ some b := fun e => by
  obtain ⟨cc, e2⟩ := own_type2 h b e
  unfold Row at hr
  rw [hr] at e2
  simp only [Option.some.injEq, Obj.cells.injEq] at e2
  exact hT e2.2.1.symm
/-- append of nothing, as one step of a region whose order is drawn. -/
theorem step_append_none {P : Program} {ops : Array Oper} {o : Oper} {a : Act} {w : World} {K : Act → World → Prop} {Q : Exit → Act → World → Prop} {E : Prop}
    (hg : o.guard = none) (s x : Operand) (t : TypeId) (hop : o.op = Op.call { callee := Callee.builtin Builtin.append, args := #[s, x], argTypes := #[t, t] })
    (base : Nat) (e : TypeId) (i : TypeInfo) (size : Nat) (h1 : P.underlying t = some (.slice e)) (h2 : P.info? e = some i)
    (v : Value) (n : Nat) (xs : List Value) (hs : a.eval s = v) (hown : w.ownsRow base e size v n xs) (hx : a.eval x = .slice none 0 0)
    (hK : K (a.put o.dst v) w) :
    if Region.wanted o (yielded ops a.tmps) = true then Oper.wp P o a w K Q else E := by
  have hw : Region.wanted o (yielded ops a.tmps) = true := by simp [Region.wanted, hg]
  rw [if_pos hw]
  have hrun := run_append_owned_none (P := P) w base t o.type e i size h1 h2 v n xs hown
  unfold Oper.wp
  simp [execOp, hop, resolve, invoke, builtin, hs, hx, hrun, Result.andThen]
  exact hK
/-- A call by its contract, as one step of a region whose order is drawn. -/
theorem step_fn {P : Program} {ops : Array Oper} {o : Oper} {a : Act} {w : World} {K : Act → World → Prop} {Q : Exit → Act → World → Prop} {E : Prop} (hg : o.guard = none) (f : FuncId) (args : Array Operand) (ats : Array TypeId)
    (hop : o.op = .call { callee := .value (.func f), args := args, argTypes := ats }) {fn : Func} {c : Code} (hf : P.funcs[f]? = some fn) (hname : (fn.name == "runtime.NumGoroutine") = false) (hb : fn.body = some c)
    (vals : Array Value) (hv : args.map a.eval = vals) {R : Value → World → Prop} (hc : Calls P f vals w fun e w' => ∃ v, e = .returned v ∧ R v w') (hK : ∀ v w', R v w' → K (a.put o.dst v) w') :
    if Region.wanted o (yielded ops a.tmps) = true then Oper.wp P o a w K Q else E := by
  have hw : Region.wanted o (yielded ops a.tmps) = true := by simp [Region.wanted, hg]
  rw [if_pos hw]
  have hr : (execOp a.eval o).run P w = .ok (.enter f vals) w := by
    have h1 : fn.name ≠ "runtime.NumGoroutine" := by simpa using hname
    simp [execOp, hop, resolve, Deferred.ofValue, Act.eval, invoke, hv, callFunc, hf, h1, hb]
  unfold Oper.wp
  rw [hr, Oper.upon_enter]
  refine hc.mono ?_
  rintro e w' ⟨v, rfl, h⟩
  exact hK v w' h
/-- The first i rows of a copy. -/
structure CP (B : Nat) (vW : Value) (ws : List (List Nat)) (i : Nat) (w : World) : Prop where
  ex : ∃ vrs : List Value, w.ownsRow B 36 1 vW i vrs ∧ (∀ (j : Nat) (l : List Nat) (v : Value), j < i → ws[j]? = some l → vrs[j]? = some v → w.ownsRow B 38 1 v l.length (u64L l)) ∧
    (∀ (i j : Nat) (vi vj : Value) (b : Nat), vrs[i]? = some vi → vrs[j]? = some vj → vi.ownBlock = some b → vj.ownBlock = some b → i = j)
theorem CP.sm {B : Nat} {vW : Value} {ws : List (List Nat)} {i : Nat} {w w' : World} {F : Nat → Prop} (h : CP B vW ws i w) (k : Sm F w w') (hF : ∀ b, B ≤ b → ¬ F b) : CP B vW ws i w' := by
  obtain ⟨vrs, h1, h2, h3⟩ := h.ex
  exact ⟨⟨vrs, own_sm h1 k hF, fun j l v hj hl hv => own_sm (h2 j l v hj hl hv) k hF, h3⟩⟩
theorem cp_step {B : Nat} {ws : List (List Nat)} {i : Nat} {l : List Nat} {w wr w2 w5 : World} {vWi v2 v5 : Value} {vrs2 : List Value} {c1 c2 : Array Value} {o : Obj} (hB : B = w.heap.size)
    (hr : Row wr (B + 1 + 1) #[vWi, .slice none 0 0] 32 ∧ Row wr B c1 32 ∧ Row wr (B + 1) c2 32 ∧ Sm (fun _ => False) w wr ∧ B + 3 ≤ wr.heap.size) (hq : wr.ownsRow B 36 1 vWi i vrs2)
    (hg2 : ∀ (j : Nat) (l : List Nat) (v : Value), j < i → ws[j]? = some l → vrs2[j]? = some v → wr.ownsRow B 38 1 v l.length (u64L l))
    (hg3 : ∀ (i j : Nat) (vi vj : Value) (b : Nat), vrs2[i]? = some vi → vrs2[j]? = some vj → vi.ownBlock = some b → vj.ownBlock = some b → i = j) (hlw : i < ws.length) (hl : ws[i]? = some l)
    (hs2 : Sm (fun _ => False) wr w2) (hown2 : w2.ownsRow wr.heap.size 38 1 v2 l.length (u64L l)) (hg5 : (w2.alloc o).grownBy w5 vWi.ownBlock) (hown5 : w5.ownsRow B 36 1 v5 (i + 1) (vrs2 ++ [v2])) :
    Row (w5.setCell ⟨B + 1 + 1, 0, none⟩ v5) (B + 1 + 1) #[v5, .slice none 0 0] 32 ∧ CP B v5 ws (i + 1) (w5.setCell ⟨B + 1 + 1, 0, none⟩ v5) ∧ Row (w5.setCell ⟨B + 1 + 1, 0, none⟩ v5) B c1 32 ∧ Row (w5.setCell ⟨B + 1 + 1, 0, none⟩ v5) (B + 1) c2 32 ∧ Sm (fun _ => False) w (w5.setCell ⟨B + 1 + 1, 0, none⟩ v5) ∧ B + 3 ≤ (w5.setCell ⟨B + 1 + 1, 0, none⟩ v5).heap.size := by
  obtain ⟨q3, q1, q2, qs, qz⟩ := hr
  have n3 := own_ne hq q3 (by decide)
  have n1 := own_ne hq q1 (by decide)
  have n2 := own_ne hq q2 (by decide)
  have ka : Sm (fun _ => False) wr (w2.alloc o) := hs2.alloc o
  have kg : Sm (fun b => vWi.ownBlock = some b) (w2.alloc o) w5 := sm_grown hg5 (fun b e => e)
  have kset : Sm (fun b => b = B + 1 + 1) w5 (w5.setCell ⟨B + 1 + 1, 0, none⟩ v5) := Sm.setCell (F := fun b => b = B + 1 + 1) (p := ⟨B + 1 + 1, 0, none⟩) (Sm.refl _ _) rfl _
  have r3 := (q3.sm ka (fun h => h)).sm kg n3
  have hb1 : ∀ (v : Value) (n : Nat) (xs : List Value) (W : World) (T : TypeId) (b : Nat), T ≠ 32 → W.ownsRow B T 1 v n xs → Row W (B + 1 + 1) #[vWi, .slice none 0 0] 32 → v.ownBlock = some b → ¬ b = B + 1 + 1 := fun v n xs W T b hT ho hr hb e => own_ne ho hr hT (e ▸ hb)
  have hall : Sm (fun b => B ≤ b) w (w5.setCell ⟨B + 1 + 1, 0, none⟩ v5) := (((qs.trans ka).mono (fun _ h => h.elim)).trans (kg.mono (fun b e => (hq.lt b e).1))).trans (kset.mono (fun b e => by omega))
  have hlen : vrs2.length = i := by simpa using hq.1
  refine ⟨r3.set 0 v5, ⟨vrs2 ++ [v2], own_smF hown5 kset (fun b hb => hb1 _ _ _ _ _ b (by decide) hown5 r3 hb), fun j l' v hj hl' hv => ?_, fun j k vj vk b hj hk hbj hbk => ?_⟩, ((q1.sm ka (fun h => h)).sm kg n1).sm kset (by omega), ((q2.sm ka (fun h => h)).sm kg n2).sm kset (by omega), hall.new (fun b hb => by omega), ?_⟩
  · by_cases e : j < i
    · rw [List.getElem?_append_left (by omega)] at hv
      have f := own_smF (hg2 j l' v e hl' hv) ka (fun _ _ h => h)
      have f2 := own_smF f kg (fun b hb e2 => by
        obtain ⟨x1, x2⟩ := own_type2 f b hb
        obtain ⟨y1, y2⟩ := own_type2 (own_smF hq ka (fun _ _ h => h)) b e2
        rw [x2] at y2
        simp at y2)
      exact own_smF f2 kset (fun b hb => hb1 _ _ _ _ _ b (by decide) f2 r3 hb)
    · have ej : j = i := by omega
      subst ej
      rw [← hlen] at hv
      simp at hv
      subst hv
      rw [hl] at hl'
      cases hl'
      have f : w2.ownsRow B 38 1 v2 l.length (u64L l) := own_base hown2 (fun b hb => by have := (hown2.lt b hb).1; omega)
      have f1 := own_smF f ((Sm.refl (fun _ => False) w2).alloc o) (fun _ _ h => h)
      have f2 := own_smF f1 kg (fun b hb e2 => by
        obtain ⟨x1, x2⟩ := own_type2 f1 b hb
        obtain ⟨y1, y2⟩ := own_type2 (own_smF hq ka (fun _ _ h => h)) b e2
        rw [x2] at y2
        simp at y2)
      exact own_smF f2 kset (fun b hb => hb1 _ _ _ _ _ b (by decide) f2 r3 hb)
  · have hcase : ∀ (j : Nat) (v : Value), (vrs2 ++ [v2])[j]? = some v → (j < i ∧ vrs2[j]? = some v) ∨ (j = i ∧ v = v2) := fun j v hv => by
      rcases Nat.lt_or_ge j i with h | h
      · rw [List.getElem?_append_left (by omega)] at hv
        exact .inl ⟨h, hv⟩
      · have : j < (vrs2 ++ [v2]).length := (List.getElem?_eq_some_iff.1 hv).1
        have ej : j = i := by simp at this; omega
        subst ej
        rw [← hlen] at hv
        simp at hv
        exact .inr ⟨rfl, hv.symm⟩
    have hold : ∀ (j : Nat) (v : Value), j < i → vrs2[j]? = some v → v.ownBlock = some b → b < wr.heap.size := fun j v hj hv hb => ((hg2 j _ v hj (List.getElem?_eq_getElem (by omega)) hv).lt b hb).2
    rcases hcase j vj hj with ⟨a1, a2⟩ | ⟨a1, a2⟩ <;> rcases hcase k vk hk with ⟨b1, b2⟩ | ⟨b1, b2⟩
    · exact hg3 j k vj vk b a2 b2 hbj hbk
    · have := hold j vj a1 a2 hbj
      subst b2
      have := (hown2.lt b hbk).1
      omega
    · have := hold k vk b1 b2 hbk
      subst a2
      have := (hown2.lt b hbj).1
      omega
    · omega
  · have := hall.size
    have e := kset.size
    have e1 := kg.size
    have e2 := ka.size
    omega
theorem lp_step {B : Nat} {ws : List (List Nat)} {i : Nat} {w wr w5 : World} {vW vLi v5 : Value} {c1 c2 : Array Value} {o : Obj} (hB : B = w.heap.size)
    (hr : Row wr (B + 1 + 1) #[vW, vLi] 32 ∧ CP B vW ws ws.length wr ∧ Row wr B c1 32 ∧ Row wr (B + 1) c2 32 ∧ Sm (fun _ => False) w wr ∧ B + 3 ≤ wr.heap.size ∧ wr.ownsRow B 178 1 vLi i (List.replicate i (.slice none 0 0)))
    (hg5 : ((wr.alloc o).drew).grownBy w5 vLi.ownBlock) (hown5 : w5.ownsRow B 178 1 v5 (i + 1) (List.replicate i (.slice none 0 0) ++ [.slice none 0 0])) :
    Row (w5.setCell ⟨B + 1 + 1, 1, none⟩ v5) (B + 1 + 1) #[vW, v5] 32 ∧ CP B vW ws ws.length (w5.setCell ⟨B + 1 + 1, 1, none⟩ v5) ∧ Row (w5.setCell ⟨B + 1 + 1, 1, none⟩ v5) B c1 32 ∧ Row (w5.setCell ⟨B + 1 + 1, 1, none⟩ v5) (B + 1) c2 32 ∧ Sm (fun _ => False) w (w5.setCell ⟨B + 1 + 1, 1, none⟩ v5) ∧ B + 3 ≤ (w5.setCell ⟨B + 1 + 1, 1, none⟩ v5).heap.size ∧
      (w5.setCell ⟨B + 1 + 1, 1, none⟩ v5).ownsRow B 178 1 v5 (i + 1) (List.replicate (i + 1) (.slice none 0 0)) := by
  obtain ⟨q3, qc, q1, q2, qs, qz, hq⟩ := hr
  obtain ⟨vrs, g1, g2, g3⟩ := qc.ex
  have n3 := own_ne hq q3 (by decide)
  have n1 := own_ne hq q1 (by decide)
  have n2 := own_ne hq q2 (by decide)
  have ka : Sm (fun _ => False) wr ((wr.alloc o).drew) := ((Sm.refl _ _).alloc o).drew
  have kg : Sm (fun b => vLi.ownBlock = some b) ((wr.alloc o).drew) w5 := sm_grown hg5 (fun b e => e)
  have kset : Sm (fun b => b = B + 1 + 1) w5 (w5.setCell ⟨B + 1 + 1, 1, none⟩ v5) := Sm.setCell (F := fun b => b = B + 1 + 1) (p := ⟨B + 1 + 1, 1, none⟩) (Sm.refl _ _) rfl _
  have r3 := (q3.sm ka (fun h => h)).sm kg n3
  have hall : Sm (fun b => B ≤ b) w (w5.setCell ⟨B + 1 + 1, 1, none⟩ v5) := (((qs.trans ka).mono (fun _ h => h.elim)).trans (kg.mono (fun b e => (hq.lt b e).1))).trans (kset.mono (fun b e => by omega))
  have key : ∀ (T : TypeId) (n : Nat) (v : Value) (xs : List Value), T ≠ 178 → T ≠ 32 → wr.ownsRow B T 1 v n xs → (w5.setCell ⟨B + 1 + 1, 1, none⟩ v5).ownsRow B T 1 v n xs := fun T n v xs h1 h2 ho => by
    have f := own_smF ho ka (fun _ _ h => h)
    have f2 := own_smF f kg (fun b hb e2 => by
      obtain ⟨x1, x2⟩ := own_type2 f b hb
      obtain ⟨y1, y2⟩ := own_type2 (own_smF hq ka (fun _ _ h => h)) b e2
      rw [x2] at y2
      simp only [Option.some.injEq, Obj.cells.injEq] at y2
      exact h1 y2.2.1)
    exact own_smF f2 kset (fun b hb e => own_ne f2 r3 h2 (e ▸ hb))
  refine ⟨r3.set 1 v5, ⟨vrs, key _ _ _ _ (by decide) (by decide) g1, fun j l v hj hl hv => key _ _ _ _ (by decide) (by decide) (g2 j l v hj hl hv), g3⟩, ((q1.sm ka (fun h => h)).sm kg n1).sm kset (by omega), ((q2.sm ka (fun h => h)).sm kg n2).sm kset (by omega), hall.new (fun b hb => by omega), ?_, ?_⟩
  · have := hall.size
    have e := kset.size
    have e1 := kg.size
    have e2 := ka.size
    omega
  · rw [List.replicate_succ']
    exact own_smF hown5 kset (fun b hb e => own_ne hown5 r3 (by decide) (e ▸ hb))
set_option maxRecDepth 100000 in
set_option maxHeartbeats 6400000 in
theorem copy_c (B0 : Nat) (vW vL : Value) (ws : List (List Nat)) (nl : Nat) (w : World) (hV : WV B0 vW vL ws nl w) :
    Calls Try.prog 50 #[.agg #[vW, vL]] w fun e w' => ∃ vW' vL', e = .returned (.agg #[vW', vL']) ∧ WV w.heap.size vW' vL' ws nl w' ∧ Sm (fun _ => False) w w' := by
  obtain ⟨vrs, h1, h2, h3⟩ := hV.ex
  have h4 := hV.lists
  obtain ⟨hn, hnl⟩ := hV.few
  obtain ⟨aW, cW, rfl⟩ := own_form0 h1
  obtain ⟨aL, cL, rfl⟩ := own_form0 h4
  obtain ⟨B, hB⟩ : ∃ B, B = w.heap.size := ⟨_, rfl⟩
  obtain ⟨ir, hir, hy0, hy1, hy2⟩ := info_parts info_row
  obtain ⟨ip, hip, hp0, hp1, hp2⟩ := info_parts info_prs
  have HIR := Lib.hid (show Try.prog.info? 36 = some ir ∧ ir.zero = some (.slice none 0 0) ∧ ir.size = 1 ∧ ir.bytes = 24 from ⟨hir, hy0, hy1, hy2⟩)
  have HIP := Lib.hid (show Try.prog.info? 178 = some ip ∧ ip.zero = some (.slice none 0 0) ∧ ip.size = 1 ∧ ip.bytes = 24 from ⟨hip, hp0, hp1, hp2⟩)
  have HROWS := Lib.hid (show ∀ (j : Nat) (l : List Nat), ws[j]? = some l → l.length < 1000000 ∧ 0 < l.length from fun j l hl => by
    have hj : j < ws.length := (List.getElem?_eq_some_iff.1 hl).1
    exact (h2 j l _ hl (List.getElem?_eq_getElem (by have := h1.1; omega))).2)
  have HB := Lib.hid hB
  have H1 := Lib.hid h1
  have H2 := Lib.hid h2
  have H4 := Lib.hid h4
  have HN := Lib.hid (show ws.length < 1000 ∧ nl < 1000 from ⟨hn, hnl⟩)
  have hw3 : ∃ w3 : World, w3 = ((w.alloc (.cells #[.slice aW ws.length cW, .slice aL nl cL] 32)).alloc (.cells #[.slice none 0 0, .slice none 0 0] 32)).alloc (.cells #[.slice none 0 0, .slice none 0 0] 32) := ⟨_, rfl⟩
  obtain ⟨w3, hw3⟩ := hw3
  have r1 : Row w3 B #[.slice aW ws.length cW, .slice aL nl cL] 32 := by rw [hw3, hB]; exact ((Row.new w _ _).alloc _).alloc _
  have r2 : Row w3 (B + 1) #[.slice none 0 0, .slice none 0 0] 32 := by rw [hw3, hB]; have := (Row.new (w.alloc (.cells #[.slice aW ws.length cW, .slice aL nl cL] 32)) #[.slice none 0 0, .slice none 0 0] 32).alloc (.cells #[.slice none 0 0, .slice none 0 0] 32); simpa using this
  have r3 : Row w3 (B + 1 + 1) #[.slice none 0 0, .slice none 0 0] 32 := by rw [hw3, hB]; have := Row.new ((w.alloc (.cells #[.slice aW ws.length cW, .slice aL nl cL] 32)).alloc (.cells #[.slice none 0 0, .slice none 0 0] 32)) #[.slice none 0 0, .slice none 0 0] 32; simpa using this
  have s3 : Sm (fun _ => False) w w3 := by rw [hw3]; exact (((Sm.refl _ _).alloc _).alloc _).alloc _
  have z3 : w3.heap.size = B + 3 := by rw [hw3, hB]; simp
  have HS3 := Lib.hid (show Row w3 B #[.slice aW ws.length cW, .slice aL nl cL] 32 ∧ Row w3 (B + 1) #[.slice none 0 0, .slice none 0 0] 32 ∧ Row w3 (B + 1 + 1) #[.slice none 0 0, .slice none 0 0] 32 ∧ Sm (fun _ => False) w w3 ∧ w3.heap.size = B + 3 from ⟨r1, r2, r3, s3, z3⟩)
  have HW3 := Lib.hid hw3
  clear hw3 r1 r2 r3 s3 z3 hB h1 h2 h4 hV hir hy0 hy1 hy2 hip hp0 hp1 hp2 hn hnl
  go_enter Try.func50, Try.ntmps50
  go_upto_block 0 with fail
  rw [← HW3.out, ← HB.out]
  go_cut [] from 4 (fun wc => ∃ vWi : Value, Hid (Row wc (B + 1 + 1) #[vWi, .slice none 0 0] 32 ∧ CP B vWi ws ws.length wc ∧ Row wc B #[.slice aW ws.length cW, .slice aL nl cL] 32 ∧ Row wc (B + 1) #[.slice none 0 0, .slice none 0 0] 32 ∧ Sm (fun _ => False) w wc ∧ B + 3 ≤ wc.heap.size))
  case first =>
    go_wp2_with fail
    go_loopw [4] (fun s4 wr => ∃ (i : Nat) (vWi : Value), i ≤ ws.length ∧ s4 = .int .i64 i ∧ Hid (Row wr (B + 1 + 1) #[vWi, .slice none 0 0] 32 ∧ CP B vWi ws i wr ∧ Row wr B #[.slice aW ws.length cW, .slice aL nl cL] 32 ∧ Row wr (B + 1) #[.slice none 0 0, .slice none 0 0] 32 ∧ Sm (fun _ => False) w wr ∧ B + 3 ≤ wr.heap.size)) (fun s4 wr => ws.length - (intOf s4).toNat)
    case atStart =>
      obtain ⟨a1, a2, a3, a4, a5⟩ := HS3.out
      exact ⟨0, .slice none 0 0, Nat.zero_le _, rfl, Lib.hid ⟨a3, ⟨[], World.ownsRow_nil _ _ _ _, fun j l v hj => by omega, fun i j vi vj b h => by simp at h⟩, a1, a2, a4, by omega⟩⟩
    case round =>
      obtain ⟨i, vWi, hi, rfl, HINV⟩ := hrel
      obtain ⟨q3, qc, q1, q2, qs, qz⟩ := HINV.out
      obtain ⟨vrs2, g1, g2, g3⟩ := qc.ex
      obtain ⟨ai, ci, rfl⟩ := own_form0 g1
      have c10 : wr.cell? ⟨B, 0, none⟩ = some (.slice aW ws.length cW) := q1.cell 0
      have k1 : (0 : Int) ≤ (i : Int) := Int.natCast_nonneg _
      by_cases hlt : i < ws.length
      · have j1 : (i : Int) < (ws.length : Int) := by omega
        obtain ⟨l, hl⟩ : ∃ l, ws[i]? = some l := ⟨_, List.getElem?_eq_getElem hlt⟩
        have hvl : vrs.length = ws.length := by simpa using H1.out.1
        obtain ⟨vr, hvr⟩ : ∃ vr, vrs[i]? = some vr := ⟨_, List.getElem?_eq_getElem (by omega)⟩
        obtain ⟨f1, f2, f3⟩ := H2.out i l vr hl hvr
        obtain ⟨g, cap, hg⟩ := own_form H1.out (by omega)
        simp only [Value.slice.injEq] at hg
        obtain ⟨rfl, -, rfl⟩ := hg
        obtain ⟨ar, cr, rfl⟩ := own_form0 f1
        have cwi : w.cell? ⟨g, i, none⟩ = some (.slice ar l.length cr) := own_at H1.out hvr
        have HCW := Lib.hid cwi
        have hcall0 := trivial
        have hS : wr.cell? ⟨B + 1 + 1, 0, none⟩ = some (.slice ai i ci) ∧ wr.cell? ⟨B, 0, none⟩ = some (.slice (some ⟨g, 0, none⟩) ws.length cW) ∧ wr.cell? ⟨g, i, none⟩ = some (.slice ar l.length cr) := ⟨q3.cell 0, c10, (qs.cell (World.block_lt_of_cell? w _ cwi) (fun h => h)).trans cwi⟩
        have HKEEP := Lib.hid (show ∀ W : World, Sm (fun _ => False) wr W → W.cell? ⟨B + 1 + 1, 0, none⟩ = some (.slice ai i ci) ∧ W.cell? ⟨B, 0, none⟩ = some (.slice (some ⟨g, 0, none⟩) ws.length cW) ∧ W.cell? ⟨g, i, none⟩ = some (.slice ar l.length cr) from fun W kk =>
          ⟨(kk.cell (World.block_lt_of_cell? wr _ hS.1) (fun h => h)).trans hS.1, (kk.cell (World.block_lt_of_cell? wr _ hS.2.1) (fun h => h)).trans hS.2.1, (kk.cell (World.block_lt_of_cell? wr _ hS.2.2) (fun h => h)).trans hS.2.2⟩)
        have n1 : (Value.slice ai i ci).ownBlock ≠ some (B + 1 + 1) := own_ne g1 q3 (by decide)
        have n2 : (Value.slice ai i ci).ownBlock ≠ some B := own_ne g1 q1 (by decide)
        have n3 : (Value.slice ai i ci).ownBlock ≠ some g := fun e => by
          have e1 := (g1.lt g e).1
          have e2 := World.block_lt_of_cell? w _ cwi
          have e3 := HB.out
          have : g < w.heap.size := e2
          omega
        have hK5 : ∀ W W' : World, Sm (fun _ => False) wr W → W.grownBy W' (Value.slice ai i ci).ownBlock → (W'.cell? ⟨B + 1 + 1, 0, none⟩ = some (.slice ai i ci) ∧ W'.cell? ⟨B, 0, none⟩ = some (.slice (some ⟨g, 0, none⟩) ws.length cW) ∧ W'.cell? ⟨g, i, none⟩ = some (.slice ar l.length cr)) ∧ W'.frozen? ⟨B + 1 + 1, 0, none⟩ = false := fun W W' kk hg => by
          obtain ⟨t1, t2, t3⟩ := HKEEP.out W kk
          have kg : Sm (fun b => (Value.slice ai i ci).ownBlock = some b) W W' := sm_grown hg (fun b e => e)
          exact ⟨⟨(kg.cell (World.block_lt_of_cell? W _ t1) n1).trans t1, (kg.cell (World.block_lt_of_cell? W _ t2) n2).trans t2, (kg.cell (World.block_lt_of_cell? W _ t3) n3).trans t3⟩, ((q3.sm kk (fun h => h)).sm kg n1).free 0⟩
        have HK5 := Lib.hid hK5
        have hsd : Sm (fun _ => False) wr wr.drew := (Sm.refl _ _).drew
        have HSD := Lib.hid hsd
        have HCALL := Lib.hid (show Calls Try.prog 79 #[.slice ar l.length cr] wr.drew fun e w' => ∃ v, e = .returned v ∧ ∃ a2 c2, v = .slice a2 l.length c2 ∧ w'.ownsRow wr.heap.size 38 1 (.slice a2 l.length c2) l.length (u64L l) ∧ Sm (fun _ => False) wr.drew w' from (copyWords_c B0 _ l f3 f2 wr.drew (own_sm (own_sm f1 qs (fun _ _ h => h)) hsd (fun _ _ h => h))).mono fun e w' h => by
          obtain ⟨v', h1, h2, h3⟩ := h
          obtain ⟨a2, c2, hv2⟩ := own_form0 h2
          subst hv2
          exact ⟨_, h1, a2, c2, rfl, h2, h3⟩)
        have HQ := Lib.hid (show wr.ownsRow B 36 1 (.slice ai i ci) i vrs2 from g1)
        have HL := Lib.hid (show ws[i]? = some l ∧ l.length < 1000000 from ⟨hl, f2⟩)
        have HG := Lib.hid (show _ ∧ _ from ⟨g2, g3⟩)
        have hilt : i < 1000 := by have := HN.out; omega
        have HQR := Lib.hid (show Row wr (B + 1 + 1) #[.slice ai i ci, .slice none 0 0] 32 ∧ Row wr B #[.slice (some ⟨g, 0, none⟩) ws.length cW, .slice aL nl cL] 32 ∧ Row wr (B + 1) #[.slice none 0 0, .slice none 0 0] 32 ∧ Sm (fun _ => False) w wr ∧ B + 3 ≤ wr.heap.size from ⟨q3, q1, q2, qs, qz⟩)
        have HBD := Lib.hid (show i + 1 ≤ maxLen ∧ (i + 1) * 24 ≤ 140737488355328 from ⟨by unfold maxLen; omega, by omega⟩)
        have HNE := Lib.hid (show _ ∧ _ from ⟨n1, n2⟩)
        have HZ := Lib.hid (show B ≤ wr.heap.size by omega)
        obtain ⟨u1, u2, u3⟩ := hS
        clear q3 qc q1 q2 qs qz g1 g2 g3 f1 f2 f3 hl hvr hvl cwi hsd n1 n2 n3 hK5
        go_wp2_with fail
        go_region_law (first
          | (refine step_fn rfl 79 #[.tmp 20] #[36] rfl Try.func79 (by kernel_rfl) rfl #[.slice ar l.length cr] (by simp [Act.eval, Act.put]) (R := fun v x => ∃ a2 c2, v = .slice a2 l.length c2 ∧ x.ownsRow wr.heap.size 38 1 (.slice a2 l.length c2) l.length (u64L l) ∧ Sm (fun _ => False) wr.drew x) HCALL.out ?_; rintro _ w2 ⟨a2, c2, rfl, hown2, hs2⟩; obtain ⟨t1, t2, t3⟩ := HKEEP.out w2 (HSD.out.trans hs2); obtain ⟨m1, m2, m3⟩ := HKEEP.out _ ((HSD.out.trans hs2).alloc (.cells #[.slice a2 l.length c2] 36)); have HQ2 := Lib.hid (own_sm HQ.out (HSD.out.trans hs2) (fun _ _ h => h)); have hz2 : B ≤ w2.heap.size := Nat.le_trans HZ.out (HSD.out.trans hs2).size)
          | (refine step_append_at rfl (.tmp 15) (.tmp 22) 29 rfl B 36 ir (.slice none 0 0) 1 24 Try.underlying29 HIR.out.1 HIR.out.2.1 HIR.out.2.2.1 HIR.out.2.2.2 rfl (by decide) (.slice ai i ci) i vrs2 (by simp [Act.eval, Act.put]) (HQ2.out.alloc _) ⟨w2.heap.size, 0, none⟩ 1 1 [.slice a2 l.length c2] (by simp [Act.eval, Act.put]) rfl (new_cells w2 [.slice a2 l.length c2] 36) (by simp [Value.oneCell']) HBD.out.1 HBD.out.2 (by simp; omega) ?_; intro v5 w5 hown5 hg5 hat5; obtain ⟨⟨t4, t5, t6⟩, hf5⟩ := HK5.out _ _ ((HSD.out.trans hs2).alloc _) hg5; obtain ⟨a5, c5, hv5⟩ := own_form0 hown5; subst hv5))
        all_goals
          have HNEW := Lib.hid (cp_step HB.out HQR.out HQ.out HG.out.1 HG.out.2 hlt HL.out.1 (HSD.out.trans hs2) hown2 hg5 hown5)
          clear hown2 hg5 hown5 hat5 hs2 t1 t2 t3 m1 m2 m3 t4 t5 t6 HK5 HKEEP HCALL HQ2 HQR HG
          go_wp2_with fail
          go_roundw
          case rel => exact ⟨i + 1, _, hlt, by first | rfl | go_num, HNEW⟩
          case measure => simp only [intOf]; omega
      · have hi' : i = ws.length := by omega
        subst hi'
        have j1 : ¬ ((ws.length : Nat) : Int) < (ws.length : Int) := by omega
        clear q3 qc q1 q2 qs qz g1 g2 g3
        go_wp2_with fail
        go_meet
        case rel => exact ⟨_, HINV⟩
  case rest =>
    obtain ⟨vWi, HINV⟩ := hcut
    obtain ⟨av, cv, hvv⟩ : ∃ a c, vWi = .slice a ws.length c := by
      obtain ⟨vrs2, g1, -⟩ := HINV.out.2.1.ex
      exact own_form0 g1
    subst hvv
    clear HS3 HW3 H1 H2 h3
    go_wp2_with fail
    go_loopw [5] (fun s5 wr => ∃ (i : Nat) (vLi : Value), i ≤ nl ∧ s5 = .int .i64 i ∧ Hid (Row wr (B + 1 + 1) #[.slice av ws.length cv, vLi] 32 ∧ CP B (.slice av ws.length cv) ws ws.length wr ∧ Row wr B #[.slice aW ws.length cW, .slice aL nl cL] 32 ∧ Row wr (B + 1) #[.slice none 0 0, .slice none 0 0] 32 ∧ Sm (fun _ => False) w wr ∧ B + 3 ≤ wr.heap.size ∧ wr.ownsRow B 178 1 vLi i (List.replicate i (.slice none 0 0)))) (fun s5 wr => nl - (intOf s5).toNat)
    case atStart =>
      obtain ⟨a1, a2, a3, a4, a5, a6⟩ := HINV.out
      exact ⟨0, .slice none 0 0, Nat.zero_le _, rfl, Lib.hid ⟨a1, a2, a3, a4, a5, a6, World.ownsRow_nil _ _ _ _⟩⟩
    case round =>
      clear HINV
      obtain ⟨i, vLi, hi, rfl, HINV⟩ := hrel
      obtain ⟨q3, qc, q1, q2, qs, qz, g1⟩ := HINV.out
      obtain ⟨ai, ci, rfl⟩ := own_form0 g1
      have c11 : wr.cell? ⟨B, 1, none⟩ = some (.slice aL nl cL) := q1.cell 1
      have k1 : (0 : Int) ≤ (i : Int) := Int.natCast_nonneg _
      by_cases hlt : i < nl
      · have j1 : (i : Int) < (nl : Int) := by omega
        obtain ⟨g, cap, hg⟩ := own_form H4.out (by omega)
        simp only [Value.slice.injEq] at hg
        obtain ⟨rfl, -, rfl⟩ := hg
        have cwi : w.cell? ⟨g, i, none⟩ = some (.slice none 0 0) := own_at H4.out (by simp [hlt])
        have hS : wr.cell? ⟨B + 1 + 1, 1, none⟩ = some (.slice ai i ci) ∧ wr.cell? ⟨g, i, none⟩ = some (.slice none 0 0) := ⟨q3.cell 1, (qs.cell (World.block_lt_of_cell? w _ cwi) (fun h => h)).trans cwi⟩
        have n1 : (Value.slice ai i ci).ownBlock ≠ some (B + 1 + 1) := own_ne g1 q3 (by decide)
        have hsd : Sm (fun _ => False) wr wr.drew := (Sm.refl _ _).drew
        have HSD := Lib.hid hsd
        have HF5 := Lib.hid (show ∀ W W' : World, Sm (fun _ => False) wr W → W.grownBy W' (Value.slice ai i ci).ownBlock → W'.cell? ⟨B + 1 + 1, 1, none⟩ = some (.slice ai i ci) ∧ W'.frozen? ⟨B + 1 + 1, 1, none⟩ = false from fun W W' kk hg =>
          ⟨((q3.sm kk (fun h => h)).sm (F := fun b => (Value.slice ai i ci).ownBlock = some b) (sm_grown hg (fun b e => e)) n1).cell 1, ((q3.sm kk (fun h => h)).sm (F := fun b => (Value.slice ai i ci).ownBlock = some b) (sm_grown hg (fun b e => e)) n1).free 1⟩)
        obtain ⟨u1, u3⟩ := hS
        have u1a : ((wr.alloc (.cells #[.slice none 0 0] 178)).drew).cell? ⟨B + 1 + 1, 1, none⟩ = some (.slice ai i ci) := (q3.sm (((Sm.refl (fun _ => False) wr).alloc _).drew) (fun h => h)).cell 1
        have HQ := Lib.hid (show wr.ownsRow B 178 1 (.slice ai i ci) i (List.replicate i (.slice none 0 0)) from g1)
        have HBD := Lib.hid (show i + 1 ≤ maxLen ∧ (i + 1) * 24 ≤ 140737488355328 from ⟨by have := HN.out; unfold maxLen; omega, by have := HN.out; omega⟩)
        have HZ := Lib.hid (show B ≤ wr.heap.size by omega)
        obtain ⟨iq, hiq⟩ : ∃ iq, Try.prog.info? 194 = some iq := ⟨_, rfl⟩
        have HIQ := Lib.hid hiq
        have hilt : i < 1000 := by have := HN.out; omega
        clear q3 qc q1 q2 qs qz g1 hsd cwi n1 hiq
        go_wp2_with fail
        go_region_law (first
          | (refine step_append_none rfl (.tmp 34) (.tmp 39) 178 rfl B 194 iq 2 Try.underlying178 HIQ.out (.slice none 0 0) 0 [] (by simp [Act.eval, Act.put]) (World.ownsRow_nil _ _ _ _) (by simp [Act.eval, Act.put]) ?_)
          | (refine step_append_at rfl (.tmp 33) (.tmp 41) 30 rfl B 178 ip (.slice none 0 0) 1 24 Try.underlying30 HIP.out.1 HIP.out.2.1 HIP.out.2.2.1 HIP.out.2.2.2 rfl (by decide) (.slice ai i ci) i (List.replicate i (.slice none 0 0)) (by simp [Act.eval, Act.put]) ((HQ.out.alloc _).drew) ⟨wr.heap.size, 0, none⟩ 1 1 [.slice none 0 0] (by simp [Act.eval, Act.put]) rfl (new_cells wr [.slice none 0 0] 178) (by simp [Value.oneCell']) HBD.out.1 HBD.out.2 (by have := HZ.out; simp; omega) ?_; intro v5 w5 hown5 hg5 hat5; obtain ⟨t4, hf5⟩ := HF5.out _ _ (((Sm.refl _ _).alloc _).drew) hg5; obtain ⟨a5, c5, hv5⟩ := own_form0 hown5; subst hv5))
        all_goals
          have HNEW := Lib.hid (lp_step HB.out HINV.out hg5 hown5)
          clear hown5 hg5 hat5 t4 HF5 u1 u1a u3 HQ HINV
          go_wp2_with fail
          go_roundw
          case rel => exact ⟨i + 1, _, hlt, by first | rfl | go_num, HNEW⟩
          case measure => simp only [intOf]; omega
      · have hi' : i = nl := by omega
        subst hi'
        have j1 : ¬ ((i : Nat) : Int) < (i : Int) := by omega
        have HR3 := Lib.hid q3
        have HR2 := Lib.hid q2
        have HR2b := Lib.hid (q2.setRow (c' := #[.slice av ws.length cv, .slice ai i ci]))
        have HINV2 := Lib.hid HINV.out
        have HMID : Hid (wr.rangeAt (B + 1 + 1) 0 [.slice av ws.length cv, .slice ai i ci]) := Lib.hid fun k u hu => by
          rw [Nat.zero_add]
          exact (q3.cell k).trans (by simpa using hu)
        have HFIN := Lib.hid (show Sm (fun _ => False) w (wr.setRow (B + 1) #[.slice av ws.length cv, .slice ai i ci]) ∧ WV w.heap.size (.slice av ws.length cv) (.slice ai i ci) ws i (wr.setRow (B + 1) #[.slice av ws.length cv, .slice ai i ci]) from by
          have kr : Sm (fun b => b = B + 1) wr (wr.setRow (B + 1) #[.slice av ws.length cv, .slice ai i ci]) := ⟨rfl, rfl, rfl, by simp [World.setRow], fun k hk hf => setRow_other _ _ k _ hf⟩
          obtain ⟨vrs2, t1, t2, t3⟩ := qc.ex
          rw [← HB.out]
          have key : ∀ (T : TypeId) (n : Nat) (v : Value) (xs : List Value), T ≠ 32 → wr.ownsRow B T 1 v n xs → (wr.setRow (B + 1) #[.slice av ws.length cv, .slice ai i ci]).ownsRow B T 1 v n xs := fun T n v xs h1 ho => own_smF ho kr (fun b hb e => own_ne ho q2 h1 (e ▸ hb))
          refine ⟨((qs.mono (F' := fun b => b = B + 1) (fun _ h => h.elim)).trans kr).new (fun b hb => by have := HB.out; omega), ⟨vrs2, key _ _ _ _ (by decide) t1, fun j l v hl hv => ⟨key _ _ _ _ (by decide) (t2 j l v (by
            rcases Nat.lt_or_ge j ws.length with h | h
            · exact h
            · rw [List.getElem?_eq_none h] at hl
              cases hl) hl hv), HROWS.out j l hl⟩, t3⟩, key _ _ _ _ (by decide) g1, HN.out⟩)
        clear q3 qc q1 q2 qs qz g1 HINV HINV2
        go_wp2_with (first
          | refine wpList_load_mid rfl 32 (.tmp 3) rfl (B + 1 + 1) 0 (by simp [Act.eval, Act.put]) [.slice av ws.length cv, .slice ai i ci] _ HMID.out Try.underlying32 rfl (by kernel_rfl) ?_
          | refine wpList_store_row rfl 32 (.tmp 2) (.tmp 44) rfl (B + 1) #[.slice av ws.length cv, .slice ai i ci] (by simp [Act.eval, Act.put]) (by simp [Act.eval, Act.put]) 32 _ HR2.out (by kernel_rfl) (by rfl) (by simp [Value.oneCell']) ?_)
        refine bodyPost_ret (results_cell_row rfl _ _ (B + 1) 32 #[.slice av ws.length cv, .slice ai i ci] (0, 0) _ rfl HR2b.out Try.underlying32 rfl (by kernel_rfl)) rfl ?_
        exact ⟨_, _, rfl, HFIN.out.2, HFIN.out.1⟩
end Go.Proofs.Ytokoniaoknnggaa
