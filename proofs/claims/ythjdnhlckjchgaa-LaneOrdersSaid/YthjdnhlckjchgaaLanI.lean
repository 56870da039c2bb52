/- (*lane.Order).Put, walked alone. -/
import Derived.Test.YthjdnhlckjchgaaLanH
import Derived.StillTailTactics
namespace Go.Proofs.Ythjdnhlckjchgaa
open Go.RowKit
set_option linter.unusedVariables false
set_option linter.unusedSimpArgs false

def ic (l : List Int) : List Value := l.map fun x => Value.int .i64 x
theorem info_int : (Try.prog.info? 3).map (fun i => (i.zero, i.size, i.bytes)) = some (some (.int .i64 0), 1, 8) := by kernel_rfl
/-- What Put leaves behind. -/
def PutEnd (O N M : Nat) (room : Nat) (w : World) (r : PutOut) (e : Ending) (w' : World) : Prop :=
  ∃ v, e = .returned (.tuple #[v, .int .i64 (r.err : Int)]) ∧ w'.ownsRow w.heap.size 3 1 v r.out.length (ic r.out) ∧ Sm (fun b => b = N ∨ b = M) w w' ∧ OrdL O N M r.nx room r.ws w'

theorem wpList_store {ops : Array Oper} {rest : List Oper} {o : Oper} {a : Act} {w : World} {Q : Exit → Act → World → Prop} (hgd : o.guard = none) {T K : TypeId} (m y v : Operand) (ho : o.op = .mapUpdate T m y v)
    (hk : Maps.Keyed Try.prog K) (ht : Try.prog.underlying T = some (.map K 3)) {b n : Nat} {f : Lit → Option Int} (hm : a.eval m = .map (some b)) (hM : MapI K w b f n) (hn : n < 1000000) {key : Value} {kl : Lit} {x : Int} (hy : a.eval y = key) (hv : a.eval v = .int .i64 x)
    (hkey : keyOf Try.prog K key = some kl) (hx : (Lit.int .i64 x).wf = true)
    (h : ∀ w', MapI K w' b (upd f kl (some x)) (if (f kl).isSome then n else n + 1) → Sm (fun c => c = b) w w' → wpList Try.prog ops Q rest (a.put o.dst undef) w') : wpList Try.prog ops Q (o :: rest) a w :=
  wpList_plain hgd fun _ hK => by
    obtain ⟨w', hrun, h1, h2⟩ := hM.store hk ht hn hkey x hx
    unfold Oper.wp
    simp [execOp, ho, hm, hy, hv, hrun, Result.andThen]
    exact hK _ _ (h w' h1 h2)

theorem lookL_app (ws : List Wt) (a a' : Int) (s s' : Nat) (x : Int) : lookL (ws ++ [((a, s), x)]) a' s' = match lookL ws a' s' with | some y => some y | none => if a = a' ∧ s = s' then some x else none := by
  unfold lookL
  rw [List.find?_append]
  cases h : ws.find? (fun p => p.1 == (a', s')) with
  | some y => simp
  | none =>
    by_cases e : a = a' ∧ s = s'
    · simp [e]
    · simp [e]
theorem lookL_none {ws : List Wt} {a : Int} {s : Nat} (h : lookL ws a s = none) : ∀ p ∈ ws, p.1 ≠ (a, s) := by
  intro p hp e
  unfold lookL at h
  rw [Option.map_eq_none_iff, List.find?_eq_none] at h
  exact h p hp (by simp [e])

theorem OrdL.stored {O N M : Nat} {nx : List Nat} {room : Nat} {ws : List Wt} {w w4 : World} (h : OrdL O N M nx room ws w) {f : Lit → Option Int} (hf : ∀ a s, okS a s → f (stN a s) = lookL ws a s) {a : Int} {s : Nat} {x : Int} (hL : lookL ws a s = none) (hok : okS a s)
    (hx : (Lit.int .i64 x).wf = true) (hm : MapI 38 w4 M (upd f (stN a s) (some x)) (ws.length + 1)) (hs : Sm (fun c => c = M) w w4) : OrdL O N M nx room (ws ++ [((a, s), x)]) w4 where
  rO := h.rO.sm hs (fun e => h.neMO e.symm)
  rN := h.rN.sm hs (fun e => h.neMN e.symm)
  mM := ⟨_, by simpa using hm, fun a' s' hok' => by
    rw [lookL_app]
    by_cases e : a = a' ∧ s = s'
    · obtain ⟨rfl, rfl⟩ := e
      rw [upd_same, hL]
      simp
    · have hne : stN a' s' ≠ stN a s := fun e2 => e (by
        have := stN_inj (by have := hok'.1; omega) (by have := hok'.2.1; omega) hok'.2.2 (by have := hok.1; omega) (by have := hok.2.1; omega) hok.2.2 e2
        exact ⟨this.1.symm, this.2.symm⟩)
      rw [upd_ne _ _ _ _ hne, hf a' s' hok', if_neg e]
      cases lookL ws a' s' <;> rfl⟩
  nd := by
    rw [List.map_append, List.nodup_append]
    refine ⟨h.nd, by simp, fun y hy z hz e => ?_⟩
    obtain ⟨p, hp, rfl⟩ := List.mem_map.1 hy
    simp at hz
    subst hz
    exact lookL_none hL p hp e
  ok := fun p hp => by
    rcases List.mem_append.1 hp with hp | hp
    · exact h.ok p hp
    · rw [List.mem_singleton.1 hp]
      exact ⟨hok, hx⟩
  neNO := h.neNO
  neMO := h.neMO
  neMN := h.neMN
  pos := h.pos
  le := h.le
/-- What holds in the loop that lets out what waited. -/
structure Inv (O N M : Nat) (nx : List Nat) (room : Nat) (w : World) (A : Nat) (D : Nat × List Wt × List Int) (wr : World) (v : Value) (cur : Nat) (ws' : List Wt) (out : List Int) : Prop where
  own : wr.ownsRow w.heap.size 3 1 v out.length (ic out)
  ord : OrdL O N M (nx.set A cur) room ws' wr
  box : ∃ sv : Value, Row wr w.heap.size #[.int .i64 (A : Int), sv] 38
  sm : Sm (fun b => b = N ∨ b = M) w wr
  run : drain ws'.length A cur ws' out = D
  cap : ∀ g c, v = .slice (some ⟨g, 0, none⟩) out.length c → w.heap.size < g
def lenOf : Value → Nat
  | .slice _ n _ => n
  | _ => 0
theorem Inv.start {O N M : Nat} {nx : List Nat} {room : Nat} {ws : List Wt} {w V : World} {A s : Nat} {x : Int} {D : Nat × List Wt × List Int} (h : OrdL O N M nx room ws V) (hb : Row V w.heap.size #[.int .i64 (A : Int), .int .u64 (s : Int)] 38)
    (hs : Sm (fun b => b = N ∨ b = M) w V) (hA : A < nx.length) (hD : D = drain ws.length A (s + 1) ws [x]) (hO : O < w.heap.size) (hN : N < w.heap.size) (hM : M < w.heap.size) (hl : True := trivial) :
    Inv O N M nx room w A D ((V.alloc (.cells #[.int .i64 x] 3 (0, 0))).setCell ⟨N, A, none⟩ (.int .u64 ((s + 1 : Nat) : Int))) (.slice (some ⟨V.heap.size, 0, none⟩) 1 1) (s + 1) ws [x] := by
  have hNV := h.rN.lt
  have hbl := hb.lt
  have hk : Sm (fun b => b = N) V ((V.alloc (.cells #[.int .i64 x] 3 (0, 0))).setCell ⟨N, A, none⟩ (.int .u64 ((s + 1 : Nat) : Int))) :=
    Sm.setCell (F := fun b => b = N) (p := ⟨N, A, none⟩) ((Sm.refl _ V).alloc _) rfl _
  have hg := (Row.new V #[.int .i64 x] 3).set_ne (a := ⟨N, A, none⟩) (Nat.ne_of_lt hNV) (.int .u64 ((s + 1 : Nat) : Int))
  refine ⟨?_, ?_, ⟨_, hb.sm hk (by omega)⟩, hs.trans (hk.mono (fun _ h => Or.inl h)), hD.symm, fun g c e => ?_⟩
  · refine ⟨rfl, .inr ⟨V.heap.size, 1, _, rfl, hs.size, hg, Nat.le_refl _, by decide, rfl, rfl⟩⟩
  · have hn := (h.rN.alloc (.cells #[.int .i64 x] 3 (0, 0))).set A (.int .u64 ((s + 1 : Nat) : Int))
    rw [uw_set] at hn
    refine ⟨?_, hn, ?_, h.nd, h.ok, h.neNO, h.neMO, h.neMN, by simpa using h.pos, by simpa using h.le⟩
    · have := h.rO.sm hk (fun e => h.neNO e.symm)
      simpa using this
    · obtain ⟨f, h1, h2⟩ := h.mM
      exact ⟨f, h1.sm hk h.neMN, h2⟩
  · simp at e
    omega
theorem wpList_drop {ops : Array Oper} {rest : List Oper} {o : Oper} {a : Act} {w : World} {Q : Exit → Act → World → Prop} (hgd : o.guard = none) {T K : TypeId} (m y : Operand) (ho : o.op = Op.call { callee := Callee.builtin Builtin.delete, args := #[m, y], argTypes := #[T, K] })
    (hk : Maps.Keyed Try.prog K) (ht : Try.prog.underlying T = some (.map K 3)) {b n : Nat} {f : Lit → Option Int} (hm : a.eval m = .map (some b)) (hM : MapI K w b f n) {key : Value} {kl : Lit} (hy : a.eval y = key)
    (hkey : keyOf Try.prog K key = some kl)
    (h : ∀ w', MapI K w' b (upd f kl none) (if (f kl).isSome then n - 1 else n) → Sm (fun c => c = b) w w' → wpList Try.prog ops Q rest (a.put o.dst (.tuple #[])) w') : wpList Try.prog ops Q (o :: rest) a w :=
  wpList_plain hgd fun _ hK => by
    obtain ⟨w', hrun, h1, h2⟩ := hM.drop hk ht hkey o.type
    unfold Oper.wp
    simp [execOp, ho, resolve, invoke, builtin, hm, hy, hrun, Result.andThen]
    exact hK _ _ (h w' h1 h2)

theorem lookL_del (ws : List Wt) (a a' : Int) (s s' : Nat) : lookL (delL ws a s) a' s' = if a' = a ∧ s' = s then none else lookL ws a' s' := by
  unfold lookL delL
  rw [List.find?_filter]
  by_cases e : a' = a ∧ s' = s
  · obtain ⟨rfl, rfl⟩ := e
    rw [if_pos ⟨rfl, rfl⟩, Option.map_eq_none_iff, List.find?_eq_none]
    intro p hp
    simp
  · rw [if_neg e]
    congr 1
    congr 1
    funext p
    by_cases hp : p.1 = (a', s')
    · have : ¬ p.1 = (a, s) := fun h => e (by rw [hp] at h; simpa using h)
      simp [hp]
      omega
    · simp [hp]
theorem lookL_mem {ws : List Wt} {a : Int} {s : Nat} {y : Int} (h : lookL ws a s = some y) : ((a, s), y) ∈ ws := by
  unfold lookL at h
  obtain ⟨p, hp, rfl⟩ := Option.map_eq_some_iff.1 h
  have h1 := List.mem_of_find?_eq_some hp
  have h2 := List.find?_some hp
  simp at h2
  rw [← h2]
  exact h1
theorem delL_len {ws : List Wt} (hn : (ws.map (·.1)).Nodup) {a : Int} {s : Nat} {y : Int} (h : lookL ws a s = some y) : (delL ws a s).length + 1 = ws.length := by
  have hm := lookL_mem h
  clear h
  induction ws with
  | nil => cases hm
  | cons p r ih =>
    simp only [List.map_cons, List.nodup_cons] at hn
    unfold delL
    by_cases hp : p.1 = (a, s)
    · have hr : r.filter (fun p => !(p.1 == (a, s))) = r := by
        rw [List.filter_eq_self]
        intro q hq
        have : q.1 ≠ (a, s) := fun e => hn.1 (by rw [hp, ← e]; exact List.mem_map_of_mem hq)
        simp [this]
      simp [hp, hr]
    · have hq : ((a, s), y) ∈ r := by
        rcases List.mem_cons.1 hm with h | h
        · exact absurd (by rw [← h]) hp
        · exact h
      have := ih hn.2 hq
      unfold delL at this
      simp [hp]
      omega
theorem delL_sub (ws : List Wt) (a : Int) (s : Nat) : ∀ p ∈ delL ws a s, p ∈ ws := fun p hp => (List.mem_filter.1 hp).1
theorem delL_nodup {ws : List Wt} (hn : (ws.map (·.1)).Nodup) (a : Int) (s : Nat) : ((delL ws a s).map (·.1)).Nodup := hn.sublist ((List.filter_sublist).map _)
theorem drain_none {k : Nat} {a : Int} {c : Nat} {ws : List Wt} {out : List Int} (h : lookL ws a c = none) : drain k a c ws out = (c, ws, out) := by
  cases k with
  | zero => rfl
  | succ k => simp [drain, h]
theorem drain_some {k : Nat} {a : Int} {c : Nat} {ws : List Wt} {out : List Int} {y : Int} (h : lookL ws a c = some y) : drain (k + 1) a c ws out = drain k a (c + 1) (delL ws a c) (out ++ [y]) := by
  simp [drain, h]

section
variable {O N M : Nat} {nx : List Nat} {room : Nat} {w : World} {A : Nat} {D : Nat × List Wt × List Int} {wr : World} {v : Value} {cur : Nat} {ws' : List Wt} {out : List Int}
theorem Inv.key (h : Inv O N M nx room w A D wr v cur ws' out) (hO : O < w.heap.size) (hN : N < w.heap.size) (hM : M < w.heap.size) (hout : 0 < out.length) (u : Value) :
    Inv O N M nx room w A D (wr.setCell ⟨w.heap.size, 1, none⟩ u) v cur ws' out ∧ Row (wr.setCell ⟨w.heap.size, 1, none⟩ u) w.heap.size #[.int .i64 (A : Int), u] 38 := by
  have hk : Sm (fun b => b = w.heap.size) wr (wr.setCell ⟨w.heap.size, 1, none⟩ u) := Sm.setCell (F := fun b => b = w.heap.size) (p := ⟨w.heap.size, 1, none⟩) (Sm.refl _ wr) rfl _
  obtain ⟨sv, hb⟩ := h.box
  have hb2 := hb.set 1 u
  simp only [List.setIfInBounds_toArray, List.set_cons_succ, List.set_cons_zero] at hb2
  refine ⟨⟨?_, h.ord.sm hk (by omega) (by omega) (by omega), ⟨u, hb2⟩, h.sm.setNew (by simp) _, h.run, h.cap⟩, hb2⟩
  obtain ⟨g, c, hv⟩ := own_form h.own hout
  have hg := h.cap g c hv
  obtain ⟨h1, h2⟩ := h.own
  refine ⟨h1, ?_⟩
  rcases h2 with h2 | ⟨g', c', cur', hv', hge, hh, r⟩
  · exact .inl h2
  · refine .inr ⟨g', c', cur', hv', hge, ?_, r⟩
    have : g' = g := by rw [hv'] at hv; simpa using (congrArg (fun x => match x with | Value.slice (some a) _ _ => a.block | _ => 0) hv)
    subst this
    rw [hk.block g' (Array.getElem?_eq_some_iff.1 hh).1 (by omega)]
    exact hh
theorem Inv.done (h : Inv O N M nx room w A D wr v cur ws' out) (hl : lookL ws' A cur = none) (n : Nat) : PutEnd O N M room w ⟨nx.set A D.1, D.2.1, D.2.2, 0⟩ (.returned (.tuple #[v, .int .i64 0])) (wr.drewN n) := by
  have hr := h.run
  rw [drain_none hl] at hr
  subst hr
  exact ⟨v, rfl, h.own, h.sm.drewN n, h.ord.sm ((Sm.refl (fun _ => False) wr).drewN n) (fun h => h) (fun h => h) (fun h => h)⟩
theorem Inv.step {W W3 W4 : World} {v' : Value} {f : Lit → Option Int} {y : Int} (h : Inv O N M nx room w A D W v cur ws' out) (hA : A < nx.length) (hO : O < w.heap.size) (hN : N < w.heap.size) (hM : M < w.heap.size) (hout : 0 < out.length)
    (hf : ∀ a s, okS a s → f (stN a s) = lookL ws' a s) (hok : okS A cur) (hl : lookL ws' A cur = some y) (hm3 : MapI 38 W3 M (upd f (stN A cur) none) (ws'.length - 1)) (hs3 : Sm (fun c => c = M) W W3)
    (hg : (W3.alloc (.cells #[.int .i64 y] 3 (0, 0))).grownBy W4 v.ownBlock) (ho : W4.ownsRow w.heap.size 3 1 v' (out.length + 1) (ic out ++ [.int .i64 y])) :
    Inv O N M nx room w A D (W4.setCell ⟨N, A, none⟩ (.int .u64 ((cur + 1 : Nat) : Int))) v' (cur + 1) (delL ws' A cur) (out ++ [y]) := by
  obtain ⟨g0, c0, hv0⟩ := own_form h.own hout
  have hg0 := h.cap g0 c0 hv0
  have hs4 : Sm (fun b => b = M ∨ w.heap.size < b) W W4 :=
    (hs3.mono (fun _ h => Or.inl h)).trans ((((Sm.refl _ W3).alloc _)).trans (sm_grown hg (fun k hk => Or.inr (by
      rw [hv0] at hk
      simp [Value.ownBlock] at hk
      omega))))
  obtain ⟨sv, hb⟩ := h.box
  have hbl := hb.lt
  have hb4 := hb.sm hs4 (by omega)
  have hk : Sm (fun b => b = N) W4 (W4.setCell ⟨N, A, none⟩ (.int .u64 ((cur + 1 : Nat) : Int))) := Sm.setCell (F := fun b => b = N) (p := ⟨N, A, none⟩) (Sm.refl _ W4) rfl _
  have hcap : ∀ g c, v' = .slice (some ⟨g, 0, none⟩) (out ++ [y]).length c → w.heap.size < g := by
    intro g c hv
    obtain ⟨_, h2⟩ := ho
    rcases h2 with ⟨h2, h3⟩ | ⟨g', c', cur', hv', hge, hh, r⟩
    · omega
    · have e : g' = g := by
        rw [hv'] at hv
        simp only [Value.slice.injEq, Option.some.injEq, Addr.mk.injEq] at hv
        exact hv.1.1
      subst e
      rcases Nat.lt_or_ge w.heap.size g' with h | h
      · exact h
      · have e2 : g' = w.heap.size := by omega
        rw [e2] at hh
        have hb5 : W4.heap[w.heap.size]? = some (.cells #[.int .i64 (A : Int), sv] 38 (0, 0)) := hb4
        rw [hb5] at hh
        simp at hh
  have hdl := delL_len h.ord.nd hl
  have hN4 := h.ord.rN.sm hs4 (fun e => by rcases e with e | e; exact h.ord.neMN e.symm; omega)
  have hO4 := (h.ord.rO.sm hs4 (fun e => by rcases e with e | e; exact h.ord.neMO e.symm; omega)).sm hk (fun e => h.ord.neNO e.symm)
  have hM4 : MapI 38 W4 M (upd f (stN A cur) none) (ws'.length - 1) := hm3.of_heap (by
    rw [hg.block M (by have := hm3.lt; simp; omega) (fun e => by rw [hv0] at e; simp [Value.ownBlock] at e; omega), Below.heap_alloc _ _ _ hm3.lt])
  have hset := hN4.set A (.int .u64 ((cur + 1 : Nat) : Int))
  rw [uw_set, List.set_set] at hset
  refine ⟨?_, ?_, ⟨sv, hb4.sm hk (by omega)⟩, ?_, ?_, hcap⟩
  · have e : ic (out ++ [y]) = ic out ++ [.int .i64 y] := by simp [ic]
    rw [e, List.length_append]
    exact own_sm ho hk (fun b hb e => by omega)
  · refine ⟨by simpa using hO4, hset, ⟨upd f (stN A cur) none, ?_, fun a' s' hok' => ?_⟩, delL_nodup h.ord.nd _ _, fun p hp => h.ord.ok p (delL_sub _ _ _ p hp), h.ord.neNO, h.ord.neMO, h.ord.neMN, by simpa using h.ord.pos, by simpa using h.ord.le⟩
    · have := hM4.sm hk h.ord.neMN
      rw [show (delL ws' A cur).length = ws'.length - 1 by omega]
      exact this
    · rw [lookL_del]
      by_cases e : a' = A ∧ s' = cur
      · obtain ⟨rfl, rfl⟩ := e
        rw [upd_same, if_pos ⟨rfl, rfl⟩]
      · have hne : stN a' s' ≠ stN A cur := fun e2 => e (stN_inj (by have := hok'.1; omega) (by have := hok'.2.1; omega) hok'.2.2 (by have := hok.1; omega) (by have := hok.2.1; omega) hok.2.2 e2)
        rw [upd_ne _ _ _ _ hne, if_neg e, hf a' s' hok']
  · exact ⟨hk.os.trans (hs4.os.trans h.sm.os), hk.tape.trans (hs4.tape.trans h.sm.tape), hk.output.trans (hs4.output.trans h.sm.output), Nat.le_trans h.sm.size (Nat.le_trans hs4.size hk.size), fun k hk1 hk2 =>
      (hk.block k (Nat.lt_of_lt_of_le hk1 (Nat.le_trans h.sm.size hs4.size)) (fun e => hk2 (Or.inl e))).trans ((hs4.block k (Nat.lt_of_lt_of_le hk1 h.sm.size) (fun e => by rcases e with e | e; exact hk2 (Or.inr e); omega)).trans (h.sm.block k hk1 hk2))⟩
  · have hr := h.run
    rw [← hdl, drain_some hl] at hr
    exact hr
end
theorem wp_drewN {P : Program} {c : Code} {Q : Exit → Act → World → Prop} {a : Act} {w : World} {n : Nat} (h : ∀ W : World, W = w.drewN n → Code.wp P c Q a W) : Code.wp P c Q a (w.drewN n) := h _ rfl
theorem cell_heap {w : World} {n : Nat} {W : World} (h : W = w.drewN n) (p : Addr) : W.cell? p = w.cell? p := by rw [h]; rfl

set_option maxRecDepth 100000 in
set_option maxHeartbeats 1600000 in
theorem put_c (O N M : Nat) (nx : List Nat) (room : Nat) (ws : List Wt) (w : World) (h : OrdL O N M nx room ws w) (hnx : ∀ x ∈ nx, x + ws.length < 1000000) (hws : ws.length < 1000000) (hroom : room ≤ 4096)
    (a : Int) (ha1 : -9223372036854775808 ≤ a) (ha2 : a < 9223372036854775808) (s : Nat) (hs : s < 18446744073709551616) (x : Int) (hx : (Lit.int .i64 x).wf = true) :
    Calls Try.prog 13 #[.pointer (some ⟨O, 0, none⟩), .agg #[.int .i64 a, .int .u64 (s : Int)], .int .i64 x] w (PutEnd O N M room w (putL nx room ws a s x)) := by
  obtain ⟨i0, hi0, hz0, hz1, hz2⟩ := info_parts info_int
  have HI0 := Lib.hid hi0
  clear hi0
  obtain ⟨R, hR⟩ : ∃ R, R = putL nx room ws a s x := ⟨_, rfl⟩
  rw [← hR]
  have HR := Lib.hid hR
  clear hR
  have hr := Row.new w #[.int .i64 a, .int .u64 (s : Int)] 38
  have hS := (Sm.refl (fun b => b = N ∨ b = M) w).alloc (.cells #[.int .i64 a, .int .u64 (s : Int)] 38 (0, 0))
  have hOl := h.rO.lt
  have hNl := h.rN.lt
  have hMl : M < w.heap.size := h.mM.elim fun f hf => hf.1.lt
  obtain ⟨w1, hw1⟩ : ∃ w1, w1 = w.alloc (.cells #[.int .i64 a, .int .u64 (s : Int)] 38 (0, 0)) := ⟨_, rfl⟩
  have hc0 : (w.alloc (.cells #[.int .i64 a, .int .u64 (s : Int)] 38 (0, 0))).cell? ⟨O, 0, none⟩ = some (.slice (some ⟨N, 0, none⟩) nx.length nx.length) := (h.rO.alloc _).cell 0
  have h1 : OrdL O N M nx room ws w1 := by
    rw [hw1]
    exact h.sm ((Sm.refl (fun _ => False) w).alloc _) (fun h => h) (fun h => h) (fun h => h)
  rw [← hw1] at hr hS
  have HW1 := Lib.hid hw1
  have HS := Lib.hid hS
  have hnil : ∀ W, (binOp .eql 42 (.slice (some ⟨N, 0, none⟩) nx.length nx.length) (.slice none 0 0)).run Try.prog W = .ok (.bool false) W := fun W => run_eql_slice_some_nilX W _ _ _ Try.underlying42
  clear hS hw1
  go_enter Try.func13, Try.ntmps13
  go_wp2
  rw [← HW1.out]
  clear hc0
  have c0 := h1.rO.cell 0
  have b0 := hr.cell 0
  have b1 := hr.cell 1
  simp only [List.getElem?_toArray, List.getElem?_cons_zero, List.getElem?_cons_succ] at c0 b0 b1
  have HE : ∀ (e : Nat) P, P = R → ∀ n, P = ⟨nx, ws, [], e⟩ → Hid (PutEnd O N M room w R (.returned (.tuple #[.slice none 0 0, .int .i64 (e : Int)])) (w1.drewN n)) := fun e P e1 n e2 => by
    rw [← e1, e2]
    exact Lib.hid ⟨_, rfl, World.ownsRow_nil _ _ _ _, HS.out.drewN n, h1.sm ((Sm.refl (fun _ => False) w1).drewN n) (fun h => h) (fun h => h) (fun h => h)⟩
  by_cases hA0 : a < 0
  · have hput : putL nx room ws a s x = ⟨nx, ws, [], 5⟩ := by simp only [putL, if_pos (Or.inl hA0 : a < 0 ∨ (nx.length : Int) ≤ a)]
    have HE2 := fun n => HE 5 _ HR.out.symm n hput
    clear HE hput hnx hws HR
    go_quiet (fail)
    go_wp2
    go_ret2
    exact (HE2 _).out
  by_cases hA1 : (nx.length : Int) ≤ a
  · have hput : putL nx room ws a s x = ⟨nx, ws, [], 5⟩ := by simp only [putL, if_pos (Or.inr hA1 : a < 0 ∨ (nx.length : Int) ≤ a)]
    have HE2 := fun n => HE 5 _ HR.out.symm n hput
    clear HE hput hnx hws HR
    go_quiet (fail)
    go_wp2
    go_ret2
    exact (HE2 _).out
  have HEE := Lib.hid HE
  clear HE
  have hA2 : a < (nx.length : Int) := by omega
  have hA3 : 0 ≤ a := by omega
  obtain ⟨A, rfl⟩ := Int.eq_ofNat_of_zero_le hA3
  have hAn : A < nx.length := by omega
  obtain ⟨c, hcd⟩ : ∃ c, c = nx.getD A 0 := ⟨_, rfl⟩
  have hcm : c + ws.length < 1000000 := by
    rw [hcd, List.getD_eq_getElem?_getD, List.getElem?_eq_getElem hAn]
    exact hnx _ (List.getElem_mem hAn)
  have hcN : (uw nx)[A]? = some (.int .u64 (c : Int)) := (uw_get nx A hAn).trans (by rw [hcd]; simp [hAn])
  obtain ⟨f, hf1, hf2⟩ := h1.mM
  have hle := h1.le
  have hokS : okS (A : Int) s := ⟨by omega, by omega, hs⟩
  have hkey : keyOf Try.prog 38 (.agg #[.int .i64 (A : Int), .int .u64 (s : Int)]) = some (stN A s) := keyOf_stamp A s (by omega) (by omega) hs
  have hlk : ∀ n, (Instr.lookup 116 (.map (some M)) (.agg #[.int .i64 (A : Int), .int .u64 (s : Int)]) true).run Try.prog (w1.drewN n) = .ok (.tuple #[.int .i64 ((lookL ws A s).getD 0), .bool (lookL ws A s).isSome]) (w1.drewN n) := fun n => by
    rw [← hf2 A s hokS]
    exact MapI.look_ok (w := w1.drewN n) hf1 keyed_stamp Try.underlying116 hkey
  obtain ⟨L, hL⟩ : ∃ L, L = lookL ws A s := ⟨_, rfl⟩
  rw [← hL] at hlk
  have c1 := h1.rO.cell 1
  have c2 := h1.rO.cell 2
  simp only [List.getElem?_toArray, List.getElem?_cons_zero, List.getElem?_cons_succ] at c1 c2
  have n0 : w1.cell? ⟨N, A, none⟩ = some (.int .u64 (c : Int)) := (h1.rN.cell A).trans hcN
  have HL := Lib.hid hL
  have HCD := Lib.hid hcd
  have HF1 := Lib.hid hf1
  have HF2 := Lib.hid hf2
  have HKEY := Lib.hid hkey
  have HOK := Lib.hid hokS
  have H1 := Lib.hid h1
  have H := Lib.hid h
  have HRR := Lib.hid hr
  clear hL hcd hf1 hf2 hkey hokS h1 h hr hnil
  go_quiet (fail)
  go_wp2
  go_quiet (fail)
  go_wp2
  simp only [World.drewN_drewN]
  have hif : ¬ ((A : Int) < 0 ∨ (nx.length : Int) ≤ (A : Int)) := by omega
  have hgA : nx.getD (A : Int).toNat 0 = c := by rw [HCD.out]; rfl
  have hlen : ∀ n, (Builtin.len_ #[116] 3 #[.map (some M)]).run Try.prog (w1.drewN n) = .ok (.int .i64 ws.length) (w1.drewN n) := fun n =>
    MapI.len (w := w1.drewN n) HF1.out Try.underlying116 3
  by_cases hB : L.isSome = true
  · have hput : putL nx room ws A s x = ⟨nx, ws, [], 240⟩ := by
      unfold putL
      rw [if_neg hif, hgA, ← HL.out, if_pos (Or.inl hB)]
    have HE2 := fun n => HEE.out 240 _ HR.out.symm n hput
    clear hput hif hgA hlen
    go_quiet (fail)
    go_wp2
    go_quiet (fail)
    go_wp2
    simp only [World.drewN_drewN]
    go_ret2
    exact (HE2 _).out
  by_cases hB2 : s < c
  · have hput : putL nx room ws A s x = ⟨nx, ws, [], 240⟩ := by
      unfold putL
      rw [if_neg hif, hgA, if_pos (Or.inr hB2)]
    have hB3 : (s : Int) < (c : Int) := by omega
    have HE2 := fun n => HEE.out 240 _ HR.out.symm n hput
    clear hput hif hgA hlen
    go_quiet (fail)
    go_wp2
    go_quiet (fail)
    go_wp2
    simp only [World.drewN_drewN]
    go_ret2
    exact (HE2 _).out
  have hB3 : ¬ (s : Int) < (c : Int) := by omega
  have hB4 : ¬ (L.isSome = true ∨ s < c) := by simp [hB, hB2]
  by_cases hC : c < s
  · have hC2 : (c : Int) < (s : Int) := by omega
    by_cases hD : room ≤ ws.length
    · have hD2 : (room : Int) ≤ (ws.length : Int) := by omega
      have hput : putL nx room ws A s x = ⟨nx, ws, [], 4⟩ := by
        unfold putL
        rw [if_neg hif, hgA, ← HL.out, if_neg hB4, if_pos hC, if_pos hD]
      have HE2 := fun n => HEE.out 4 _ HR.out.symm n hput
      clear hput hif hgA
      go_quiet (fail)
      go_wp2
      go_quiet (fail)
      go_wp2
      go_quiet (fail)
      go_wp2
      go_quiet (fail)
      go_wp2
      simp only [World.drewN_drewN]
      go_ret2
      exact (HE2 _).out
    · have hD2 : ¬ (room : Int) ≤ (ws.length : Int) := by omega
      have hput : putL nx room ws A s x = ⟨nx, ws ++ [(((A : Int), s), x)], [], 0⟩ := by
        unfold putL
        rw [if_neg hif, hgA, ← HL.out, if_neg hB4, if_pos hC, if_neg hD]
      clear hif hgA
      go_quiet (fail)
      go_wp2
      go_quiet (fail)
      go_wp2
      go_quiet (fail)
      go_wp2
      go_quiet (fail)
      go_wp2
      simp only [World.drewN_drewN]
      refine wp_drewN (fun W hW => ?_)
      have HWW := Lib.hid hW
      have c2' : W.cell? ⟨O, 2, none⟩ = some (.map (some M)) := (cell_heap hW _).trans c2
      have b0' : W.cell? ⟨w.heap.size, 0, none⟩ = some (.int .i64 (A : Int)) := (cell_heap hW _).trans b0
      have b1' : W.cell? ⟨w.heap.size, 1, none⟩ = some (.int .u64 (s : Int)) := (cell_heap hW _).trans b1
      have HM := Lib.hid (HF1.out.of_heap (w' := W) (by rw [hW]; rfl))
      clear hW c0 c1 c2 n0 hlk hlen b0 b1
      refine wp_region_still_tail 6 (by kernel_rfl) (by kernel_rfl) ?_
      simp only [List.take_succ_cons, List.take_zero, List.drop_succ_cons, List.drop_zero]
      still_step
      still_step
      still_step
      still_step
      still_step
      still_step
      refine wpStill_nil ?_
      refine wpList_store rfl (.tmp 82) (.tmp 83) (.tmp 84) rfl keyed_stamp Try.underlying116 (by simp [Act.eval]) HM.out.drew (by omega) (by simp [Act.eval]) (by simp [Act.eval]) HKEY.out hx (fun w4 hm4 hs4 => ?_)
      have hfn : f (stN A s) = none := by
        rw [HF2.out _ _ HOK.out, ← HL.out]
        cases L with
        | none => rfl
        | some y => exact absurd rfl hB
      rw [hfn] at hm4
      have hsW : Sm (fun _ => False) w1 W := by rw [HWW.out]; exact (Sm.refl _ _).drewN _
      have h4 : PutEnd O N M room w R (.returned (.tuple #[.slice none 0 0, .int .i64 0])) w4 := by
        rw [HR.out, hput]
        refine ⟨_, rfl, World.ownsRow_nil _ _ _ _, HS.out.trans ((hsW.mono (fun _ h => h.elim)).trans (((Sm.refl _ W).drew).trans (hs4.mono (fun _ h => Or.inr h)))), ?_⟩
        exact OrdL.stored (H1.out.sm ((hsW.trans ((Sm.refl _ W).drew))) (fun h => h) (fun h => h) (fun h => h)) HF2.out (by rw [← HF2.out _ _ HOK.out]; exact hfn) HOK.out hx (by simpa using hm4) hs4
      have H4 := Lib.hid h4
      clear h4 hm4 hs4 hsW hfn
      go_wp2
      go_ret2
      exact H4.out
  have hcs : s = c := by omega
  have hput : putL nx room ws A s x = ⟨nx.set A (drain ws.length A (c + 1) ws [x]).1, (drain ws.length A (c + 1) ws [x]).2.1, (drain ws.length A (c + 1) ws [x]).2.2, 0⟩ := by
    unfold putL
    rw [if_neg hif, hgA, ← HL.out, if_neg hB4, if_neg hC]
    rfl
  obtain ⟨D, hD⟩ : ∃ D, D = drain ws.length A (c + 1) ws [x] := ⟨_, rfl⟩
  rw [← hD] at hput
  have HD := Lib.hid hD
  have HPUT := Lib.hid hput
  clear hif hgA hD hput hlen HEE hB2 hB3 hB4 hC
  subst hcs
  go_quiet (fail)
  go_wp2
  go_quiet (fail)
  go_wp2
  simp only [World.drewN_drewN]
  refine wp_drewN (fun W hW => ?_)
  have b1' : W.cell? ⟨w.heap.size, 1, none⟩ = some (.int .u64 (s : Int)) := (cell_heap hW _).trans b1
  have n0' : W.cell? ⟨N, A, none⟩ = some (.int .u64 (s : Int)) := (cell_heap hW _).trans n0
  have HWW := Lib.hid hW
  clear hW c0 c1 c2 hlk b0 b1 n0
  go_quiet (fail)
  obtain ⟨V, hV⟩ : ∃ V, V = W.drewN nq := ⟨_, rfl⟩
  have hVs : Sm (fun _ => False) w1 V := by rw [hV, HWW.out]; exact ((Sm.refl _ _).drewN _).drewN _
  have hVN : V.cell? ⟨N, A, none⟩ = some (.int .u64 (s : Int)) := by rw [hV]; exact n0'
  have hord : OrdL O N M nx room ws V := H1.out.sm hVs (fun h => h) (fun h => h) (fun h => h)
  have hbox : Row V w.heap.size #[.int .i64 (A : Int), .int .u64 (s : Int)] 38 := HRR.out.sm hVs (fun h => h)
  have hsV : Sm (fun b => b = N ∨ b = M) w V := HS.out.trans (hVs.mono (fun _ h => h.elim))
  rw [← hV]
  clear hV b1' n0' HWW HS H1 HRR H
  have hVa : (V.alloc (.cells #[.int .i64 x] 3)).cell? ⟨N, A, none⟩ = some (.int .u64 (s : Int)) := ((hord.rN.alloc _).cell A).trans hcN
  have hf0 : (V.alloc (.cells #[.int .i64 x] 3)).frozen? ⟨N, A, none⟩ = false := (hord.rN.alloc _).free A
  have hwr : IntKind.u64.wrap ((s : Int) + 1) = ((s + 1 : Nat) : Int) := by rw [IntKind.wrap_u64]; omega
  obtain ⟨U, hU⟩ : ∃ U, U = (V.alloc (.cells #[.int .i64 x] 3 (0, 0))).setCell ⟨N, A, none⟩ (.int .u64 ((s : Int) + 1)) := ⟨_, rfl⟩
  have hin : Inv O N M nx room w A D U (.slice (some ⟨V.heap.size, 0, none⟩) 1 1) (s + 1) ws [x] := by
    rw [hU, show ((s : Int) + 1) = ((s + 1 : Nat) : Int) by omega]
    exact Inv.start hord hbox hsV hAn HD.out hOl hNl hMl
  have HIN := Lib.hid hin
  have HU := Lib.hid hU
  clear hord hbox hsV hnx hcN hle hB ha1 ha2 hA0 hA1 hA3 hin hU HF1 HF2 HKEY HOK HCD HL
  go_wp2
  rw [← HU.out]
  clear hVN hVa hf0
  go_loopw [11] (fun s11 wr => ∃ (cur : Nat) (ws' : List Wt) (out : List Int), Hid (Inv O N M nx room w A D wr s11 cur ws' out) ∧ cur + ws'.length < 1000002 ∧ out.length + ws'.length = 1 + ws.length ∧ lenOf s11 = out.length ∧ 0 < out.length) (fun s11 wr => 2 + ws.length - lenOf s11)
  case atStart => exact ⟨s + 1, ws, [x], HIN, by omega, by simp, rfl, by simp⟩
  case round =>
    obtain ⟨cur, ws', out, hI, hcw, how, hlo, hout⟩ := hrel
    obtain ⟨sv, hbox⟩ := hI.out.box
    have e0 := hbox.cell 0
    have e1 := hbox.cell 1
    simp only [List.getElem?_toArray, List.getElem?_cons_zero, List.getElem?_cons_succ] at e0 e1
    have e2 : wr.cell? ⟨N, A, none⟩ = some (.int .u64 (cur : Int)) := (hI.out.ord.rN.cell A).trans ((uw_get _ A (by simpa using hAn)).trans (by simp))
    have z1 := hbox.free 1
    obtain ⟨hK1, hB1⟩ := hI.out.key hOl hNl hMl hout (.int .u64 (cur : Int))
    obtain ⟨W, hW⟩ : ∃ W, W = wr.setCell ⟨w.heap.size, 1, none⟩ (.int .u64 (cur : Int)) := ⟨_, rfl⟩
    rw [← hW] at hK1 hB1
    have g2 := hK1.ord.rO.cell 2
    have g0 := hB1.cell 0
    have g1 := hB1.cell 1
    simp only [List.getElem?_toArray, List.getElem?_cons_zero, List.getElem?_cons_succ] at g0 g1 g2
    obtain ⟨f, hf1, hf2⟩ := hK1.ord.mM
    have hle := hK1.ord.le
    have hokS : okS (A : Int) cur := ⟨by omega, by simp at hle; omega, by omega⟩
    have hkey : keyOf Try.prog 38 (.agg #[.int .i64 (A : Int), .int .u64 (cur : Int)]) = some (stN A cur) := keyOf_stamp A cur (by omega) (by simp at hle; omega) (by omega)
    have hlk : ∀ n, (Instr.lookup 116 (.map (some M)) (.agg #[.int .i64 (A : Int), .int .u64 (cur : Int)]) true).run Try.prog (W.drewN n) = .ok (.tuple #[.int .i64 ((lookL ws' A cur).getD 0), .bool (lookL ws' A cur).isSome]) (W.drewN n) := fun n => by
      rw [← hf2 A cur hokS]
      exact MapI.look_ok (w := W.drewN n) hf1 keyed_stamp Try.underlying116 hkey
    have HW := Lib.hid hW
    have HK := Lib.hid hK1
    have HB1 := Lib.hid hB1
    have HF1 := Lib.hid hf1
    have HF2 := Lib.hid hf2
    have HKEY := Lib.hid hkey
    have HOK := Lib.hid hokS
    clear hK1 hB1 hf1 hf2 hkey hokS hI hbox hW
    cases hl : lookL ws' A cur with
    | none =>
      have hd := fun n => Lib.hid (HK.out.done hl n)
      rw [hl] at hlk
      rw [← HPUT.out, ← HR.out] at hd
      clear hl HPUT
      go_wp2
      rw [← HW.out]
      go_quiet (fail)
      go_wp2
      go_ret2
      exact (hd _).out
    | some y =>
      rw [hl] at hlk
      clear HPUT
      obtain ⟨a5, c5, hv5⟩ := own_form0 HK.out.own
      subst hv5
      go_wp2
      rw [← HW.out]
      go_quiet (fail)
      go_wp2
      refine wp_drewN (fun Y hY => ?_)
      have k0 : Y.cell? ⟨O, 2, none⟩ = some (.map (some M)) := (cell_heap hY _).trans g2
      have k1 : Y.cell? ⟨w.heap.size, 0, none⟩ = some (.int .i64 (A : Int)) := (cell_heap hY _).trans g0
      have k2 : Y.cell? ⟨w.heap.size, 1, none⟩ = some (.int .u64 (cur : Int)) := (cell_heap hY _).trans g1
      have HM := Lib.hid (HF1.out.of_heap (w' := Y) (by rw [hY]; rfl))
      have HY := Lib.hid hY
      clear hY g0 g1 g2 e0 e1 e2 z1 hlk HF1
      refine wp_region_still_tail 5 (by kernel_rfl) (by kernel_rfl) ?_
      simp only [List.take_succ_cons, List.take_zero, List.drop_succ_cons, List.drop_zero]
      still_step
      still_step
      still_step
      still_step
      still_step
      refine wpStill_nil ?_
      refine wpList_drop rfl (.tmp 116) (.tmp 117) rfl keyed_stamp Try.underlying116 (by simp [Act.eval]) HM.out.drew (by simp [Act.eval]) HKEY.out (fun W3 hm3 hs3 => ?_)
      have hfy : f (stN A cur) = some y := by rw [HF2.out _ _ HOK.out]; exact hl
      rw [hfy] at hm3
      have hs13 : Sm (fun c => c = M) W W3 := (((Sm.refl (fun c => c = M) W).drewN _).drew.trans (by rw [HY.out] at hs3; exact hs3))
      have own3 := Lib.hid (own_sm HK.out.own hs13 (fun b hb e => by omega))
      have hrn3 := HK.out.ord.rN.sm hs13 (fun e => HK.out.ord.neMN e.symm)
      have hsz3 : w.heap.size ≤ W3.heap.size := Nat.le_trans HK.out.sm.size hs13.size
      have HM3 := Lib.hid hm3
      have HS13 := Lib.hid hs13
      have HRN3 := Lib.hid hrn3
      have HSZ3 := Lib.hid hsz3
      have HL5 := Lib.hid hl
      have HFY := Lib.hid hfy
      have hcw2 : IntKind.u64.wrap ((cur : Int) + 1) = ((cur + 1 : Nat) : Int) := by rw [IntKind.wrap_u64]; omega
      have hol : out.length < 1000002 := by omega
      have HROW4 := Lib.hid (fun W4 (hg : (W3.alloc (.cells #[.int .i64 y] 3 (0, 0))).grownBy W4 (Value.slice a5 out.length c5).ownBlock) => (hrn3.alloc _).grown hg (fun e => by have := (own3.out.lt _ e).1; omega))
      have HCN := Lib.hid ((uw_get (nx.set A cur) A (by simpa using hAn)).trans (by simp : some (Value.int .u64 (((nx.set A cur)[A]'(by simpa using hAn) : Nat) : Int)) = some (.int .u64 (cur : Int))))
      clear hm3 hs3 hs13 hrn3 hsz3 hl hfy k0 k1 k2
      go_wp2_with (at_builtin; refine wpList_append_own _ rfl (.tmp 118) (.tmp 120) 33 rfl w.heap.size 3 i0 (.int .i64 0) 1 8 Try.underlying33 HI0.out hz0 hz1 hz2 rfl (by decide) _ out.length (ic out) rfl (own3.out.alloc _) ⟨W3.heap.size, 0, none⟩ 1 1 [.int .i64 y] rfl rfl (new_cells W3 [.int .i64 y] 3) (by simp [Value.oneCell']) (by unfold maxLen; omega) (by omega) (by have := HSZ3.out; simp; omega) ?_; intro v' W4 hown4 hgr4 _; have hr4 := HROW4.out W4 hgr4; have hN4 : W4.cell? ⟨N, A, none⟩ = some (.int .u64 (cur : Int)) := (hr4.cell A).trans HCN.out; have hf4 : W4.frozen? ⟨N, A, none⟩ = false := hr4.free A; have HOWN4 := Lib.hid hown4; have HGR4 : Hid ((W3.alloc (.cells #[.int .i64 y] 3 (0, 0))).grownBy W4 (Value.slice a5 out.length c5).ownBlock) := Lib.hid hgr4; clear hown4 hgr4 hr4)
      have hend := Inv.step HK.out hAn hOl hNl hMl hout HF2.out HOK.out HL5.out HM3.out HS13.out HGR4.out HOWN4.out
      have HEND := Lib.hid hend
      have hdl : (delL ws' A cur).length + 1 = ws'.length := delL_len HK.out.ord.nd HL5.out
      obtain ⟨a6, c6, hv6⟩ := own_form0 HOWN4.out
      subst hv6
      clear hend
      rw [show (((cur + 1 : Nat) : Int)) = (cur : Int) + 1 by omega] at HEND
      go_roundw
      case rel => exact ⟨cur + 1, delL ws' A cur, out ++ [y], HEND, by omega, by simp; omega, by simp [lenOf], by simp⟩
      case measure => simp only [lenOf]; omega
end Go.Proofs.Ythjdnhlckjchgaa
