/- The reference's Put, walked alone: it does what putL tells. -/
import Derived.Test.YthjdnhlckjchgaaLanS
namespace Go.Proofs.Ythjdnhlckjchgaa
open Go.RowKit
set_option linter.unusedVariables false
set_option linter.unusedSimpArgs false

theorem find_look {ws : List Wt} {a : Int} {s : Nat} : (lookL ws a s = none → findI ws a s = -1) ∧ (∀ y, lookL ws a s = some y → ∃ i : Nat, ∃ hi : i < ws.length, findI ws a s = (i : Int) ∧ ws[i] = ((a, s), y)) := by
  constructor
  · intro h
    refine findI_none (fun j hj e => ?_)
    unfold lookL at h
    rw [Option.map_eq_none_iff, List.find?_eq_none] at h
    exact h _ (List.getElem_mem hj) (by simp [e])
  · intro y h
    unfold lookL at h
    obtain ⟨p, hp, rfl⟩ := Option.map_eq_some_iff.1 h
    obtain ⟨h1, i, hi, rfl, h2⟩ := List.find?_eq_some_iff_getElem.1 hp
    refine ⟨i, hi, findI_some hi (by simpa using h1) (fun j hj hlt e => ?_), ?_⟩
    · have := h2 j hlt
      simp [e] at this
    · have h1' : ws[i].1 = (a, s) := by simpa using h1
      rw [← h1']
theorem delL_at {ws : List Wt} (hn : (ws.map (·.1)).Nodup) {i : Nat} (hi : i < ws.length) {a : Int} {s : Nat} {y : Int} (he : ws[i] = ((a, s), y)) : delL ws a s = ws.take i ++ ws.drop (i + 1) := by
  have e : ws = ws.take i ++ ws[i] :: ws.drop (i + 1) := by rw [← List.drop_eq_getElem_cons hi, List.take_append_drop]
  have hd : ∀ p ∈ ws.take i ++ ws.drop (i + 1), p.1 ≠ (a, s) := by
    intro p hp e2
    rw [e, he, List.map_append, List.map_cons, List.nodup_append] at hn
    rcases List.mem_append.1 hp with h | h
    · exact hn.2.2 p.1 (List.mem_map_of_mem h) (a, s) (by simp) e2
    · exact (List.nodup_cons.1 hn.2.1).1 (by simpa [e2] using List.mem_map_of_mem (f := (·.1)) h)
  unfold delL
  conv => lhs; rw [e]
  rw [List.filter_append, List.filter_cons, he]
  simp only [beq_self_eq_true, Bool.not_true, Bool.false_eq_true, if_false]
  rw [List.filter_eq_self.2, List.filter_eq_self.2]
  · intro p hp
    simp [hd p (by simp [hp])]
  · intro p hp
    simp [hd p (by simp [hp])]
theorem info_wait : (Try.prog.info? 123).map (fun i => (i.zero, i.size, i.bytes)) = some (some (.agg #[.int .i64 0, .int .u64 0, .int .i64 0]), 3, 24) := by kernel_rfl
def RPutEnd (BR O N room : Nat) (vW : Value) (w : World) (r : PutOut) (e : Ending) (w' : World) : Prop :=
  ∃ v vW', e = .returned (.tuple #[v, .int .i64 (r.err : Int)]) ∧ w'.ownsRow w.heap.size 3 1 v r.out.length (ic r.out) ∧ Sm (fun b => b = O ∨ b = N ∨ vW.ownBlock = some b) w w' ∧ RefL BR O N r.nx room r.ws vW' w'
theorem RefL.push {BR O N room : Nat} {nx : List Nat} {ws : List Wt} {vW v' : Value} {w w' : World} {p : Wt} (h : RefL BR O N nx room ws vW w) (hg : w.grownBy w' vW.ownBlock) (ho : w'.ownsRow BR 123 3 v' (ws.length + 1) ((ws.map waitC).flatten ++ waitC p)) :
    RefL BR O N nx room (ws ++ [p]) v' (w'.setCell ⟨O, 2, none⟩ v') := by
  have k1 : Sm (fun b => vW.ownBlock = some b) w w' := sm_grown hg (fun b e => e)
  have rO := h.rO.sm k1 (own_ne_row h.own h.rO (by decide))
  have rN := h.rN.sm k1 (own_ne_row h.own h.rN (by decide))
  have k2 : Sm (fun b => b = O) w' (w'.setCell ⟨O, 2, none⟩ v') := Sm.setCell (F := fun b => b = O) (p := ⟨O, 2, none⟩) (Sm.refl _ _) rfl _
  have hge := h.ge
  refine ⟨by simpa using rO.set 2 v', rN.sm k2 (by omega), ?_, h.ge⟩
  have := own_keep ho k2 (fun b hb e => own_ne_row ho rO (by decide) (by rw [hb, e]))
  simpa using this
theorem RPutEnd.stay {BR O N room : Nat} {vW : Value} {nx : List Nat} {ws : List Wt} {w w' : World} (h : RefL BR O N nx room ws vW w) (k : Sm (fun _ => False) w w') (e : Nat) : RPutEnd BR O N room vW w ⟨nx, ws, [], e⟩ (.returned (.tuple #[.slice none 0 0, .int .i64 (e : Int)])) w' :=
  ⟨_, vW, rfl, World.ownsRow_nil _ _ _ _, k.mono (fun _ h => h.elim), h.fresh k⟩

theorem Sm.on {F G : Nat → Prop} {a b c : World} (h : Sm F a b) (k : Sm G b c) (hG : ∀ j, j < a.heap.size → G j → F j) : Sm F a c :=
  ⟨k.os.trans h.os, k.tape.trans h.tape, k.output.trans h.output, Nat.le_trans h.size k.size, fun j hj hf => (k.block j (Nat.lt_of_lt_of_le hj h.size) (fun e => hf (hG j hj e))).trans (h.block j hj hf)⟩
theorem RefL.put {BR O N room : Nat} {nx : List Nat} {ws ws2 : List Wt} {vW v' : Value} {w w' : World} {G : Nat → Prop} (h : RefL BR O N nx room ws vW w) (k : Sm G w w') (hO : ¬ G O) (hN : ¬ G N) (ho : w'.ownsRow BR 123 3 v' ws2.length (ws2.map waitC).flatten) :
    RefL BR O N nx room ws2 v' (w'.setCell ⟨O, 2, none⟩ v') := by
  have rO := h.rO.sm k hO
  have rN := h.rN.sm k hN
  have k2 : Sm (fun b => b = O) w' (w'.setCell ⟨O, 2, none⟩ v') := Sm.setCell (F := fun b => b = O) (p := ⟨O, 2, none⟩) (Sm.refl _ _) rfl _
  have hge := h.ge
  exact ⟨by simpa using rO.set 2 v', rN.sm k2 (by omega), own_keep ho k2 (fun b hb e => own_ne_row ho rO (by decide) (by rw [hb, e])), h.ge⟩
theorem own_row_at {w : World} {g : Nat} {xs : List Value} {T : TypeId} (h : Row w g xs.toArray T) (n size : Nat) (hn : xs.length = n * size) (hm : n ≤ maxLen) : w.ownsRow g T size (.slice (some ⟨g, 0, none⟩) n n) n xs :=
  ⟨hn, .inr ⟨g, n, xs.toArray, rfl, Nat.le_refl _, h, Nat.le_refl _, hm, by simp [hn], by rw [← hn]; simp⟩⟩
theorem RefL.nextAt {BR O N room : Nat} {nx : List Nat} {ws : List Wt} {vW : Value} {w : World} (h : RefL BR O N nx room ws vW w) (A v : Nat) : RefL BR O N (nx.set A v) room ws vW (w.setCell ⟨N, A, none⟩ (.int .u64 (v : Int))) := by
  have hge := h.ge
  have k : Sm (fun b => b = N) w (w.setCell ⟨N, A, none⟩ (.int .u64 (v : Int))) := Sm.setCell (F := fun b => b = N) (p := ⟨N, A, none⟩) (Sm.refl _ _) rfl _
  refine ⟨by simpa using h.rO.sm k (by omega), ?_, own_keep h.own k (fun b hb e => own_ne_row h.own h.rN (by decide) (by rw [hb, e])), h.ge⟩
  have := h.rN.set A (.int .u64 (v : Int))
  rwa [uw_set] at this
/-- What the reference's Put keeps while it lets out what waited. -/
structure RInv (BR O N : Nat) (nx : List Nat) (room A s : Nat) (vW0 : Value) (w wr : World) (v9 : Value) (ws' : List Wt) (out : List Int) (vW : Value) : Prop where
  ord : RefL BR O N nx room ws' vW wr
  nd : (ws'.map (·.1)).Nodup
  own : wr.ownsRow w.heap.size 3 1 v9 out.length (ic out)
  box : Row wr w.heap.size #[.int .i64 (A : Int), .int .u64 (s : Int)] 38
  sm : Sm (fun b => b = O ∨ b = N ∨ vW0.ownBlock = some b) w wr
section
variable {BR O N : Nat} {nx : List Nat} {room A s : Nat} {vW0 : Value} {w wr w' : World} {v9 : Value} {ws' : List Wt} {out : List Int} {vW : Value}
theorem RInv.fresh (h : RInv BR O N nx room A s vW0 w wr v9 ws' out vW) (k : Sm (fun _ => False) wr w') : RInv BR O N nx room A s vW0 w w' v9 ws' out vW :=
  ⟨h.ord.fresh k, h.nd, own_sm h.own k (fun _ _ h => h), h.box.sm k (fun h => h), h.sm.trans (k.mono (fun _ h => h.elim))⟩
theorem RInv.told (h : RInv BR O N nx room A s vW0 w wr v9 ws' out vW) {v9' : Value} {y : Int} (hg : wr.grownBy w' v9.ownBlock) (ho : w'.ownsRow w.heap.size 3 1 v9' (out.length + 1) (ic out ++ [.int .i64 y])) :
    RInv BR O N nx room A s vW0 w w' v9' ws' (out ++ [y]) vW := by
  have k : Sm (fun b => v9.ownBlock = some b) wr w' := sm_grown hg (fun b e => e)
  refine ⟨h.ord.sm k (own_ne_row h.own h.ord.rO (by decide)) (own_ne_row h.own h.ord.rN (by decide)) (fun b hb e => ?_), h.nd, ?_, h.box.sm k (own_ne_row h.own h.box (by decide)), h.sm.on k (fun j hj e => ?_)⟩
  · rcases own_ne h.own h.ord.own (by decide) with h1 | h1
    · rw [h1] at e; cases e
    · exact h1 (by rw [e, hb])
  · have e : ic (out ++ [y]) = ic out ++ [.int .i64 y] := by simp [ic]
    rw [e, List.length_append]
    exact ho
  · have := (h.own.lt _ e).1
    omega
theorem RInv.rest (h : RInv BR O N nx room A s vW0 w wr v9 ws' out vW) {v11 v18 : Value} {n11 : Nat} {x11 : List Value} {ws2 : List Wt} (h11 : wr.ownsRow w.heap.size 123 3 v11 n11 x11) (hg : wr.grownBy w' v11.ownBlock) (hnd : (ws2.map (·.1)).Nodup) (hBR : BR ≤ w.heap.size)
    (ho : w'.ownsRow w.heap.size 123 3 v18 ws2.length (ws2.map waitC).flatten) : RInv BR O N nx room A s vW0 w (w'.setCell ⟨O, 2, none⟩ v18) v9 ws2 out v18 := by
  have k : Sm (fun b => v11.ownBlock = some b) wr w' := sm_grown hg (fun b e => e)
  have k2 : Sm (fun b => b = O) w' (w'.setCell ⟨O, 2, none⟩ v18) := Sm.setCell (F := fun b => b = O) (p := ⟨O, 2, none⟩) (Sm.refl _ _) rfl _
  have rO := h.ord.rO.sm k (own_ne_row h11 h.ord.rO (by decide))
  have hbo : w.heap.size ≠ O := fun e => by
    have h1 := h.box
    rw [e] at h1
    unfold Row at h1
    have h2 := h.ord.rO
    unfold Row at h2
    rw [h1] at h2
    simp at h2
  have o9 := own_apart h.own hg (own_ne h11 h.own (by decide))
  refine ⟨h.ord.put k (own_ne_row h11 h.ord.rO (by decide)) (own_ne_row h11 h.ord.rN (by decide)) (own_base ho hBR), hnd, own_keep o9 k2 (fun b hb e => own_ne_row o9 rO (by decide) (by rw [hb, e])), (h.box.sm k (own_ne_row h11 h.box (by decide))).sm k2 hbo, (h.sm.on k (fun j hj e => ?_)).trans (k2.mono (fun b e => .inl e))⟩
  have := (h11.lt _ e).1
  omega
end
theorem wpList_slice_fromW {ops : Array Oper} {rest : List Oper} {o : Oper} {a : Act} {w : World} {Q : Exit → Act → World → Prop} (hgd : o.guard = none) (x lo : Operand) (ho : o.op = .slice 43 x (some lo) none none)
    (g n c k : Nat) (hx : a.eval x = .slice (some ⟨g, 0, none⟩) n c) (hlo : a.eval lo = .int .i64 k) (hk : k ≤ n) (hn : n ≤ c)
    (h : ∀ ad : Addr, (k < n → ad = ⟨g, k * 3, none⟩) → wpList Try.prog ops Q rest (a.put o.dst (.slice (some ad) (n - k) (c - k))) w) : wpList Try.prog ops Q (o :: rest) a w :=
  wpList_plain hgd fun _ hK => by
    have he : Try.prog.elem 43 = 123 := by kernel_rfl
    have hu : Try.prog.underlying 43 = some (.slice (Try.prog.elem 43)) := by
      rw [he]
      exact Try.underlying43
    have hs : (sizeOf 123).run Try.prog w = .ok 3 w := by
      obtain ⟨i0, hi, hz0, hz1, hz2⟩ := info_parts info_wait
      rw [run_sizeOf w hi, show Try.prog.cellsOf 123 = 3 by kernel_rfl]
    have hr : (Instr.sliceAt 43 (.slice (some ⟨g, 0, none⟩) n c) (some (.int .i64 k)) none none).run Try.prog w = .ok (.slice (if c = k then some ⟨g, 0, none⟩ else some ((⟨g, 0, none⟩ : Addr).add (k * 3))) (n - k) (c - k)) w := by
      rw [run_sliceAt_slice _ _ _ _ _ _ hu, run_slice_l _ _ _ _ _ hu _ _ (by omega) (by omega), he, hs]
      simp [Result.andThen, sliced]
    have e : ∃ ad : Addr, (if c = k then some ⟨g, 0, none⟩ else some ((⟨g, 0, none⟩ : Addr).add (k * 3))) = some ad ∧ (k < n → ad = ⟨g, k * 3, none⟩) := by
      split
      · exact ⟨_, rfl, fun h => by omega⟩
      · refine ⟨_, rfl, fun h => ?_⟩
        rw [add_plain', Nat.zero_add]
    obtain ⟨ad, e1, e2⟩ := e
    rw [e1] at hr
    unfold Oper.wp execOp
    simp only [ho, hx, hlo, Option.map_some, Option.map_none, Sem.run_bind, Sem.run_pure, Result.andThen_ok, hr]
    exact hK _ _ (h ad e2)

set_option maxRecDepth 100000 in
set_option maxHeartbeats 6400000 in
theorem rput_c (BR O N : Nat) (nx : List Nat) (room : Nat) (ws : List Wt) (vW : Value) (w : World) (h : RefL BR O N nx room ws vW w) (hnd : (ws.map (·.1)).Nodup) (hnx : ∀ x ∈ nx, x + ws.length < 1000000) (hws : ws.length < 1000000) (hn16 : nx.length ≤ 16)
    (a : Int) (ha1 : -9223372036854775808 ≤ a) (ha2 : a < 9223372036854775808) (s : Nat) (hs : s < 18446744073709551616) (x : Int) :
    Calls Try.prog 14 #[.pointer (some ⟨O, 0, none⟩), .agg #[.int .i64 a, .int .u64 (s : Int)], .int .i64 x] w (RPutEnd BR O N room vW w (putL nx room ws a s x)) := by
  obtain ⟨aW, cW, rfl⟩ := own_form0 h.own
  obtain ⟨iw, hiw, hz0, hz1, hz2⟩ := info_parts info_wait
  have HIW := Lib.hid hiw
  have HZW := Lib.hid (show iw.zero = some (.agg #[.int .i64 0, .int .u64 0, .int .i64 0]) ∧ iw.size = 3 ∧ iw.bytes = 24 from ⟨hz0, hz1, hz2⟩)
  clear hiw hz0 hz1 hz2
  obtain ⟨i0, hi0, hz0, hz1, hz2⟩ := info_parts info_int
  have HI0 := Lib.hid hi0
  have HZ0 := Lib.hid (show i0.zero = some (.int .i64 0) ∧ i0.size = 1 ∧ i0.bytes = 8 from ⟨hz0, hz1, hz2⟩)
  clear hi0 hz0 hz1 hz2
  obtain ⟨R, hR⟩ : ∃ R, R = putL nx room ws a s x := ⟨_, rfl⟩
  rw [← hR]
  have HR := Lib.hid hR
  have hb := Row.new w #[.int .i64 a, .int .u64 (s : Int)] 38
  have hsm : Sm (fun _ => False) w (w.alloc (.cells #[.int .i64 a, .int .u64 (s : Int)] 38 (0, 0))) := (Sm.refl _ _).alloc _
  obtain ⟨w1, hw1⟩ : ∃ w1, w1 = w.alloc (.cells #[.int .i64 a, .int .u64 (s : Int)] 38 (0, 0)) := ⟨_, rfl⟩
  obtain ⟨X, hX⟩ : ∃ X, X = w.heap.size := ⟨_, rfl⟩
  rw [← hw1, ← hX] at hb
  rw [← hw1] at hsm
  have h1 := h.fresh hsm
  have c0 := h1.rO.cell 0
  have b0 := hb.cell 0
  simp only [List.getElem?_toArray, List.getElem?_cons_zero, List.getElem?_cons_succ] at c0 b0
  have H0 := Lib.hid h
  have H1 := Lib.hid h1
  have HB := Lib.hid hb
  have HSM := Lib.hid hsm
  have HW1 := Lib.hid hw1
  have HX := Lib.hid hX
  have HND := Lib.hid hnd
  have HNX := Lib.hid hnx
  obtain ⟨n, hn⟩ : ∃ n, n = nx.length := ⟨_, rfl⟩
  rw [← hn] at c0 hn16
  have HN := Lib.hid hn
  clear h h1 hb hsm hw1 hX hnd hnx hR hn
  go_enter Try.func14, Try.ntmps14
  go_wp2
  rw [← HW1.out, ← HX.out]
  by_cases hA0 : a < 0
  · have hput : R = ⟨nx, ws, [], 5⟩ := by rw [HR.out]; unfold putL; rw [if_pos (Or.inl hA0)]
    have HP := Lib.hid hput
    clear hput
    go_wp2_with fail
    try simp only [Act.put]
    refine wp_region_quiet_lit (by kernel_rfl) (by kernel_rfl) ?_
    repeat (first
      | go_big_quiet_skip
      | (go_big_quiet_want; go_big_quiet_op; go_big_quiet_on))
    refine wpQuiet_nil ?_
    intro _ hw'
    obtain ⟨nq, hw''⟩ := hw'
    subst hw''
    go_wp2_with fail
    go_ret2
    rw [HP.out]
    exact RPutEnd.stay H0.out (HSM.out.drewN nq) 5
  have q1 : decide (a < 0) = false := by simpa using hA0
  by_cases hA1 : (n : Int) ≤ a
  · have hput : R = ⟨nx, ws, [], 5⟩ := by rw [HR.out]; unfold putL; rw [if_pos (Or.inr (by rw [← HN.out]; exact hA1))]
    have HP := Lib.hid hput
    clear hput
    go_wp2_with fail
    try simp only [Act.put]
    refine wp_region_quiet_lit (by kernel_rfl) (by kernel_rfl) ?_
    repeat (first
      | go_big_quiet_skip
      | (go_big_quiet_want; go_big_quiet_op; go_big_quiet_on))
    refine wpQuiet_nil ?_
    intro _ hw'
    obtain ⟨nq, hw''⟩ := hw'
    subst hw''
    go_wp2_with fail
    go_ret2
    rw [HP.out]
    exact RPutEnd.stay H0.out (HSM.out.drewN nq) 5
  obtain ⟨A, rfl⟩ : ∃ A : Nat, a = (A : Int) := ⟨a.toNat, by omega⟩
  have hAn : A < n := by omega
  have hAl : A < nx.length := by rw [← HN.out]; exact hAn
  obtain ⟨c, hc⟩ : ∃ c, c = nx.getD A 0 := ⟨_, rfl⟩
  have hcm : c ∈ nx := by rw [hc, List.getD_eq_getElem?_getD, List.getElem?_eq_getElem hAl]; exact List.getElem_mem hAl
  have hcb : c + ws.length < 1000000 := HNX.out c hcm
  have n0 : w1.cell? ⟨N, A, none⟩ = some (.int .u64 (c : Int)) := (H1.out.rN.cell A).trans (by rw [hc]; simp [uw, hAl, List.getD])
  have hif : ¬ ((A : Int) < 0 ∨ (nx.length : Int) ≤ (A : Int)) := by rw [← HN.out]; omega
  have hRR : R = if (lookL ws (A : Int) s).isSome = true ∨ s < c then ⟨nx, ws, [], 240⟩ else if c < s then (if room ≤ ws.length then ⟨nx, ws, [], 4⟩ else ⟨nx, ws ++ [(((A : Int), s), x)], [], 0⟩) else ⟨nx.set A (drain ws.length (A : Int) (c + 1) ws [x]).1, (drain ws.length (A : Int) (c + 1) ws [x]).2.1, (drain ws.length (A : Int) (c + 1) ws [x]).2.2, 0⟩ := by
    rw [HR.out]
    unfold putL
    rw [if_neg hif]
    simp only [Int.toNat_natCast, ← hc]
  have HRR := Lib.hid hRR
  have HC := Lib.hid hc
  have q2 : decide (n ≤ A) = false := by simp; omega
  have q3 : decide ((n : Int) ≤ (A : Int)) = false := by simp; omega
  have j1 : (A : Int) < (n : Int) := by omega
  have b1 := HB.out.cell 1
  simp only [List.getElem?_toArray, List.getElem?_cons_zero, List.getElem?_cons_succ] at b1
  have HAL := Lib.hid hAl
  clear hRR hif hcm hc hAl hA0 hA1
  go_wp2_with fail
  try simp only [Act.put]
  refine wp_region_quiet_lit (by kernel_rfl) (by kernel_rfl) ?_
  repeat (first
    | go_big_quiet_skip
    | (go_big_quiet_want; go_big_quiet_op; go_big_quiet_on))
  refine wpQuiet_nil ?_
  intro _ hw'
  obtain ⟨nq, hw''⟩ := hw'
  subst hw''
  obtain ⟨n1, rfl⟩ : ∃ n1 : Nat, n1 = nq := ⟨_, rfl⟩
  go_wp2_with fail
  try simp only [Act.put]
  refine wp_region_quiet_lit (by kernel_rfl) (by kernel_rfl) ?_
  repeat (first
    | go_big_quiet_skip
    | (go_big_quiet_want; go_big_quiet_op; go_big_quiet_on))
  refine wpQuiet_nil ?_
  intro _ hw'
  obtain ⟨nq, hw''⟩ := hw'
  subst hw''
  obtain ⟨W, hW⟩ : ∃ W, W = (w1.drewN n1).drewN nq := ⟨_, rfl⟩
  rw [← hW]
  have hsW : Sm (fun _ => False) w1 W := by rw [hW]; exact ((Sm.refl _ _).drewN _).drewN _
  have H2 := Lib.hid (H1.out.fresh hsW)
  have HB2 := Lib.hid (HB.out.sm hsW (fun h => h))
  have HSW := Lib.hid (HSM.out.trans hsW)
  clear hW hsW b0 b1 c0 n0 HSM HB H1 HW1
  have b0 := HB2.out.cell 0
  have b1 := HB2.out.cell 1
  simp only [List.getElem?_toArray, List.getElem?_cons_zero, List.getElem?_cons_succ] at b0 b1
  have hwa : (Value.agg #[.int .i64 (A : Int), .int .u64 (s : Int)]) = (Value.agg #[.int .i64 (A : Int), .int .u64 (s : Int)]) := rfl
  by_cases hB : s < c
  · have j2 : (s : Int) < (c : Int) := by omega
    have hput : R = ⟨nx, ws, [], 240⟩ := by rw [HRR.out, if_pos (Or.inr hB)]
    have HP := Lib.hid hput
    clear hput hwa
    go_wp2_with fail
    go_ret2
    rw [HP.out]
    exact RPutEnd.stay H0.out HSW.out 240
  have j2 : ¬ (s : Int) < (c : Int) := by omega
  clear hwa
  go_wp2_with fail
  refine (find_c BR O N nx room ws (.slice aW ws.length cW) W H2.out hws A s).mono ?_
  rintro e w3 ⟨rfl, hs3⟩
  have H3 := Lib.hid (H2.out.fresh hs3)
  have HB3 := Lib.hid (HB2.out.sm hs3 (fun h => h))
  have HS3 := Lib.hid (HSW.out.trans hs3)
  clear hs3 H2 HB2 HSW b0 b1
  have b0 := HB3.out.cell 0
  have b1 := HB3.out.cell 1
  have c1 := H3.out.rO.cell 1
  have c2 := H3.out.rO.cell 2
  simp only [List.getElem?_toArray, List.getElem?_cons_zero, List.getElem?_cons_succ] at b0 b1 c1 c2
  cases hl : lookL ws (A : Int) s with
  | some y =>
    obtain ⟨i, hi, hf, -⟩ := find_look.2 y hl
    have hput : R = ⟨nx, ws, [], 240⟩ := by rw [HRR.out, if_pos (Or.inl (by rw [hl]; rfl))]
    have HP := Lib.hid hput
    rw [hf]
    have j3 : (0 : Int) ≤ (i : Int) := Int.natCast_nonneg _
    clear hput hf hl
    go_wp2_with fail
    go_ret2
    rw [HP.out]
    exact RPutEnd.stay H0.out HS3.out 240
  | none =>
    have hf := find_look.1 hl
    rw [hf]
    have hnn : ¬ ((lookL ws (A : Int) s).isSome = true ∨ s < c) := by rw [hl]; simpa using hB
    clear hf
    by_cases hC : c < s
    · have j3 : (c : Int) < (s : Int) := by omega
      by_cases hD : room ≤ ws.length
      · have hput : R = ⟨nx, ws, [], 4⟩ := by rw [HRR.out, if_neg hnn, if_pos hC, if_pos hD]
        have HP := Lib.hid hput
        have j4 : (room : Int) ≤ (ws.length : Int) := by omega
        clear hput hnn hl
        go_wp2_with fail
        try simp only [Act.put]
        refine wp_region_quiet_lit (by kernel_rfl) (by kernel_rfl) ?_
        repeat (first
          | go_big_quiet_skip
          | (go_big_quiet_want; go_big_quiet_op; go_big_quiet_on))
        refine wpQuiet_nil ?_
        intro _ hw'
        obtain ⟨nq, hw''⟩ := hw'
        subst hw''
        go_wp2_with fail
        go_ret2
        rw [HP.out]
        exact RPutEnd.stay H0.out (HS3.out.drewN nq) 4
      · have hput : R = ⟨nx, ws ++ [(((A : Int), s), x)], [], 0⟩ := by rw [HRR.out, if_neg hnn, if_pos hC, if_neg hD]
        have HP := Lib.hid hput
        have j4 : ¬ (room : Int) ≤ (ws.length : Int) := by omega
        clear hput hnn hl
        go_wp2_with fail
        try simp only [Act.put]
        refine wp_region_quiet_lit (by kernel_rfl) (by kernel_rfl) ?_
        repeat (first
          | go_big_quiet_skip
          | (go_big_quiet_want; go_big_quiet_op; go_big_quiet_on))
        refine wpQuiet_nil ?_
        intro _ hw'
        obtain ⟨nq, hw''⟩ := hw'
        subst hw''
        go_wp2_with fail
        obtain ⟨n2, rfl⟩ : ∃ n2 : Nat, n2 = nq := ⟨_, rfl⟩
        obtain ⟨w4, hw4⟩ : ∃ w4, w4 = w3.drewN n2 := ⟨_, rfl⟩
        rw [← hw4]
        have hs4 : Sm (fun _ => False) w3 w4 := by rw [hw4]; exact (Sm.refl _ _).drewN _
        have H4 := Lib.hid (H3.out.fresh hs4)
        have HB4 := Lib.hid (HB3.out.sm hs4 (fun h => h))
        have HS4 := Lib.hid (HS3.out.trans hs4)
        clear hs4 hw4 H3 HB3 HS3 b0 b1 c1 c2
        have b0 := HB4.out.cell 0
        have b1 := HB4.out.cell 1
        have c2 := H4.out.rO.cell 2
        have f2 := H4.out.rO.free 2
        simp only [List.getElem?_toArray, List.getElem?_cons_zero, List.getElem?_cons_succ] at b0 b1 c2
        have ne1 : (Value.slice aW ws.length cW).ownBlock ≠ some O := own_ne_row H4.out.own H4.out.rO (by decide)
        have ne2 : (Value.slice aW ws.length cW).ownBlock ≠ some X := own_ne_row H4.out.own HB4.out (by decide)
        have l1 : O < w4.heap.size := H4.out.rO.lt
        have l2 : X < w4.heap.size := HB4.out.lt
        have hge := H4.out.ge
        have hBR : BR ≤ w4.heap.size := by omega
        have HBD1 := Lib.hid (show ws.length + 1 ≤ maxLen by unfold maxLen; omega)
        have HBD3 := Lib.hid (show (ws.length + 1) * 24 ≤ 140737488355328 by omega)
        have c2a : (w4.alloc (.cells #[.int .i64 (A : Int), .int .u64 (s : Int), .int .i64 x] 123)).cell? ⟨O, 2, none⟩ = some (.slice aW ws.length cW) := (H4.out.rO.alloc _).cell 2
        go_region_law (refine step_append_own rfl (.tmp 61) (.tmp 65) 43 rfl BR 123 iw (.agg #[.int .i64 0, .int .u64 0, .int .i64 0]) 3 24 Try.underlying43 HIW.out HZW.out.1 HZW.out.2.1 HZW.out.2.2 rfl (by decide) (.slice aW ws.length cW) ws.length (ws.map waitC).flatten (by simp [Act.eval, Act.put]) ((H4.out.own.drew).alloc _) ⟨w4.heap.size, 0, none⟩ 1 1 [.int .i64 (A : Int), .int .u64 (s : Int), .int .i64 x] (by simp [Act.eval, Act.put]) rfl (new_cells w4.drew [.int .i64 (A : Int), .int .u64 (s : Int), .int .i64 x] 123) (by simp [Value.oneCell']) HBD1.out HBD3.out (by simp; omega) ?_; intro v5 w5 hown5 hg5; have hf5 : w5.frozen? ⟨O, 2, none⟩ = false := (hg5.frozen_far ⟨O, 2, none⟩ (by simp; omega) (Ne.symm ne1)).trans (((H4.out.rO.drew).alloc _).free 2); have hc5 : w5.cell? ⟨O, 2, none⟩ = some (.slice aW ws.length cW) := (hg5.cell_far ⟨O, 2, none⟩ (by simp; omega) (Ne.symm ne1)).trans (((H4.out.rO.drew).alloc _).cell 2); obtain ⟨a5, c5, hv5⟩ := own_form0 hown5; subst hv5)
        all_goals
          have hs5 : Sm (fun _ => False) w4 ((w4.drew).alloc (.cells #[.int .i64 (A : Int), .int .u64 (s : Int), .int .i64 x] 123 (0, 0))) := ((Sm.refl _ _).drew).alloc _
          have hr5 := RefL.push (p := (((A : Int), s), x)) (H4.out.fresh hs5) hg5 hown5
          have hm5 : Sm (fun b => b = O ∨ b = N ∨ (Value.slice aW ws.length cW).ownBlock = some b) w (w5.setCell ⟨O, 2, none⟩ (.slice a5 (ws.length + 1) c5)) :=
            ((HS4.out.mono (fun _ h => h.elim)).trans ((hs5.mono (fun _ h => h.elim)).trans (sm_grown hg5 (fun b e => .inr (.inr e))))).trans (Sm.setCell (F := fun b => b = O ∨ b = N ∨ (Value.slice aW ws.length cW).ownBlock = some b) (p := ⟨O, 2, none⟩) (Sm.refl _ _) (.inl rfl) _)
          have HR5 := Lib.hid hr5
          have HM5 := Lib.hid hm5
          clear hs5 hr5 hm5 hown5 hg5 hf5 hc5
          go_wp2_with fail
          go_ret2
          rw [HP.out]
          exact ⟨_, _, rfl, World.ownsRow_nil _ _ _ _, HM5.out, HR5.out⟩
    · obtain rfl : s = c := by omega
      obtain ⟨D, hD⟩ : ∃ D, D = drain ws.length (A : Int) (s + 1) ws [x] := ⟨_, rfl⟩
      have hput : R = ⟨nx.set A D.1, D.2.1, D.2.2, 0⟩ := by rw [HRR.out, if_neg hnn, if_neg hC, ← hD]
      have HP := Lib.hid hput
      have HD := Lib.hid hD
      have hwr : IntKind.u64.wrap ((s : Int) + 1) = ((s + 1 : Nat) : Int) := by rw [IntKind.wrap_u64]; omega
      have HWR := Lib.hid hwr
      have hBR : BR ≤ w.heap.size := by
        have h1 := H0.out.ge
        have h2 := H0.out.rO.lt
        omega
      obtain ⟨U, hU⟩ : ∃ U, U = w3.alloc (.cells #[.int .i64 x] 3 (0, 0)) := ⟨_, rfl⟩
      have hsU : Sm (fun _ => False) w3 U := by rw [hU]; exact (Sm.refl _ _).alloc _
      have hinv : RInv BR O N nx room A s (.slice aW ws.length cW) w U (.slice (some ⟨w3.heap.size, 0, none⟩) 1 1) ws [x] (.slice aW ws.length cW) := by
        refine ⟨H3.out.fresh hsU, HND.out, ?_, ?_, (HS3.out.trans hsU).mono (fun _ h => h.elim)⟩
        · rw [hU]
          exact own_base (own_row_at (xs := [.int .i64 x]) (Row.new w3 _ _) 1 1 rfl (by decide)) HS3.out.size
        · rw [← HX.out]
          exact HB3.out.sm hsU (fun h => h)
      have HINV := Lib.hid hinv
      have HU := Lib.hid hU
      have HBR := Lib.hid hBR
      clear hput hnn hl hD hwr hU hsU hinv H3 HB3 HS3 c1 c2 hB hC hBR
      go_wp2_with fail
      rw [← HU.out]
      try rw [HWR.out]
      go_loopw [8, 9] (fun s8 s9 wr => ∃ (cur : Nat) (ws' : List Wt) (out : List Int) (vX : Value), s8 = .int .u64 (cur : Int) ∧ Hid (RInv BR O N nx room A s (.slice aW ws.length cW) w wr s9 ws' out vX) ∧ Hid (drain ws'.length (A : Int) cur ws' out = D) ∧ cur + ws'.length < 1000002 ∧ out.length + ws'.length = 1 + ws.length ∧ lenOf s9 = out.length ∧ 0 < out.length) (fun s8 s9 wr => 2 + ws.length - lenOf s9)
      case atStart => exact ⟨s + 1, ws, [x], _, rfl, HINV, Lib.hid HD.out.symm, by omega, by simp, rfl, by simp⟩
      case round =>
        obtain ⟨cur, ws', out, vX, rfl, hI, hrun, hcw, how, hlo, hout⟩ := hrel
        obtain ⟨a9, c9, hv9⟩ := own_form0 hI.out.own
        subst hv9
        obtain ⟨aX, cX, rfl⟩ := own_form0 hI.out.ord.own
        have b0 := hI.out.box.cell 0
        simp only [List.getElem?_toArray, List.getElem?_cons_zero, List.getElem?_cons_succ] at b0
        rw [← HX.out] at b0
        clear HINV HU b1
        go_wp2_with fail
        refine (find_c BR O N nx room ws' (.slice aX ws'.length cX) wr hI.out.ord (by omega) A cur).mono ?_
        rintro e w5 ⟨rfl, hs5⟩
        have HI5 := Lib.hid (hI.out.fresh hs5)
        clear hI hs5 b0
        cases hl : lookL ws' (A : Int) cur with
        | none =>
          rw [find_look.1 hl]
          have hD2 : D = (cur, ws', out) := by rw [← hrun.out, drain_none hl]
          have b0 := HI5.out.box.cell 0
          have c0 := HI5.out.ord.rO.cell 0
          have hn0 := HI5.out.ord.rN.cell A
          have f0 := HI5.out.ord.rN.free A
          simp only [List.getElem?_toArray, List.getElem?_cons_zero, List.getElem?_cons_succ] at b0 c0
          rw [← HX.out] at b0
          rw [← HN.out] at c0
          have hn1 : w5.cell? ⟨N, A, none⟩ = some (.int .u64 (s : Int)) := hn0.trans (by rw [HC.out]; simp [uw, HAL.out, List.getD])
          have HD2 := Lib.hid hD2
          clear hl hrun hD2 hn0
          go_wp2_with fail
          try simp only [Act.put]
          go_still_tail 8, (by kernel_rfl)
          change wpList _ _ _ _ _ w5.drew
          have HI6 := Lib.hid (HI5.out.fresh (Sm.drew (Sm.refl (fun _ => False) w5)))
          have hn2 : w5.drew.cell? ⟨N, A, none⟩ = some (.int .u64 (s : Int)) := hn1
          have f2 : w5.drew.frozen? ⟨N, A, none⟩ = false := f0
          clear hn1 f0 b0 c0 HI5
          generalize w5.drew = w6 at HI6 hn2 f2 ⊢
          go_wp2
          go_ret2
          rw [HP.out, HD2.out]
          have hN := HI6.out.ord.rN
          exact ⟨_, _, rfl, own_keep HI6.out.own (Sm.setCell (F := fun b => b = N) (p := ⟨N, A, none⟩) (Sm.refl _ _) rfl _) (fun b hb e => own_ne_row HI6.out.own hN (by decide) (hb.trans (congrArg some e))), HI6.out.sm.trans (Sm.setCell (F := fun b => b = O ∨ b = N ∨ (Value.slice aW ws.length cW).ownBlock = some b) (p := ⟨N, A, none⟩) (Sm.refl _ _) (.inr (.inl rfl)) _), HI6.out.ord.nextAt A cur⟩
        | some y =>
          obtain ⟨i, hi, hf, hwi⟩ := find_look.2 y hl
          rw [hf]
          have hdel := delL_at HI5.out.nd hi hwi
          have hdlen := delL_len HI5.out.nd hl
          have hrun2 : drain (delL ws' (A : Int) cur).length (A : Int) (cur + 1) (delL ws' (A : Int) cur) (out ++ [y]) = D := by
            have := hrun.out
            rwa [← hdlen, drain_some hl] at this
          have HND2 := Lib.hid (delL_nodup HI5.out.nd (A : Int) cur)
          obtain ⟨ws2, hws2⟩ : ∃ ws2, ws2 = delL ws' (A : Int) cur := ⟨_, rfl⟩
          rw [← hws2] at hdel hdlen hrun2 HND2
          obtain ⟨g, rfl, -, -, k2⟩ := wait_at HI5.out.ord hi
          rw [hwi] at k2
          simp only at k2
          have c2 := HI5.out.ord.rO.cell 2
          simp only [List.getElem?_toArray, List.getElem?_cons_zero, List.getElem?_cons_succ] at c2
          obtain ⟨n', hn'⟩ : ∃ n', n' = ws'.length := ⟨_, rfl⟩
          have hcap : n' ≤ cX := by rw [hn']; exact own_cap HI5.out.ord.own
          rw [← hn'] at hi hdlen hcw how c2
          have HN' := Lib.hid hn'
          have HDEL := Lib.hid hdel
          have HDLEN := Lib.hid hdlen
          have HRUN2 := Lib.hid hrun2
          have HSZ := Lib.hid HI5.out.sm.size
          have j1 : (i : Int) < (n' : Int) := by omega
          have j2 : decide ((i : Int) < 0) = false := by simp
          have j3 : (i : Int) ≤ (cX : Int) := by omega
          obtain ⟨i1, hi1⟩ : ∃ i1, i1 = i + 1 := ⟨_, rfl⟩
          have HP1 := Lib.hid (show wrap64 ((i : Int) + 1) = (i1 : Int) by unfold wrap64; omega)
          have HU1 := Lib.hid (show IntKind.u64.wrap ((cur : Int) + 1) = ((cur + 1 : Nat) : Int) by rw [IntKind.wrap_u64]; omega)
          have HI1 := Lib.hid hi1
          have HBO := Lib.hid (show out.length + 1 ≤ maxLen ∧ (out.length + 1) * 8 ≤ 140737488355328 by unfold maxLen; omega)
          have HBW := Lib.hid (show n' ≤ maxLen ∧ n' * 24 ≤ 140737488355328 ∧ i1 ≤ n' ∧ n' ≤ cX by unfold maxLen; omega)
          clear hf hdel hdlen hrun2 hws2 hn' hcap hi1 hl hrun hwi
          go_wp2_with (at_builtin; refine wpList_append_own _ rfl (.tmp 81) (.tmp 90) 33 rfl w.heap.size 3 i0 (.int .i64 0) 1 8 Try.underlying33 HI0.out HZ0.out.1 HZ0.out.2.1 HZ0.out.2.2 rfl (by decide) _ out.length (ic out) rfl (HI5.out.own.alloc _) ⟨w5.heap.size, 0, none⟩ 1 1 [.int .i64 y] rfl rfl (new_cells w5 [.int .i64 y] 3) (by simp [Value.oneCell']) HBO.out.1 HBO.out.2 (by have := HSZ.out; simp; omega) ?_)
          intro v6 W6 hown6 hgr6 _
          have hi6 := (HI5.out.fresh ((Sm.refl _ w5).alloc (.cells #[.int .i64 y] 3 (0, 0)))).told hgr6 hown6
          obtain ⟨a6, c6, hv6⟩ := own_form0 hown6
          subst hv6
          have HI6 := Lib.hid hi6
          clear hi6 hown6 hgr6 HI5 k2 c2
          have c2 := HI6.out.ord.rO.cell 2
          simp only [List.getElem?_toArray, List.getElem?_cons_zero, List.getElem?_cons_succ] at c2
          rw [← HN'.out] at c2
          have hlen1 : ((ws'.take i).map waitC).flatten.length = i * 3 := by
            rw [flatten_len 3 _ (waitC_3 _), List.length_map, List.length_take, ← HN'.out]
            have := HBW.out
            have := HI1.out
            rw [Nat.min_eq_left (by omega)]
          have hlen2 : ((ws'.drop i1).map waitC).flatten.length = (n' - i1) * 3 := by
            rw [flatten_len 3 _ (waitC_3 _), List.length_map, List.length_drop, ← HN'.out]
          have HRD := Lib.hid (show ∀ (Z : World) (vX : Value) (ws0 : List Wt) (W' : World), ws0 = ws' → RefL BR O N nx room ws0 (.slice (some ⟨g, 0, none⟩) ws0.length cX) W' → ∀ j u, (ws'.map waitC).flatten[j]? = some u → W'.cell? ⟨g, j, none⟩ = some u from fun _ _ ws0 W' e h j u hu => by
            subst e
            obtain ⟨a', c', e2, -, h3, hr⟩ := own_reads (by decide) h.own
            simp only [Value.slice.injEq] at e2
            have h0 : 0 < ws0.length := by
              have := (List.getElem?_eq_some_iff.1 hu).1
              omega
            obtain ⟨g', hg', -, -, hc⟩ := hr h0
            rw [← e2.1] at hg'
            simp only [Option.some.injEq, Addr.mk.injEq] at hg'
            rw [hg'.1]
            exact hc j u hu)
          have HONE := Lib.hid (show ∀ l : List Wt, ∀ u ∈ (l.map waitC).flatten, u.oneCell' = true from fun l u hu => by
            obtain ⟨r, hr, hu⟩ := List.mem_flatten.1 hu
            obtain ⟨p, -, rfl⟩ := List.mem_map.1 hr
            simp only [waitC, List.mem_cons, List.not_mem_nil, or_false] at hu
            rcases hu with rfl | rfl | rfl <;> rfl)
          have HL1 := Lib.hid hlen1
          have HL2 := Lib.hid hlen2
          have HC1 := Lib.hid (show ∀ (j : Nat) (u : Value), ((ws'.take i).map waitC).flatten[j]? = some u → W6.cell? ((⟨g, 0, none⟩ : Addr).add j) = some u from fun j u hu => by
            rw [add_plain', Nat.zero_add]
            refine HRD.out W6 (.int .i64 0) ws' W6 rfl HI6.out.ord j u ?_
            have e : (ws'.map waitC).flatten = ((ws'.take i).map waitC).flatten ++ ((ws'.drop i).map waitC).flatten := by rw [← List.flatten_append, ← List.map_append, List.take_append_drop]
            rw [e, List.getElem?_append_left (List.getElem?_eq_some_iff.1 hu).1]
            exact hu)
          have HSZ6 := Lib.hid HI6.out.sm.size
          clear hlen1 hlen2
          go_wp2_with (at_builtin; refine wpList_append_own _ rfl (.tmp 92) (.tmp 98) 43 rfl w.heap.size 123 iw (.agg #[.int .i64 0, .int .u64 0, .int .i64 0]) 3 24 Try.underlying43 HIW.out HZW.out.1 HZW.out.2.1 HZW.out.2.2 rfl (by decide) _ 0 [] rfl (World.ownsRow_nil _ _ _ _) ⟨g, 0, none⟩ i cX ((ws'.take i).map waitC).flatten rfl HL1.out HC1.out (HONE.out _) (by have := HBW.out; have := HI1.out; omega) (by have := HBW.out; have := HI1.out; omega) HSZ6.out ?_)
          intro v7 W7 hown7 hgr7 _
          have hown7 : W7.ownsRow w.heap.size 123 3 v7 i ((ws'.take i).map waitC).flatten := by
            simpa using hown7
          have hi7 := HI6.out.fresh (w' := W7) (sm_grown hgr7 (fun k hk => by cases hk))
          obtain ⟨a7, c7, hv7⟩ := own_form0 hown7
          subst hv7
          have HI7 := Lib.hid hi7
          have HOWN7 := Lib.hid hown7
          clear hi7 hown7 hgr7 HC1 c2 HI6
          have c2 := HI7.out.ord.rO.cell 2
          simp only [List.getElem?_toArray, List.getElem?_cons_zero, List.getElem?_cons_succ] at c2
          rw [← HN'.out] at c2
          have HSZ7 := Lib.hid HI7.out.sm.size
          have HC2 := Lib.hid (show ∀ ad : Addr, (i1 < n' → ad = ⟨g, i1 * 3, none⟩) → ∀ (j : Nat) (u : Value), ((ws'.drop i1).map waitC).flatten[j]? = some u → W7.cell? (ad.add j) = some u from fun ad had j u hu => by
            have h1 := (List.getElem?_eq_some_iff.1 hu).1
            rw [HL2.out] at h1
            rw [had (by omega), add_plain']
            refine HRD.out W7 (.int .i64 0) ws' W7 rfl HI7.out.ord _ u ?_
            have e : (ws'.map waitC).flatten = ((ws'.take i1).map waitC).flatten ++ ((ws'.drop i1).map waitC).flatten := by rw [← List.flatten_append, ← List.map_append, List.take_append_drop]
            have e3 : ((ws'.take i1).map waitC).flatten.length = i1 * 3 := by
              rw [flatten_len 3 _ (waitC_3 _), List.length_map, List.length_take, ← HN'.out]
              have := HBW.out
              rw [Nat.min_eq_left (by omega)]
            rw [e, List.getElem?_append_right (by omega), e3, Nat.add_sub_cancel_left]
            exact hu)
          go_wp2_with (refine wpList_slice_fromW rfl (.tmp 105) (.tmp 107) rfl g n' cX i1 (by simp [Act.eval, Act.put]) (by simp [Act.eval, Act.put]; have := HI1.out; omega) HBW.out.2.2.1 HBW.out.2.2.2 ?_)
          intro ad had
          have HAD := Lib.hid had
          clear had
          go_wp2_with (at_builtin; refine wpList_append_own _ rfl (.tmp 101) (.tmp 108) 43 rfl w.heap.size 123 iw (.agg #[.int .i64 0, .int .u64 0, .int .i64 0]) 3 24 Try.underlying43 HIW.out HZW.out.1 HZW.out.2.1 HZW.out.2.2 rfl (by decide) _ i ((ws'.take i).map waitC).flatten rfl HOWN7.out ad (n' - i1) (cX - i1) ((ws'.drop i1).map waitC).flatten rfl HL2.out (HC2.out ad HAD.out) (HONE.out _) (by have := HBW.out; have := HI1.out; omega) (by have := HBW.out; have := HI1.out; omega) HSZ7.out ?_)
          intro v8 W8 hown8 hgr8 _
          have e1 : i + (n' - i1) = ws2.length := by have := HDLEN.out; have := HBW.out; have := HI1.out; omega
          have e2 : ((ws'.take i).map waitC).flatten ++ ((ws'.drop i1).map waitC).flatten = (ws2.map waitC).flatten := by rw [HDEL.out, HI1.out, List.map_append, List.flatten_append]
          have hown8 : W8.ownsRow w.heap.size 123 3 v8 ws2.length (ws2.map waitC).flatten := by rw [← e1, ← e2]; simpa using hown8
          obtain ⟨a8, c8, hv8⟩ := own_form0 hown8
          subst hv8
          have HEND := Lib.hid (HI7.out.rest HOWN7.out hgr8 HND2.out HBR.out hown8)
          have k8 := sm_grown (F := fun b => (Value.slice a7 i c7).ownBlock = some b) hgr8 (fun b e => e)
          have r8 := HI7.out.ord.rO.sm k8 (own_ne_row HOWN7.out HI7.out.ord.rO (by decide))
          have c8 := r8.cell 2
          have f8 := r8.free 2
          clear e1 e2 k8 r8 hown8 hgr8 HC2 HOWN7 HI7 c2
          have hlo2 : out.length + 1 + ws2.length = 1 + ws.length := by have := HDLEN.out; omega
          have hcw2 : cur + 1 + ws2.length < 1000002 := by have := HDLEN.out; omega
          have HLO2 := Lib.hid hlo2
          have HCW2 := Lib.hid hcw2
          clear hlo2 hcw2
          go_wp2_with fail
          go_roundw
          case rel => exact ⟨cur + 1, ws2, out ++ [y], _, by first | rfl | go_num | (congr 1), HEND, HRUN2, HCW2.out, by have := HLO2.out; simp; omega, by simp [lenOf], by simp⟩
          case measure => simp only [lenOf]; have := HLO2.out; omega
end Go.Proofs.Ythjdnhlckjchgaa
