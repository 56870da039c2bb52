/- The reference machine: Tell. -/
import Derived.Test.YtokoniaoknnggaaMacE
import Derived.Test.YtokoniaoknnggaaEpoG
import Derived.Deep.AppendLies
import Derived.Maps.AppendAt
namespace Go.Proofs.Ytokoniaoknnggaa
open Go.RowKit
set_option linter.unusedVariables false
set_option linter.unusedSimpArgs false

/-- append to a slice of one's own in a region that draws; it says too where the new slice lies. -/
theorem step_append_at {P : Program} {ops : Array Oper} {o : Oper} {a : Act} {w : World} {K : Act → World → Prop} {Q : Exit → Act → World → Prop} {E : Prop}
    (hg : o.guard = none) (s x : Operand) (t : TypeId) (hop : o.op = Op.call { callee := Callee.builtin Builtin.append, args := #[s, x], argTypes := #[t, t] })
    (base : Nat) (e : TypeId) (i : TypeInfo) (z : Value) (size bytes : Nat) (h1 : P.underlying t = some (.slice e)) (h2 : P.info? e = some i) (h3 : i.zero = some z) (h4 : i.size = size) (h5 : i.bytes = bytes) (h6 : z.cells.size = size) (h7 : 0 < size)
    (v : Value) (n : Nat) (xs : List Value) (hs : a.eval s = v) (hown : w.ownsRow base e size v n xs)
    (ad : Addr) (m c : Nat) (news : List Value) (hx : a.eval x = .slice (some ad) m c) (hn : news.length = m * size) (hc : ∀ j u, news[j]? = some u → w.cell? (ad.add j) = some u) (h1c : ∀ u ∈ news, u.oneCell' = true)
    (b1 : n + m ≤ maxLen) (b2 : (n + m) * bytes ≤ 140737488355328) (hbase : base ≤ w.heap.size)
    (hK : ∀ v' w', w'.ownsRow base e size v' (n + m) (xs ++ news) → w.grownBy w' v.ownBlock → (v'.ownBlock = v.ownBlock ∨ v'.ownBlock = some w.heap.size) → K (a.put o.dst v') w') :
    if Region.wanted o (yielded ops a.tmps) = true then Oper.wp P o a w K Q else E := by
  have hw : Region.wanted o (yielded ops a.tmps) = true := by simp [Region.wanted, hg]
  rw [if_pos hw]
  obtain ⟨v', w', hrun, r1, r2, _, r3⟩ := run_append_own_at (P := P) w base t o.type e i z size bytes h1 h2 h3 h4 h5 h6 h7 v n xs hown ad m c news hn hc h1c b1 b2 hbase
  unfold Oper.wp
  simp [execOp, hop, resolve, invoke, builtin, hs, hx, hrun, Result.andThen]
  exact hK v' w' r1 r2 r3
theorem info_u64 : (Try.prog.info? 38).map (fun i => (i.zero, i.size, i.bytes)) = some (some (.int .u64 0), 1, 8) := by kernel_rfl
theorem own_type2 {w : World} {base size n : Nat} {e : TypeId} {v : Value} {xs : List Value} (h : w.ownsRow base e size v n xs) (k : Nat) (hk : v.ownBlock = some k) : ∃ c, w.heap[k]? = some (.cells c e (0, 0)) := by
  obtain ⟨_, h2⟩ := h
  rcases h2 with ⟨rfl, rfl⟩ | ⟨g, cap, cur, rfl, _, hh, _⟩
  · cases hk
  · simp only [Value.ownBlock, Option.some.injEq] at hk
    subst hk
    exact ⟨cur, hh⟩
set_option maxRecDepth 100000 in
set_option maxHeartbeats 3200000 in
theorem turns_tell (T : Nat) (vc : Value) (call at_ : Nat) (r : List Nat) (AN na cA : Nat) (over : Bool) (hcall : call < na) (hna : na < 1000000) (pw : Value) (x : In) (hd : x.d = 22) (ha : x.a < 24) (w : World) (cells : Array Value) (B : Nat) (vt : Value) (told : List Nat) (htl : told.length < 1000000) (hA : Row w AN cells 113) (hct : cells[call * 2 + 1]? = some vt) (hB : B ≤ w.heap.size) (hown : w.ownsRow B 38 1 vt told.length (u64L told)) (hTA : T ≠ AN) (hT : Thr T vc call at_ r (.slice (some ⟨AN, 0, none⟩) na cA) over w) :
    Calls Try.prog 94 #[.pointer (some ⟨T, 0, none⟩), pw, .agg (instrC x).toArray] w fun e w' =>
      e = .returned (.tuple #[]) ∧ Thr T vc call at_ r (.slice (some ⟨AN, 0, none⟩) na cA) over w' ∧ Sm (fun b => b = AN ∨ vt.ownBlock = some b) w w' ∧ ∃ vt', Row w' AN (cells.setIfInBounds (call * 2 + 1) vt') 113 ∧ w'.ownsRow B 38 1 vt' (told.length + 1) (u64L (told ++ [r[x.a]?.getD 0])) ∧ ∀ b, vt'.ownBlock = some b → vt.ownBlock = some b ∨ w.heap.size ≤ b := by
  obtain ⟨d, o, a, b, c, e, n⟩ := x
  simp only at hd ha ⊢
  subst hd
  have hTl := hT.row.lt
  have hb0 := Row.new w (instrC ⟨22, o, a, b, c, e, n⟩).toArray 161
  have hs : Sm (fun _ => False) w (w.alloc (.cells (instrC ⟨22, o, a, b, c, e, n⟩).toArray 161 (0, 0))) := (Sm.refl _ _).alloc _
  obtain ⟨w1, hw1⟩ : ∃ w1, w1 = w.alloc (.cells (instrC ⟨22, o, a, b, c, e, n⟩).toArray 161 (0, 0)) := ⟨_, rfl⟩
  obtain ⟨X, hX⟩ : ∃ X, X = w.heap.size := ⟨_, rfl⟩
  rw [← hw1, ← hX] at hb0
  rw [← hw1] at hs
  have h1 := hT.sm hs (fun h => h)
  have c1 : w1.cell? ⟨T, 1, none⟩ = some (.int .i64 (call : Int)) := h1.row.cell 1
  have c27 : w1.cell? ⟨T, 27, none⟩ = some (.slice (some ⟨AN, 0, none⟩) na cA) := (h1.row.cell 27).trans (by
    have : r.length = 24 := h1.len
    simp [thrC, List.getElem?_append_right, this])
  have j1 : (call : Int) < (na : Int) := by omega
  have k1 : (0 : Int) ≤ (call : Int) := Int.natCast_nonneg _
  have H1 := Lib.hid h1
  have HS1 := Lib.hid hs
  have HB1 := Lib.hid hb0
  have HW1 := Lib.hid hw1
  have HX := Lib.hid hX
  have HAA := Lib.hid (hA.sm hs (fun h => h))
  have HOO := Lib.hid (own_sm hown hs (fun _ _ h => h))
  have HBB := Lib.hid (Nat.le_trans hB hs.size)
  clear hb0 hs h1 hw1 hX hT hA hown hB
  go_enter Try.func94, Try.ntmps94
  go_upto_region 1 with fail
  rw [← HW1.out, ← HX.out]
  go_wp2_with fail
  try simp only [Act.put]
  refine wp_region_quiet_lit (by kernel_rfl) (by kernel_rfl) ?_
  repeat (first
    | go_big_quiet_skip
    | (go_big_quiet_want; go_big_quiet_op; go_big_quiet_on))
  refine wpQuiet_nil ?_
  intro _ hw'
  obtain ⟨nq, hw''⟩ := hw'
  subst hw''
  obtain ⟨w2, hw2⟩ : ∃ w2, w2 = w1.drewN nq := ⟨_, rfl⟩
  rw [← hw2]
  have hs2 : Sm (fun _ => False) w1 w2 := by rw [hw2]; exact (Sm.refl _ _).drewN _
  have H2 := Lib.hid (H1.out.sm hs2 (fun h => h))
  have HB2 := Lib.hid (HB1.out.sm hs2 (fun h => h))
  have HS2 := Lib.hid (HS1.out.trans hs2)
  have b0 : w2.cell? ⟨X, 0, none⟩ = some (.int .i64 22) := HB2.out.cell 0
  have HA2 := Lib.hid (HAA.out.sm hs2 (fun h => h))
  have HO2 := Lib.hid (own_sm HOO.out hs2 (fun _ _ h => h))
  have HBB2 := Lib.hid (Nat.le_trans HBB.out hs2.size)
  have b2 : w2.cell? ⟨X, 2, none⟩ = some (.int .i64 (a : Int)) := HB2.out.cell 2
  obtain ⟨v, hv⟩ : ∃ v, v = r[a]?.getD 0 := ⟨_, rfl⟩
  have HV := Lib.hid hv
  have ra : w2.cell? ⟨T, 3 + a, none⟩ = some (.int .u64 (v : Int)) := by rw [hv]; exact H2.out.reg a ha
  have an : w2.cell? ⟨AN, call * 2 + 1, none⟩ = some vt := (HA2.out.cell _).trans hct
  have ja : (a : Int) < 24 := by omega
  have ka : (0 : Int) ≤ (a : Int) := Int.natCast_nonneg _
  clear hw2 hs2 H1 HB1 HS1 HAA HOO HBB c1 c27 HW1 hv
  have HCT := Lib.hid hct
  clear hct
  obtain ⟨iu, hiu, hz0, hz1, hz2⟩ := info_parts info_u64
  have HIU := Lib.hid hiu
  have HZU := Lib.hid (show iu.zero = some (.int .u64 0) ∧ iu.size = 1 ∧ iu.bytes = 8 from ⟨hz0, hz1, hz2⟩)
  clear hiu hz0 hz1 hz2
  obtain ⟨at0, ct0, hvt⟩ := own_form0 HO2.out
  subst hvt
  have neA : (Value.slice at0 told.length ct0).ownBlock ≠ some AN := fun h => by
    obtain ⟨cc, e1⟩ := own_type2 HO2.out AN h
    have e2 : w2.heap[AN]? = some (.cells cells 113 (0, 0)) := HA2.out
    rw [e1] at e2
    simp at e2
  have lA : AN < w2.heap.size := HA2.out.lt
  have HBD1 := Lib.hid (show told.length + 1 ≤ maxLen by unfold maxLen; omega)
  have HBD3 := Lib.hid (show (told.length + 1) * 8 ≤ 140737488355328 by omega)
  have hBB := HBB2.out
  go_wp2_with fail
  go_region_law (refine step_append_at rfl (.tmp 98) (.tmp 105) 36 rfl B 38 iu (.int .u64 0) 1 8 Try.underlying36 HIU.out HZU.out.1 HZU.out.2.1 HZU.out.2.2 rfl (by decide) (.slice at0 told.length ct0) told.length (u64L told) (by simp [Act.eval, Act.put]) ((HO2.out.drew).alloc _) ⟨w2.heap.size, 0, none⟩ 1 1 [.int .u64 (v : Int)] (by simp [Act.eval, Act.put]) rfl (new_cells w2.drew [.int .u64 (v : Int)] 38) (by simp [Value.oneCell']) HBD1.out HBD3.out (by simp; omega) ?_; intro v5 w5 hown5 hg5 hat5; have hf5 : w5.frozen? ⟨AN, call * 2 + 1, none⟩ = false := (hg5.frozen_far ⟨AN, call * 2 + 1, none⟩ (by simp; omega) (Ne.symm neA)).trans (((HA2.out.drew).alloc _).free _); have hc5 : w5.cell? ⟨AN, call * 2 + 1, none⟩ = some (.slice at0 told.length ct0) := (hg5.cell_far ⟨AN, call * 2 + 1, none⟩ (by simp; omega) (Ne.symm neA)).trans ((((HA2.out.drew).alloc _).cell _).trans HCT.out); obtain ⟨a5, c5, hv5⟩ := own_form0 hown5; subst hv5)
  all_goals
    have hs5 : Sm (fun _ => False) w2 ((w2.drew).alloc (.cells #[.int .u64 (v : Int)] 38 (0, 0))) := ((Sm.refl _ _).drew).alloc _
    have kg : Sm (fun b => (Value.slice at0 told.length ct0).ownBlock = some b) ((w2.drew).alloc (.cells #[.int .u64 (v : Int)] 38 (0, 0))) w5 := sm_grown hg5 (fun b e => e)
    have kset : Sm (fun b => b = AN) w5 (w5.setCell ⟨AN, call * 2 + 1, none⟩ (.slice a5 (told.length + 1) c5)) := Sm.setCell (F := fun b => b = AN) (p := ⟨AN, call * 2 + 1, none⟩) (Sm.refl _ _) rfl _
    have neT : (Value.slice at0 told.length ct0).ownBlock ≠ some T := fun h => by
      obtain ⟨cc, e1⟩ := own_type2 HO2.out T h
      have e2 := H2.out.row
      unfold Row at e2
      rw [e1] at e2
      simp at e2
    have rA := (HA2.out.sm hs5 (fun h => h)).sm kg neA
    have hTe := ((H2.out.sm hs5 (fun h => h)).sm kg neT).sm kset hTA
    have hsm := (((HS2.out.mono (F' := fun b => b = AN ∨ (Value.slice at0 told.length ct0).ownBlock = some b) (fun _ h => h.elim)).trans (hs5.mono (fun _ h => h.elim))).trans (kg.mono (fun b e => .inr e))).trans (kset.mono (fun b e => .inl e))
    have ne5 : ∀ b, (Value.slice a5 (told.length + 1) c5).ownBlock = some b → ¬ b = AN := fun b hb e => by
      obtain ⟨cc, e1⟩ := own_type2 hown5 b hb
      unfold Row at rA
      rw [e] at e1
      rw [e1] at rA
      simp at rA
    have HFIN := Lib.hid (show Thr T vc call at_ r (.slice (some ⟨AN, 0, none⟩) na cA) over (w5.setCell ⟨AN, call * 2 + 1, none⟩ (.slice a5 (told.length + 1) c5)) ∧ Sm (fun b => b = AN ∨ (Value.slice at0 told.length ct0).ownBlock = some b) w (w5.setCell ⟨AN, call * 2 + 1, none⟩ (.slice a5 (told.length + 1) c5)) ∧ ∃ vt', Row (w5.setCell ⟨AN, call * 2 + 1, none⟩ (.slice a5 (told.length + 1) c5)) AN (cells.setIfInBounds (call * 2 + 1) vt') 113 ∧ (w5.setCell ⟨AN, call * 2 + 1, none⟩ (.slice a5 (told.length + 1) c5)).ownsRow B 38 1 vt' (told.length + 1) (u64L (told ++ [r[a]?.getD 0])) ∧ ∀ b, vt'.ownBlock = some b → (Value.slice at0 told.length ct0).ownBlock = some b ∨ w.heap.size ≤ b from
      ⟨hTe, hsm, _, rA.set _ _, by
        have := ownsRow_setCell_other hown5 (a := ⟨AN, call * 2 + 1, none⟩) (fun h => ne5 AN h rfl) (.slice a5 (told.length + 1) c5)
        rw [← HV.out]
        simpa [u64L] using this, fun b hb => by
        rcases hat5 with e | e
        · exact .inl (e ▸ hb)
        · rw [e] at hb
          simp only [Option.some.injEq] at hb
          have := HS2.out.size
          simp at hb
          exact .inr (by omega)⟩)
    clear hs5 kg kset rA hTe hsm hown5 hg5 hf5 hc5 hat5
    go_wp2
    refine bodyPost_end (results_none rfl _ _ _) rfl ?_
    exact ⟨rfl, HFIN.out⟩
end Go.Proofs.Ytokoniaoknnggaa
