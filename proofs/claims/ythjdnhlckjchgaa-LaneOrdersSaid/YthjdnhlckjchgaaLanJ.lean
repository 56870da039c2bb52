/- lane.Kept, walked alone. -/
import Derived.Test.YthjdnhlckjchgaaLanI
import Derived.BigQuiet
namespace Go.Proofs.Ythjdnhlckjchgaa
open Go.RowKit
set_option linter.unusedVariables false
set_option linter.unusedSimpArgs false

/-- A slice of rows of sz cells each, in memory. -/
def Recs (sz : Nat) (v : Value) (rows : List (List Value)) (w : World) : Prop :=
  ∃ a c, v = .slice a rows.length c ∧ rows.length ≤ c ∧ (0 < rows.length → ∃ b o, a = some ⟨b, o, none⟩ ∧ b < w.heap.size ∧ ∀ j (h : j < rows.length), w.rangeAt b (o + j * sz) rows[j])
theorem Recs.sm {sz : Nat} {v : Value} {rows : List (List Value)} {w w' : World} {F : Nat → Prop} (h : Recs sz v rows w) (k : Sm F w w') (hF : ∀ b, b < w.heap.size → ¬ F b) : Recs sz v rows w' := by
  obtain ⟨a, c, hv, hc, h⟩ := h
  refine ⟨a, c, hv, hc, fun h0 => ?_⟩
  obtain ⟨b, o, ha, hb, hr⟩ := h h0
  exact ⟨b, o, ha, Nat.lt_of_lt_of_le hb k.size, fun j hj i u hu => (k.cell (p := ⟨b, o + j * sz + i, none⟩) hb (hF b hb)).trans (hr j hj i u hu)⟩

def keptF (ks : List KeyV) : List Int → Nat → (KeyV → Int) → Nat × Bool
  | [], i, _ => (i, true)
  | d :: r, i, g => if d < 0 ∨ (ks.length : Int) ≤ d then (i, false) else
    match ks[d.toNat]? with
    | none => (i, false)
    | some k => if d < g k then (i, false) else keptF ks r (i + 1) (fun x => if x = k then d + 1 else g x)

theorem still_load_keyM {o : Oper} {a : Act} {w : World} {K : Act → Prop} (x : Operand) (ho : o.op = .load 63 x)
    (b off : Nat) (hx : a.eval x = .pointer (some ⟨b, off, none⟩)) (m : List Value) (hlen : m.length = 37) (hr : w.rangeAt b off m) (hk : K (a.put o.dst (.agg m.toArray))) : o.still Try.prog a w K := by
  have h := run_loadVar_mid (P := Try.prog) w b off 63 m _ hr Try.underlying63 rfl (by rw [hlen, size_key])
  unfold Oper.still execOp
  simp only [ho, hx, Instr.loadAt, Instr.sureAddr, Sem.run_bind, Sem.run_pure, Result.andThen_ok, h]
  exact ⟨rfl, hk⟩
theorem Sm.new {F : Nat → Prop} {w w' : World} (h : Sm F w w') (hF : ∀ b, F b → w.heap.size ≤ b) : Sm (fun _ => False) w w' :=
  ⟨h.os, h.tape, h.output, h.size, fun k hk _ => h.block k hk (fun e => by have := hF k e; omega)⟩
theorem quiet_load_key {o : Oper} {a : Act} {C : World → Prop} {K : Act → Prop} (x : Operand) (ho : o.op = .load 63 x) (b off : Nat) (hx : a.eval x = .pointer (some ⟨b, off, none⟩)) (m : List Value) (hlen : m.length = 37)
    (hC : ∀ w, C w → w.rangeAt b off m) (hk : K (a.put o.dst (.agg m.toArray))) : o.quiet Try.prog a C K :=
  ⟨_, fun w hw => by
    have h := run_loadVar_mid (P := Try.prog) w b off 63 m _ (hC w hw) Try.underlying63 rfl (by rw [hlen, size_key])
    unfold Oper.quietAt execOp
    simp only [ho, hx, Instr.loadAt, Instr.sureAddr, Sem.run_bind, Sem.run_pure, Result.andThen_ok, h]
    exact ⟨rfl, rfl⟩, hk⟩

set_option maxRecDepth 100000 in
set_option maxHeartbeats 1600000 in
theorem kept_c (ks : List KeyV) (hks : ∀ k ∈ ks, k.Ok) (hkl : ks.length ≤ 1000) (kv dv : Value) (ds : List Int) (dr : List (List Value)) (hdl : dr.length = ds.length) (hd1 : ds.length ≤ 1000) (hd2 : ∀ j (h : j < dr.length), dr[j].length = 12 ∧ (∀ v ∈ dr[j], v.oneCell' = true) ∧ dr[j][0]? = ds[j]?.map (Value.int .i64 ·))
    (w : World) (hk : Recs 37 kv (ks.map keyC) w) (hd : Recs 12 dv dr w) :
    Calls Try.prog 16 #[kv, dv] w fun e w' => e = .returned (.tuple #[.int .i64 ((keptF ks ds 0 fun _ => 0).1 : Nat), .bool (keptF ks ds 0 fun _ => 0).2]) ∧ Sm (fun _ => False) w w' := by
  obtain ⟨D, hD⟩ : ∃ D, D = keptF ks ds 0 fun _ => 0 := ⟨_, rfl⟩
  rw [← hD]
  have HK := Lib.hid hk
  have HDD := Lib.hid hd
  obtain ⟨ka, kc, rfl, hkc, -⟩ := hk
  obtain ⟨da, dc, rfl, hdc, -⟩ := hd
  have HD := Lib.hid hD
  have HD2 := Lib.hid hd2
  have HKS := Lib.hid hks
  have hmm : ∀ W : World, (Instr.makeMap 124 none).run Try.prog W = .ok (.map (some W.heap.size)) (W.alloc (.map #[] 0)) := fun W => run_makeMap _ W
  clear hD hd2 hks
  simp only [List.length_map] at hkc HK ⊢
  obtain ⟨n, hn⟩ : ∃ n, n = dr.length := ⟨_, rfl⟩
  rw [← hn] at hdc hdl HDD ⊢
  have HN := Lib.hid hn
  have hM := MapI.made 63 w
  obtain ⟨w1, hw1⟩ : ∃ w1, w1 = w.alloc (.map #[] 0) := ⟨_, rfl⟩
  rw [← hw1] at hM
  have hS1 : Sm (fun _ => False) w w1 := by rw [hw1]; exact (Sm.refl _ _).alloc _
  have HM := Lib.hid hM
  have HS1 := Lib.hid hS1
  have HW1 := Lib.hid hw1
  clear hn hM hS1 hw1
  go_enter Try.func16, Try.ntmps16
  go_wp2
  rw [← HW1.out]
  go_loopw [12] (fun s12 wr => ∃ i : Nat, i ≤ n ∧ s12 = .int .i64 i ∧ ∃ (g : KeyV → Int) (f : Lit → Option Int) (m : Nat), Hid (keptF ks (ds.drop i) i g = D) ∧ Hid (MapI 63 wr w.heap.size f m) ∧ m ≤ i ∧ Hid (∀ k : KeyV, k.Ok → (f (keyN k)).getD 0 = g k) ∧ Hid (Sm (fun b => b = w.heap.size) w wr)) (fun s12 wr => n - (intOf s12).toNat)
  case atStart => exact ⟨0, by omega, rfl, fun _ => 0, fun _ => none, 0, Lib.hid (by rw [List.drop_zero]; exact HD.out.symm), HM, by omega, Lib.hid (fun _ _ => rfl), Lib.hid (HS1.out.mono (fun _ h => h.elim))⟩
  case round =>
    clear HM HD HS1 HW1 hmm
    obtain ⟨i, hi, rfl, g, f, m, hrun, hmap, hmi, hfg, hS⟩ := hrel
    by_cases hlt : i < n
    · have j1 : (i : Int) < (n : Int) := by omega
      have hids : i < ds.length := by omega
      have hidr : i < dr.length := by rw [← HN.out]; exact hlt
      obtain ⟨a1, c1, e1, -, h1⟩ := HDD.out.sm hS.out (fun b hb e => by omega)
      obtain ⟨db, dof, rfl, hdb, hdr⟩ := h1 (by omega)
      have hri := hdr i hidr
      obtain ⟨hrl, hro, hr0⟩ := HD2.out i hidr
      obtain ⟨row, hrow⟩ : ∃ row, row = dr[i] := ⟨_, rfl⟩
      rw [← hrow] at hri hrl hro hr0
      obtain ⟨d, hd⟩ : ∃ d, d = ds[i] := ⟨_, rfl⟩
      rw [List.getElem?_eq_getElem hids, ← hd] at hr0
      simp only [Option.map_some] at hr0
      have hszD : (Try.prog.info? 54).map (·.size) = some row.length := by rw [hrl]; kernel_rfl
      have hszD2 : (Try.prog.info? 54).map (·.size) = some row.toArray.size := by rw [List.size_toArray]; exact hszD
      simp only [Value.slice.injEq] at e1
      obtain ⟨rfl, -, rfl⟩ := e1
      have hp : wrap64 ((i : Int) + 1) = ((i + 1 : Nat) : Int) := by unfold wrap64; omega
      have HP := Lib.hid hp
      have HROW := Lib.hid hrow
      have HDE := Lib.hid hd
      have HRO := Lib.hid (show row.toArray.all (·.oneCell') = true by simpa using hro)
      have HR0 := Lib.hid hr0
      have HRI := Lib.hid hri
      clear hp hrow hd hro hr0 hri hdr h1
      have hz : Row (wr.alloc (.cells (#[Value.int .i64 0, .int .i64 0, .int .u64 0, .int .u64 0, .int .i64 0, .int .i64 0, .int .i64 0, .int .i64 0, .int .i64 0, .bool false, .bool false, .int .i64 0]) 54)) wr.heap.size (#[Value.int .i64 0, .int .i64 0, .int .u64 0, .int .u64 0, .int .i64 0, .int .i64 0, .int .i64 0, .int .i64 0, .int .i64 0, .bool false, .bool false, .int .i64 0]) 54 := Row.new _ _ _
      have hzs : (#[Value.int .i64 0, .int .i64 0, .int .u64 0, .int .u64 0, .int .i64 0, .int .i64 0, .int .i64 0, .int .i64 0, .int .i64 0, .bool false, .bool false, .int .i64 0]).size = row.toArray.size := by simp [hrl]
      obtain ⟨w2, hw2⟩ : ∃ w2, w2 = (wr.alloc (.cells (#[Value.int .i64 0, .int .i64 0, .int .u64 0, .int .u64 0, .int .i64 0, .int .i64 0, .int .i64 0, .int .i64 0, .int .i64 0, .bool false, .bool false, .int .i64 0]) 54)).setRow wr.heap.size row.toArray := ⟨_, rfl⟩
      have hr2 := hz.setRow (c' := row.toArray)
      rw [← hw2] at hr2
      have hc0 : w2.cell? ⟨wr.heap.size, 0, none⟩ = some (.int .i64 d) := (hr2.cell 0).trans (by simpa using HR0.out)
      have hs2 : Sm (fun _ => False) wr w2 := by
        rw [hw2]
        exact ⟨rfl, rfl, rfl, by simp [World.setRow], fun k hk _ => (setRow_other _ _ k _ (by omega)).trans (Below.heap_alloc _ _ _ hk)⟩
      have HW2 := Lib.hid hw2
      have HS2 := Lib.hid (hS.out.trans (hs2.mono (fun _ h => h.elim)))
      have HM2 := Lib.hid (hmap.out.sm hs2 (fun h => h))
      clear hw2 hr2 hs2 hS hmap
      have hdrop : ds.drop i = d :: ds.drop (i + 1) := by rw [HDE.out]; exact List.drop_eq_getElem_cons hids
      have HRUN := Lib.hid (show keptF ks (d :: ds.drop (i + 1)) i g = D by rw [← hdrop]; exact hrun.out)
      clear hdrop hrun
      by_cases hA : d < 0
      · have hDD : D = (i, false) := by rw [← HRUN.out]; unfold keptF; rw [if_pos (Or.inl hA)]
        subst hDD
        go_wp2_with (first
          | refine wpList_load_mid rfl 54 (.tmp 15) rfl db (dof + i * 12) (by simp [Act.eval, Act.put]) row _ HRI.out Try.underlying54 rfl hszD ?_
          | (refine wpList_store_row rfl 54 (.tmp 8) (.tmp 16) rfl wr.heap.size row.toArray (by simp [Act.eval, Act.put]) (by simp [Act.eval, Act.put]) 54 _ hz hszD2 hzs HRO.out ?_; rw [← HW2.out]))
        try simp only [Act.put]
        refine wp_region_quiet_lit (by kernel_rfl) (by kernel_rfl) ?_
        repeat (first
          | go_big_quiet_skip
          | (go_big_quiet_want; go_big_quiet_op; go_big_quiet_on))
        refine wpQuiet_nil ?_
        intro _ hw'
        obtain ⟨nq, hw''⟩ := hw'
        subst hw''
        go_wp2
        go_ret2
        exact ⟨rfl, Sm.new (HS2.out.drewN nq) (fun b hb => by omega)⟩
      have hA2 : 0 ≤ d := by omega
      have q1 : decide (d < 0) = false := by simp; omega
      by_cases hB : (ks.length : Int) ≤ d
      · have q2 : decide ((ks.length : Int) ≤ d) = true := by simp; omega
        have hDD : D = (i, false) := by rw [← HRUN.out]; unfold keptF; rw [if_pos (Or.inr hB)]
        subst hDD
        go_wp2_with (first
          | refine wpList_load_mid rfl 54 (.tmp 15) rfl db (dof + i * 12) (by simp [Act.eval, Act.put]) row _ HRI.out Try.underlying54 rfl hszD ?_
          | (refine wpList_store_row rfl 54 (.tmp 8) (.tmp 16) rfl wr.heap.size row.toArray (by simp [Act.eval, Act.put]) (by simp [Act.eval, Act.put]) 54 _ hz hszD2 hzs HRO.out ?_; rw [← HW2.out]))
        try simp only [Act.put]
        refine wp_region_quiet_lit (by kernel_rfl) (by kernel_rfl) ?_
        repeat (first
          | go_big_quiet_skip
          | (go_big_quiet_want; go_big_quiet_op; go_big_quiet_on))
        refine wpQuiet_nil ?_
        intro _ hw'
        obtain ⟨nq, hw''⟩ := hw'
        subst hw''
        go_wp2
        go_ret2
        exact ⟨rfl, Sm.new (HS2.out.drewN nq) (fun b hb => by omega)⟩
      have q2 : decide ((ks.length : Int) ≤ d) = false := by simp; omega
      have hB2 : d < (ks.length : Int) := by omega
      obtain ⟨e, rfl⟩ := Int.eq_ofNat_of_zero_le hA2
      have hek : e < ks.length := by omega
      have q4 : decide (ks.length ≤ e) = false := by simp; omega
      obtain ⟨k, hke⟩ : ∃ k, k = ks[e] := ⟨_, rfl⟩
      have hkok : k.Ok := by rw [hke]; exact HKS.out _ (List.getElem_mem hek)
      obtain ⟨a2, c2, e2, -, h2⟩ := HK.out.sm HS2.out (fun b hb e => by omega)
      obtain ⟨kb, ko, rfl, hkb, hkr⟩ := h2 (by simp; omega)
      simp only [Value.slice.injEq] at e2
      obtain ⟨rfl, -, rfl⟩ := e2
      have hkr2 := hkr e (by simpa using hek)
      rw [List.getElem_map, ← hke] at hkr2
      have hkl2 := keyC_len k hkok
      have HKR := Lib.hid hkr2
      have hlk : ∀ n, (Instr.lookup 124 (.map (some w.heap.size)) (.agg (keyC k).toArray) false).run Try.prog (w2.drewN n) = .ok (.int .i64 (g k)) (w2.drewN n) := fun n => by
        rw [← hfg.out k hkok]
        exact MapI.look (w := w2.drewN n) HM2.out keyed_key Try.underlying124 (keyOf_key k hkok)
      have HKE := Lib.hid hke
      clear hkr hkr2 h2 hke
      by_cases hC : (e : Int) < g k
      · have q3 : decide ((e : Int) < g k) = true := by simp; omega
        have hDD : D = (i, false) := by
          rw [← HRUN.out]
          unfold keptF
          rw [if_neg (by omega)]
          have : ks[(e : Int).toNat]? = some k := by rw [HKE.out]; simp [hek]
          rw [this]
          simp [hC]
        subst hDD
        go_wp2_with (first
          | refine wpList_load_mid rfl 54 (.tmp 15) rfl db (dof + i * 12) (by simp [Act.eval, Act.put]) row _ HRI.out Try.underlying54 rfl hszD ?_
          | (refine wpList_store_row rfl 54 (.tmp 8) (.tmp 16) rfl wr.heap.size row.toArray (by simp [Act.eval, Act.put]) (by simp [Act.eval, Act.put]) 54 _ hz hszD2 hzs HRO.out ?_; rw [← HW2.out]))
        try simp only [Act.put]
        refine wp_region_quiet_lit (by kernel_rfl) (by kernel_rfl) ?_
        repeat (first
          | go_big_quiet_skip
          | (go_big_quiet_want; refine quiet_load_key (.tmp 34) rfl kb (ko + e * 37) (by simp [Act.eval]) (keyC k) hkl2 (fun w' hw => by obtain ⟨q, rfl⟩ := hw; exact HKR.out) ?_; simp only [Act.put, List.setIfInBounds_toArray, List.set_cons_succ, List.set_cons_zero]; go_big_quiet_on)
          | (go_big_quiet_want; go_big_quiet_op; go_big_quiet_on))
        refine wpQuiet_nil ?_
        intro _ hw'
        obtain ⟨nq, hw''⟩ := hw'
        subst hw''
        go_wp2
        go_ret2
        exact ⟨rfl, Sm.new (HS2.out.drewN nq) (fun b hb => by omega)⟩
      · go_wp2_with (first
          | refine wpList_load_mid rfl 54 (.tmp 15) rfl db (dof + i * 12) (by simp [Act.eval, Act.put]) row _ HRI.out Try.underlying54 rfl hszD ?_
          | (refine wpList_store_row rfl 54 (.tmp 8) (.tmp 16) rfl wr.heap.size row.toArray (by simp [Act.eval, Act.put]) (by simp [Act.eval, Act.put]) 54 _ hz hszD2 hzs HRO.out ?_; rw [← HW2.out]))
        try simp only [Act.put]
        refine wp_region_quiet_lit (by kernel_rfl) (by kernel_rfl) ?_
        repeat (first
          | go_big_quiet_skip
          | (go_big_quiet_want; refine quiet_load_key (.tmp 34) rfl kb (ko + e * 37) (by simp [Act.eval]) (keyC k) hkl2 (fun w' hw => by obtain ⟨q, rfl⟩ := hw; exact HKR.out) ?_; simp only [Act.put, List.setIfInBounds_toArray, List.set_cons_succ, List.set_cons_zero]; go_big_quiet_on)
          | (go_big_quiet_want; go_big_quiet_op; go_big_quiet_on))
        refine wpQuiet_nil ?_
        intro _ hw'
        obtain ⟨nq, hw''⟩ := hw'
        subst hw''
        go_wp2
        refine wp_drewN (fun Y hY => ?_)
        have k0 : Y.cell? ⟨wr.heap.size, 0, none⟩ = some (.int .i64 (e : Int)) := (cell_heap hY _).trans hc0
        have HKY := Lib.hid (show Y.rangeAt kb (ko + e * 37) (keyC k) by rw [hY]; exact HKR.out)
        have HMY := Lib.hid (HM2.out.of_heap (w' := Y) (by rw [hY]; rfl))
        have HSY := Lib.hid (show Sm (fun b => b = w.heap.size) w Y by rw [hY]; exact HS2.out.drewN nq)
        have hwe : (Lit.int .i64 ((e : Int) + 1)).wf = true := wf_i64 _ (by omega) (by omega)
        have hwi : IntKind.i64.wrap ((e : Int) + 1) = (e : Int) + 1 := by rw [IntKind.wrap_i64]; omega
        clear hY hc0 hlk HKR HM2 HS2
        refine wp_region_still_tail 9 (by kernel_rfl) (by kernel_rfl) ?_
        simp only [List.take_succ_cons, List.take_zero, List.drop_succ_cons, List.drop_zero]
        still_step
        still_step
        still_step
        still_step
        still_step
        refine wpStill_step (fun K hK => ?_)
        rw [if_pos (by rfl)]
        refine still_load_keyM (.tmp 44) rfl kb (ko + e * 37) (by simp [Act.eval]) (keyC k) hkl2 HKY.out (hK _ ?_)
        clear hK K
        simp only [Act.put, List.setIfInBounds_toArray, List.set_cons_succ, List.set_cons_zero]
        still_step
        still_step
        still_step
        refine wpStill_nil ?_
        refine wpList_store rfl (.tmp 40) (.tmp 45) (.tmp 48) rfl keyed_key Try.underlying124 (by simp [Act.eval]) HMY.out.drew (by omega) (by simp [Act.eval]) (by simp [Act.eval, hwi]) (keyOf_key k hkok) hwe (fun W4 hm4 hs4 => ?_)
        have hC2 : ¬ (e : Int) < g k := by omega
        have r1 : Hid (keptF ks (ds.drop (i + 1)) (i + 1) (fun x => if x = k then (e : Int) + 1 else g x) = D) := Lib.hid (by
          have h := HRUN.out
          unfold keptF at h
          rw [if_neg (by omega)] at h
          have h2 : ks[(e : Int).toNat]? = some k := by rw [HKE.out]; simp [hek]
          rw [h2] at h
          simp only [if_neg hC2] at h
          exact h)
        have r2 : Hid (∀ x : KeyV, x.Ok → (upd f (keyN k) (some ((e : Int) + 1)) (keyN x)).getD 0 = if x = k then (e : Int) + 1 else g x) := Lib.hid (fun x hx => by
          by_cases h : x = k
          · rw [h, upd_same, if_pos rfl]; rfl
          · rw [upd_ne _ _ _ _ (fun e => h (keyN_inj hx hkok e)), if_neg h]
            exact hfg.out x hx)
        have r3 : Hid (Sm (fun b => b = w.heap.size) w W4) := Lib.hid (HSY.out.drew.trans hs4)
        have r4 := Lib.hid hm4
        have r5 : (if (f (keyN k)).isSome then m else m + 1) ≤ i + 1 := by split <;> omega
        clear hm4 hs4 HRUN hfg HSY HMY HKY HKE HW2
        try simp only [Act.put]
        go_wp2
        go_roundw
        case rel => exact ⟨_, _, _, _, _, ⟨i + 1, by omega, rfl, _, r1, _, _, r4, r5, r2⟩, rfl, rfl, rfl, rfl, by simp⟩
        case measure => (try rw [HP.out]); simp only [intOf]; omega
    · obtain rfl : i = n := by omega
      have hDD : D = (i, true) := by
        rw [← hrun.out, List.drop_of_length_le (by omega)]
        rfl
      subst hDD
      have r3 := Lib.hid hS.out
      clear hrun hmap hfg hS
      go_wp2
      go_ret2
      exact ⟨rfl, Sm.new r3.out (fun b hb => by omega)⟩
end Go.Proofs.Ythjdnhlckjchgaa
