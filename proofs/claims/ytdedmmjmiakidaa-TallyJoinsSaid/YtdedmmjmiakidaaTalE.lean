/- Package tally, walked alone: Hist.Get without a gate. -/
import Derived.Test.YtdedmmjmiakidaaTalD
namespace Go.Proofs.Ytdedmmjmiakidaa
open Go.RowKit
set_option linter.unusedVariables false

theorem zero_u67 : Try.zeroCells125 = uw (List.replicate 67 0) := by kernel_rfl
theorem zero_ah : Try.zeroCells26 = uw (List.replicate 67 0) := by kernel_rfl

theorem uw_one (l : List Nat) : (uw l).all (·.oneCell') = true := by
  simp [uw, Value.oneCell']
theorem uw_size (l : List Nat) : (uw l).size = l.length := by simp [uw]

theorem loadVar_u67 (w : World) (b T : Nat) (m : List Nat) (hlen : m.length = 67) (h : Row w b (uw m) T) : (loadVar 26 ⟨b, 0, none⟩).run Try.prog w = .ok (.agg (uw m)) w :=
  run_loadVar_row w b T 26 (uw m) (0, 0) _ h Try.underlying26 rfl (by rw [uw_size, hlen]; kernel_rfl)
theorem wpList_load_u67 {ops : Array Oper} {rest : List Oper} {o : Oper} {a : Act} {w : World} {Q : Exit → Act → World → Prop} (hgd : o.guard = none) (x : Operand) (ho : o.op = .load 26 x)
    (b T : Nat) (hx : a.eval x = .pointer (some ⟨b, 0, none⟩)) (m : List Nat) (hlen : m.length = 67) (hr : Row w b (uw m) T) (h : wpList Try.prog ops Q rest (a.put o.dst (.agg (uw m))) w) : wpList Try.prog ops Q (o :: rest) a w :=
  wpList_load_row hgd 26 x ho b hx T (uw m) (0, 0) _ hr Try.underlying26 rfl (by rw [uw_size, hlen]; kernel_rfl) h
theorem wpList_store_u67 {ops : Array Oper} {rest : List Oper} {o : Oper} {a : Act} {w : World} {Q : Exit → Act → World → Prop} (hgd : o.guard = none) (x y : Operand) (ho : o.op = .store 26 x y)
    (b T : Nat) (hx : a.eval x = .pointer (some ⟨b, 0, none⟩)) (m m' : List Nat) (hy : a.eval y = .agg (uw m')) (hlen : m.length = 67) (hlen' : m'.length = 67) (hr : Row w b (uw m) T) (h : wpList Try.prog ops Q rest (a.put o.dst undef) (w.setRow b (uw m'))) : wpList Try.prog ops Q (o :: rest) a w :=
  wpList_plain hgd fun _ hK => wp_store_row 26 x y ho b (uw m') hx hy T (uw m) hr (by rw [uw_size, hlen']; kernel_rfl) (by simp [uw_size, hlen, hlen']) (uw_one m') (hK _ _ h)
theorem results_u67 {fn : Func} {p q : Tmp} (h : fn.results = #[.cell p 26, .tmp q]) (tmps : Array Value) (w : World) (b T : Nat) (m : List Nat) (hlen : m.length = 67) (hp : tmps.getD p undef = .pointer (some ⟨b, 0, none⟩)) (hr : Row w b (uw m) T) :
    (results fn tmps).run Try.prog w = .ok (.tuple #[.agg (uw m), tmps.getD q undef]) w := by
  have hp' : tmps[p]?.getD undef = .pointer (some ⟨b, 0, none⟩) := by simpa using hp
  simp [results, h, hp', asAddr, loadVar_u67 w b T m hlen hr]
theorem Row.setRow {w : World} {b : Nat} {c c' : Array Value} {T : TypeId} (h : Row w b c T) : Row (w.setRow b c') b c' T := setRow_heap w b c c' T (0, 0) h
theorem uw_splice (m a : List Nat) (hlen : m.length = 67) : splice (uw (((List.replicate 67 0).set 65 (m.getD 65 0)).set 66 (m.getD 66 0))).toList 0 (uw (m.take 65)).toList = (uw m).toList := by
  have h1 : (((List.replicate 67 0).set 65 (m.getD 65 0)).set 66 (m.getD 66 0)).drop 65 = m.drop 65 := by
    apply List.ext_getElem
    · simp [hlen]
    · intro i h1 h2
      simp [hlen] at h2
      simp only [List.getElem_drop, List.getElem_set, List.getElem_replicate, List.getD_eq_getElem?_getD]
      rcases (by omega : i = 0 ∨ i = 1) with rfl | rfl <;> simp [hlen]
  have h2 : (uw (m.take 65)).toList.length = 65 := by simp [uw_size, hlen]
  simp only [splice, List.take_zero, List.nil_append, Nat.zero_add, h2]
  simp only [uw]
  rw [← List.map_drop, h1, ← List.map_append, List.take_append_drop]

set_option maxRecDepth 100000 in
set_option maxHeartbeats 800000 in
theorem hget_c (H : Nat) (m : List Nat) (w : World) (h : His H m w) :
    Calls Try.prog 18 #[.pointer (some ⟨H, 0, none⟩), .nilIface] w fun e w' =>
      e = .returned (.tuple #[.agg (uw m), .int .i64 0]) ∧ Sm (fun _ => False) w w' := by
  have hlen := h.len
  have hm1 : ∀ o, (w.alloc o).cell? ⟨H, 0, none⟩ = some (.bool true) := fun o => ((h.r.alloc o).cell 0).trans (hst_made m)
  go_enter Try.func18, Try.ntmps18
  go_wp2
  clear hm1
  have q1 : Row ((w.alloc (.cells Try.zeroCells26 26)).alloc (.cells Try.zeroCells125 125)) w.heap.size (uw (List.replicate 67 0)) 26 := by
    rw [zero_ah]; exact (Row.new w _ _).alloc _
  have q2 : Row ((w.alloc (.cells Try.zeroCells26 26)).alloc (.cells Try.zeroCells125 125)) (w.heap.size + 1) (uw (List.replicate 67 0)) 125 := by
    rw [zero_u67]
    simpa using Row.new (w.alloc (.cells Try.zeroCells26 26)) (uw (List.replicate 67 0)) 125
  have q3 : Sm (fun _ => False) w ((w.alloc (.cells Try.zeroCells26 26)).alloc (.cells Try.zeroCells125 125)) := ((Sm.refl _ _).alloc _).alloc _
  obtain ⟨R, hR⟩ : ∃ R, R = w.heap.size := ⟨_, rfl⟩
  obtain ⟨w1, hw1⟩ : ∃ w1, w1 = ((w.alloc (.cells Try.zeroCells26 26)).alloc (.cells Try.zeroCells125 125)) := ⟨_, rfl⟩
  rw [← hw1] at q1 q2 q3
  rw [← hw1]
  simp only [← hR] at q1 q2 q3 ⊢
  have Q1 := Lib.hid q1
  have Q2 := Lib.hid q2
  have Q3 := Lib.hid q3
  have HR := Lib.hid hR
  have HH := Lib.hid h
  clear q1 q2 q3 hw1 hR h
  go_loopw [8, 23] (fun s8 s23 wr => ∃ k : Nat, k ≤ 67 ∧ s23 = .int .i64 k ∧ Hid (Row wr (R + 1) (uw (upto m k)) 125) ∧ Hid (Row wr R (uw (List.replicate 67 0)) 26) ∧ Hid (Sm (fun _ => False) w wr)) (fun s8 s23 _ => 67 - (intOf s23).toNat)
  case atStart => exact ⟨0, by omega, rfl, Lib.hid (by rw [upto_zero, hlen]; exact Q2.out), Q1, Q3⟩
  case round =>
    obtain ⟨k, hk, rfl, hA, hO, hS⟩ := hrel
    have ht : His H m wr := HH.out.sm hS.out (fun h => h)
    by_cases hlt : k < 67
    · have i1 : (k : Int) < 67 := by omega
      have hkl : k < m.length := by omega
      have hp : wrap64 ((k : Int) + 1) = ((k + 1 : Nat) : Int) := by unfold wrap64; omega
      have HP := Lib.hid hp
      clear hp
      have hlu : k < (upto m k).length := by rw [upto_len _ _ (by omega)]; exact hkl
      go_wp2_with fail
      refine (tstep_nil _ _ _).mono ?_
      rintro e w' ⟨rfl, rfl⟩
      go_wp2_with fail
      refine (aload ⟨H, 1 + k, none⟩ (m[k]'hkl) _ (ht.at k hkl)).mono ?_
      rintro e w' ⟨rfl, rfl⟩
      have hg : wr.cell? ⟨R + 1, k, none⟩ = some (.int .u64 ((upto m k)[k]'hlu : Nat)) := (hA.out.cell k).trans (uw_get _ k hlu)
      have hf : wr.frozen? ⟨R + 1, k, none⟩ = false := hA.out.free k
      have hnx : Hid (Row (wr.setCell ⟨R + 1, k, none⟩ (.int .u64 (m[k]'hkl : Nat))) (R + 1) (uw (upto m (k + 1))) 125) := by
        apply Lib.hid
        rw [← upto_set m k hkl, ← uw_set]
        exact hA.out.set _ _
      have hox : Hid (Row (wr.setCell ⟨R + 1, k, none⟩ (.int .u64 (m[k]'hkl : Nat))) R (uw (List.replicate 67 0)) 26) := Lib.hid (hO.out.set_ne (by simp) _)
      have hsx : Hid (Sm (fun _ => False) w (wr.setCell ⟨R + 1, k, none⟩ (.int .u64 (m[k]'hkl : Nat)))) := Lib.hid (hS.out.setNew (by rw [← HR.out]; simp) _)
      go_wp2
      go_roundw
      case rel => exact ⟨k + 1, by omega, by first | rw [HP.out] | go_num, hnx, hox, hsx⟩
      case measure => (try rw [HP.out]); simp only [intOf]; omega
    · have hkk : k = 67 := by omega
      subst hkk
      have hA' := hA.out
      rw [← hlen, upto_all] at hA'
      obtain ⟨x5, hx5⟩ : ∃ x, x = m.getD 65 0 := ⟨_, rfl⟩
      obtain ⟨x6, hx6⟩ : ∃ x, x = m.getD 66 0 := ⟨_, rfl⟩
      have c5 : wr.cell? ⟨R + 1, 65, none⟩ = some (.int .u64 (x5 : Int)) := (hA'.cell 65).trans ((uw_get m 65 (by omega)).trans (by rw [hx5]; simp [hlen]))
      have c6 : wr.cell? ⟨R + 1, 66, none⟩ = some (.int .u64 (x6 : Int)) := (hA'.cell 66).trans ((uw_get m 66 (by omega)).trans (by rw [hx6]; simp [hlen]))
      have HX5 := Lib.hid hx5
      have HX6 := Lib.hid hx6
      clear ht hx5 hx6
      have hW : (Try.zeroCells26.setIfInBounds 65 (.int .u64 (x5 : Int))).setIfInBounds 66 (.int .u64 (x6 : Int)) = uw (((List.replicate 67 0).set 65 x5).set 66 x6) := by rw [zero_ah, uw_set, uw_set]
      have hst := run_storeCells_new (P := Try.prog) wr 26 Try.zeroCells26 ((Try.zeroCells26.setIfInBounds 65 (.int .u64 (x5 : Int))).setIfInBounds 66 (.int .u64 (x6 : Int))) (by kernel_rfl) (by simp) (by rw [hW]; exact uw_one _)
      simp only [Array.toList_setIfInBounds] at hst
      have HW := Lib.hid hW
      have HA := Lib.hid hA'
      clear hW hA'
      go_wp2
      rw [HW.out]
      obtain ⟨Z, hZ⟩ : ∃ Z, Z = ((List.replicate 67 0).set 65 x5).set 66 x6 := ⟨_, rfl⟩
      rw [← hZ]
      have hzl : Z.length = 67 := by rw [hZ]; simp
      have HZ := Lib.hid hZ
      clear hZ
      obtain ⟨O, hO1⟩ : ∃ O, O = wr.heap.size := ⟨_, rfl⟩
      obtain ⟨w3, hw3⟩ : ∃ w3, w3 = wr.alloc (.cells (uw Z) 26) := ⟨_, rfl⟩
      have r1 := Row.new wr (uw Z) 26
      have r2 := HA.out.alloc (.cells (uw Z) 26)
      have r3 := hO.out.alloc (.cells (uw Z) 26)
      have r4 := hS.out.alloc (.cells (uw Z) 26)
      have r0 := HA.out.lt
      rw [← hw3] at r1 r2 r3 r4 ⊢
      simp only [← hO1] at r0 r1 r2 r3 r4 ⊢
      have R1 := Lib.hid r1
      have R2 := Lib.hid r2
      have R3 := Lib.hid r3
      have R4 := Lib.hid r4
      clear r1 r2 r3 r4 hst c5 c6 hw3 hO1 hA hO hS HW
      have hO2 : R + 1 ≤ O := by omega
      obtain ⟨cs, hcs⟩ : ∃ cs, cs = (uw (m.take 65)).toList := ⟨_, rfl⟩
      obtain ⟨cur, hcur⟩ : ∃ cur, cur = (uw Z).toList := ⟨_, rfl⟩
      have hcl : cs.length = 65 := by rw [hcs]; simp [uw_size, hlen]
      have hul : cur.length = 67 := by rw [hcur]; simp [uw_size, hzl]
      have hsrc : ∀ j v, cs[j]? = some v → w3.drew.cell? ((⟨R + 1, 0, none⟩ : Addr).add j) = some v := by
        intro j v hv
        have hadd : (⟨R + 1, 0, none⟩ : Addr).add j = ⟨R + 1, j, none⟩ := by unfold Addr.add; split <;> simp_all
        rw [hadd, R2.out.drew.cell j]
        have hj : j < 65 := by rw [← hcl]; exact (List.getElem?_eq_some_iff.1 hv).1
        rw [hcs] at hv
        simp [uw, hj] at hv ⊢
        exact hv
      have hone : ∀ v ∈ cs, v.oneCell' = true := by
        intro v hv
        rw [hcs] at hv
        exact (Array.all_eq_true_iff_forall_mem.1 (uw_one (m.take 65))) v (by simpa using hv)
      have HCS := Lib.hid hcs
      have HCUR := Lib.hid hcur
      have HSRC := Lib.hid hsrc
      have HONE := Lib.hid hone
      clear hcs hcur hsrc hone
      go_region_law? (refine step_copy_splice rfl (.tmp 43) (.tmp 44) 38 38 rfl 23 Try.underlying38 (by kernel_rfl) (some ⟨O, 0, none⟩) (some ⟨R + 1, 0, none⟩) 65 65 67 67 (by simp [Act.eval, Act.put]) (by simp [Act.eval, Act.put]) O 0 cur 26 (by have := R1.out.drew; unfold Row at this; rw [this, HCUR.out]) cs (by rw [hcl]; rfl) (fun _ => ⟨rfl, _, rfl, HSRC.out⟩) (by omega) HONE.out O w3.drew (Below.refl _ _) (Nat.le_refl _) ?_; intro w4 hw4 hb4)
      have hz0 : splice cur 0 cs = (uw m).toList := by
        rw [HCUR.out, HCS.out, HZ.out, HX5.out, HX6.out]
        exact uw_splice m [] hlen
      have r5 : Row w4 O (uw m) 26 := by
        have := hw4.out
        rw [hz0] at this
        simpa [Row] using this
      have r6 : Row w4 R (uw (List.replicate 67 0)) 26 := R3.out.drew.of_heap (hb4.block R (by omega))
      go_wp2_with (first
        | refine wpList_load_u67 rfl (.tmp 9) rfl O _ (by simp [Act.eval]) m hlen r5 ?_
        | refine wpList_store_u67 rfl (.tmp 4) (.tmp 46) rfl R _ (by simp [Act.eval, Act.put]) (List.replicate 67 0) m (by simp [Act.eval, Act.put]) (by simp) hlen r6 ?_)
      refine bodyPost_ret (results_u67 rfl _ _ R _ m hlen rfl r6.setRow) rfl ?_
      refine ⟨rfl, ?_⟩
      have s0 := R4.out
      have hr := HR.out
      refine ⟨hb4.os.trans s0.os, hb4.tape.trans s0.tape, hb4.output.trans s0.output, ?_, fun k hk hf => ?_⟩
      · have h1 := hb4.size
        have h2 := s0.size
        simp [World.setRow] at h1 ⊢
        omega
      · rw [setRow_other w4 R k _ (by omega), hb4.block k (by omega)]
        exact s0.block k hk hf
end Go.Proofs.Ytdedmmjmiakidaa
