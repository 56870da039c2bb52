/- The reference machine: Alone. -/
import Derived.Test.YtokoniaoknnggaaMacQ
namespace Go.Proofs.Ytokoniaoknnggaa
open Go.RowKit
set_option linter.unusedVariables false
set_option linter.unusedSimpArgs false

def mkI (tr : List (Nat × Nat)) : List (Int × Int) := tr.map fun m => ((m.1 : Int), (m.2 : Int))
theorem trC_get : ∀ (tr : List (Nat × Nat)) (i : Nat) (m : Nat × Nat), tr[i]? = some m → (trC tr)[i * 3 + 1]? = some (.int .u8 (m.1 : Int)) ∧ (trC tr)[i * 3 + 2]? = some (.int .i64 (m.2 : Int))
  | [], i, m, h => by simp at h
  | a :: l, 0, m, h => by
    simp only [List.getElem?_cons_zero, Option.some.injEq] at h
    subst h
    simp [trC]
  | a :: l, i + 1, m, h => by
    have := trC_get l i m (by simpa using h)
    rw [show (i + 1) * 3 + 1 = (i * 3 + 1) + 3 by omega, show (i + 1) * 3 + 2 = (i * 3 + 2) + 3 by omega]
    simpa [trC] using this
theorem mkI_take (tr : List (Nat × Nat)) (i : Nat) (m : Nat × Nat) (h : tr[i]? = some m) : mks (mkI (tr.take (i + 1))) = mks (mkI (tr.take i)) ++ [.int .u8 (m.1 : Int), .int .i64 (m.2 : Int)] := by
  rw [List.take_add_one, h]
  simp [mkI, mks]
theorem results_alone {fn : Func} {p q r : Tmp} (h : fn.results = #[.tmp p, .cell q 32, .tmp r]) (tmps : Array Value) (w : World) (b2 : Nat) (z u : Value) (hr : tmps.getD q undef = .pointer (some ⟨b2, 0, none⟩))
    (r2 : Row w b2 #[z, u] 32) : (results fn tmps).run Try.prog w = .ok (.tuple #[tmps.getD p undef, .agg #[z, u], tmps.getD r undef]) w := by
  have hr' : tmps[q]?.getD undef = .pointer (some ⟨b2, 0, none⟩) := by simpa using hr
  have l2 := run_loadVar_row (P := Try.prog) w b2 32 32 #[z, u] (0, 0) _ r2 Try.underlying32 rfl (by kernel_rfl)
  simp [results, h, hr', asAddr, l2]
/-- The row of one call. -/
theorem one_call {w wc : World} {cd dt : Value} {is : List In} {CB : Nat} (h1 : RecsB w.heap.size 7 cd (is.map instrC) w) (h2 : RecsB w.heap.size 1 dt [] w) (hl : is.length < 1000000) (k : Sm (fun _ => False) w wc) (hB : CB < wc.heap.size) {A : Nat} (hA : w.heap.size ≤ A) (hCA : CB < A) (hr : Row wc CB #[cd, dt] 46) :
    CallsB A (.slice (some ⟨CB, 0, none⟩) 1 1) [(is, [])] wc := by
  have e1 := h1.sm k (fun _ h => h.elim)
  have e2 := h2.sm k (fun _ h => h.elim)
  refine ⟨⟨[[cd, dt]], rfl, ⟨⟨_, _, rfl, Nat.le_refl _, fun _ => ⟨CB, 0, rfl, hB, fun j hj => ?_⟩⟩, fun _ b hb => by cases hb; exact hCA⟩, fun i c hc => ?_⟩, by simp⟩
  · have : j = 0 := by simp at hj; exact hj
    subst this
    intro u v hu
    rw [show 0 + 0 * 2 + u = u by omega]
    exact (hr.cell u).trans (by simpa using hu)
  · cases i with
    | zero =>
      simp only [List.getElem?_cons_zero, Option.some.injEq] at hc
      subst hc
      exact ⟨cd, dt, rfl, ⟨e1.recs, fun h b hb => Nat.lt_of_lt_of_le (e1.low h b hb) hA⟩, ⟨e2.recs, fun h b hb => Nat.lt_of_lt_of_le (e2.low h b hb) hA⟩, hl⟩
    | succ n => simp at hc
set_option maxRecDepth 100000 in
set_option maxHeartbeats 12800000 in
theorem alone_c (B0 : Nat) (vW vL : Value) (ws wsE : List (List Nat)) (nl : Nat) (cd dt : Value) (is : List In) (N n : Nat) (s1 sE : MS) (tr : List (Nat × Nat)) (p : Bool × List Nat) (w : World) (hV : WV B0 vW vL ws nl w) (h1 : RecsB w.heap.size 7 cd (is.map instrC) w) (h2 : RecsB w.heap.size 1 dt [] w) (hl : is.length < 1000000)
    (ho1 : cd.oneCell' = true) (ho2 : dt.oneCell' = true) (ho3 : vW.oneCell' = true) (ho4 : vL.oneCell' = true)
    (h0 : onF [(is, [])] N startS = some s1) (hp : playF [(is, [])] N n ws s1 [] = some (sE, wsE, tr)) (hn : n ≤ 16000) (hA : sE.ans[0]? = some p) (htr : tr.length < 16000) :
    Calls Try.prog 12 #[.agg #[vW, vL], .agg #[cd, dt]] w fun e w' => ∃ vT vM vW' vL', e = .returned (.tuple #[vT, .agg #[vW', vL'], vM]) ∧
      w'.ownsRow w.heap.size 38 1 vT p.2.length (u64L p.2) ∧ w'.ownsRow w.heap.size 109 2 vM tr.length (mks (mkI tr)) ∧ WV w.heap.size vW' vL' wsE nl w' ∧ Sm (fun _ => False) w w' := by
  obtain ⟨A0, hA0⟩ : ∃ A0, A0 = w.heap.size := ⟨_, rfl⟩
  obtain ⟨w0, hw0⟩ : ∃ w0 : World, w0 = ((w.alloc (.cells #[vW, vL] 32)).alloc (.cells #[cd, dt] 46)).alloc (.cells #[.slice none 0 0, .slice none 0 0] 32) := ⟨_, rfl⟩
  have r0 : Row w0 A0 #[vW, vL] 32 := by rw [hw0, hA0]; exact ((Row.new w _ _).alloc _).alloc _
  have r1 : Row w0 (A0 + 1) #[cd, dt] 46 := by
    rw [hw0, hA0]
    have := (Row.new (w.alloc (.cells #[vW, vL] 32)) #[cd, dt] 46).alloc (.cells #[.slice none 0 0, .slice none 0 0] 32)
    simpa using this
  have r2 : Row w0 (A0 + 1 + 1) #[.slice none 0 0, .slice none 0 0] 32 := by
    rw [hw0, hA0]
    have := Row.new ((w.alloc (.cells #[vW, vL] 32)).alloc (.cells #[cd, dt] 46)) #[.slice none 0 0, .slice none 0 0] 32
    simpa using this
  have s0 : Sm (fun _ => False) w w0 := by rw [hw0]; exact (((Sm.refl _ _).alloc _).alloc _).alloc _
  have z0 : w0.heap.size = A0 + 3 := by rw [hw0, hA0]; simp
  obtain ⟨w1, hw1⟩ : ∃ w1 : World, w1 = (w0.alloc (.cells #[cd, dt] 46)).alloc (.cells #[.slice (some ⟨A0 + 3, 0, none⟩) 1 1] 62) := ⟨_, rfl⟩
  have s1' : Sm (fun _ => False) w0 w1 := by rw [hw1]; exact ((Sm.refl _ _).alloc _).alloc _
  have z1 : w1.heap.size = A0 + 5 := by rw [hw1]; simp [z0]
  have rC : Row w1 (A0 + 3) #[cd, dt] 46 := by rw [hw1, ← z0]; exact (Row.new w0 _ _).alloc _
  have rT : Row w1 (A0 + 3 + 1) #[.slice (some ⟨A0 + 3, 0, none⟩) 1 1] 62 := by
    rw [hw1]
    have := Row.new (w0.alloc (.cells #[cd, dt] 46)) #[.slice (some ⟨A0 + 3, 0, none⟩) 1 1] 62
    simpa [z0] using this
  have hcalls := one_call (A := w1.heap.size) h1 h2 hl (s0.trans s1') (CB := A0 + 3) (by omega) (by omega) (by omega) rC
  have HPLAY := Lib.hid (play_c B0 vW vL ws wsE nl (.slice (some ⟨A0 + 3, 0, none⟩) 1 1) [(is, [])] (A0 + 3 + 1) 1 N n s1 sE tr w1 (hV.sm (s0.trans s1') (fun _ _ h => h)) hcalls (rT.cell 0) h0 hp hn)
  have HA0 := Lib.hid hA0
  have HW0 := Lib.hid hw0
  have HW1 := Lib.hid hw1
  have HR2 := Lib.hid (r2.sm s1' (fun h => h))
  have HS1 := Lib.hid (s0.trans s1')
  have HZ0 := Lib.hid z0
  have HZ1 := Lib.hid z1
  have d0 : w0.cell? ⟨A0, 0, none⟩ = some vW := r0.cell 0
  have d1 : w0.cell? ⟨A0, 1, none⟩ = some vL := r0.cell 1
  have d2 : w0.cell? ⟨A0 + 1, 0, none⟩ = some cd := r1.cell 0
  have d3 : w0.cell? ⟨A0 + 1, 1, none⟩ = some dt := r1.cell 1
  clear hw0 hA0 r0 r1 r2 s0 z0 hw1 s1' z1 rC rT hcalls hV h1 h2 h0 hp
  go_enter Try.func12, Try.ntmps12
  go_upto_region 1 with fail
  rw [← HW0.out, ← HA0.out]
  go_wp2_with fail
  rw [HZ0.out, ← HW1.out]
  refine HPLAY.out.mono ?_
  rintro e w2 ⟨vTr, vA, vOut, vW', vL', rfl, tr2, out2, an2, wv2, k2⟩
  obtain ⟨aT, cT, hvT⟩ := own_form0 tr2
  obtain ⟨g, cO, hvO⟩ := own_form out2 (by decide)
  obtain ⟨vrs2, g1, -⟩ := wv2.ex
  obtain ⟨aw, cw, hvW⟩ := own_form0 g1
  obtain ⟨al, cl, hvL⟩ := own_form0 wv2.lists
  subst hvT hvO hvW hvL
  obtain ⟨B7, hB7⟩ : ∃ B7, B7 = w2.heap.size := ⟨_, rfl⟩
  obtain ⟨w3, hw3⟩ : ∃ w3 : World, w3 = (w2.alloc (.cells #[.slice none 0 0, .slice none 0 0] 66)).alloc (.cells #[.slice none 0 0, .slice none 0 0] 32) := ⟨_, rfl⟩
  have q7 : Row w3 B7 #[.slice none 0 0, .slice none 0 0] 66 := by rw [hw3, hB7]; exact (Row.new w2 _ _).alloc _
  have q9 : Row w3 (B7 + 1) #[.slice none 0 0, .slice none 0 0] 32 := by
    rw [hw3, hB7]
    have := Row.new (w2.alloc (.cells #[.slice none 0 0, .slice none 0 0] 66)) #[.slice none 0 0, .slice none 0 0] 32
    simpa using this
  have k3 : Sm (fun _ => False) w2 w3 := by rw [hw3]; exact ((Sm.refl _ _).alloc _).alloc _
  obtain ⟨w4, hw4⟩ : ∃ w4 : World, w4 = w3.setRow B7 #[.slice aT tr.length cT, .slice none 0 0] := ⟨_, rfl⟩
  have k4 : Sm (fun b => b = B7) w3 w4 := by rw [hw4]; exact ⟨rfl, rfl, rfl, by simp [World.setRow], fun k hk hf => setRow_other _ _ k _ hf⟩
  have q7' : Row w4 B7 #[.slice aT tr.length cT, .slice none 0 0] 66 := by rw [hw4]; exact q7.setRow
  have q9' : Row w4 (B7 + 1) #[.slice none 0 0, .slice none 0 0] 32 := q9.sm k4 (by omega)
  obtain ⟨w5, hw5⟩ : ∃ w5 : World, w5 = w4.setRow (B7 + 1) #[.slice aw wsE.length cw, .slice al nl cl] := ⟨_, rfl⟩
  have k5 : Sm (fun b => b = B7 + 1) w4 w5 := by rw [hw5]; exact ⟨rfl, rfl, rfl, by simp [World.setRow], fun k hk hf => setRow_other _ _ k _ hf⟩
  have q7e : Row w5 B7 #[.slice aT tr.length cT, .slice none 0 0] 66 := q7'.sm k5 (by omega)
  have q9e : Row w5 (B7 + 1) #[.slice aw wsE.length cw, .slice al nl cl] 32 := by rw [hw5]; exact q9'.setRow
  have k25 : Sm (fun _ => False) w2 w5 := (((k3.mono (F' := fun b => B7 ≤ b) (fun _ h => h.elim)).trans (k4.mono (fun b e => by omega))).trans (k5.mono (fun b e => by omega))).new (fun b hb => by omega)
  have HW3 := Lib.hid hw3
  have HW4 := Lib.hid hw4
  have HW5 := Lib.hid hw5
  have HB7 := Lib.hid hB7
  have HB7L := Lib.hid (show w1.heap.size ≤ B7 by rw [hB7]; exact k2.size)
  have HQ7 := Lib.hid q7
  have HQ9' := Lib.hid q9'
  have HALL := Lib.hid (show Row w5 B7 #[.slice aT tr.length cT, .slice none 0 0] 66 ∧ Row w5 (B7 + 1) #[.slice aw wsE.length cw, .slice al nl cl] 32 ∧ Sm (fun _ => False) w1 w5 ∧ w5.ownsRow w1.heap.size 111 3 (.slice aT tr.length cT) tr.length (trC tr) ∧
    w5.ownsRow w1.heap.size 114 1 (.slice (some ⟨g, 0, none⟩) 1 cO) 1 [vA] ∧ Ans w1.heap.size (fun b => w1.heap.size ≤ b) vA sE.ans w5 ∧ WV w1.heap.size (.slice aw wsE.length cw) (.slice al nl cl) wsE nl w5 from
    ⟨q7e, q9e, k2.trans k25, own_smF tr2 k25 (fun _ _ h => h), own_smF out2 k25 (fun _ _ h => h), an2.sm k25 (fun _ _ h => h), wv2.sm k25 (fun _ _ h => h)⟩)
  clear hw3 hw4 hw5 hB7 q7 q9 q9' q7' q7e q9e k3 k4 k5 k25 tr2 out2 an2 wv2 k2 g1
  go_upto_region 2 with (first
    | (refine wpList_store_row rfl 66 (.tmp 7) (.tmp 18) rfl w2.heap.size #[.slice aT tr.length cT, .slice none 0 0] (by simp [Act.eval, Act.put]) (by simp [Act.eval, Act.put]) 66 _ (by rw [← HW3.out, ← HB7.out]; exact HQ7.out) (by kernel_rfl) (by rfl) (by simp [Value.oneCell']) ?_; rw [← HW3.out, ← HB7.out, ← HW4.out])
    | (refine wpList_store_row rfl 32 (.tmp 9) (.tmp 20) rfl (B7 + 1) #[.slice aw wsE.length cw, .slice al nl cl] (by simp [Act.eval, Act.put]) (by simp [Act.eval, Act.put]) 32 _ HQ9'.out (by kernel_rfl) (by rfl) (by simp [Value.oneCell']) ?_; rw [← HW5.out]))
  go_upto_block 0 with fail
  obtain ⟨im, him, hm0, hm1, hm2⟩ := info_parts info_mark
  have HIM := Lib.hid (show Try.prog.info? 109 = some im ∧ im.zero = some (.agg #[.int .u8 0, .int .i64 0]) ∧ im.size = 2 ∧ im.bytes = 16 from ⟨him, hm0, hm1, hm2⟩)
  have HTR := Lib.hid htr
  clear him hm0 hm1 hm2 HQ7 HQ9' HB7 HW3 HW4 HW5 HPLAY HW0 HW1 htr
  go_cut [10] from 11 (fun s10 wc => ∃ (aM : Option Addr) (cM : Nat), s10 = .slice aM tr.length cM ∧ Hid (Sm (fun _ => False) w5 wc ∧ wc.ownsRow w5.heap.size 109 2 (.slice aM tr.length cM) tr.length (mks (mkI tr))))
  case first =>
    go_wp2_with fail
    go_loopw [10, 11] (fun s10 s11 wr => ∃ (i : Nat) (aM : Option Addr) (cM : Nat), i ≤ tr.length ∧ s10 = .slice aM i cM ∧ s11 = .int .i64 i ∧ Hid (Sm (fun _ => False) w5 wr ∧ wr.ownsRow w5.heap.size 109 2 (.slice aM i cM) i (mks (mkI (tr.take i))))) (fun s10 s11 wr => tr.length - (intOf s11).toNat)
    case atStart => exact ⟨0, none, 0, Nat.zero_le _, rfl, rfl, Lib.hid ⟨Sm.refl _ _, World.ownsRow_nil _ _ _ _⟩⟩
    case round =>
      obtain ⟨i, aM, cM, hi, rfl, rfl, HINV⟩ := hrel
      obtain ⟨ks, hown⟩ := HINV.out
      have c7 : wr.cell? ⟨B7, 0, none⟩ = some (.slice aT tr.length cT) := (HALL.out.1.sm ks (fun h => h)).cell 0
      have k1 : (0 : Int) ≤ (i : Int) := Int.natCast_nonneg _
      by_cases hlt : i < tr.length
      · have j1 : (i : Int) < (tr.length : Int) := by omega
        obtain ⟨m, hm⟩ : ∃ m, tr[i]? = some m := ⟨_, List.getElem?_eq_getElem hlt⟩
        obtain ⟨gT, cT', hgT⟩ := own_form HALL.out.2.2.2.1 (by omega)
        simp only [Value.slice.injEq] at hgT
        obtain ⟨rfl, -, rfl⟩ := hgT
        obtain ⟨t1, t2⟩ := trC_get tr i m hm
        have e1 : wr.cell? ⟨gT, i * 3 + 1, none⟩ = some (.int .u8 (m.1 : Int)) := by
          have := (own_smF HALL.out.2.2.2.1 ks (fun _ _ h => h)).cells rfl _ _ t1
          rwa [add0] at this
        have e2 : wr.cell? ⟨gT, i * 3 + 1 + 1, none⟩ = some (.int .i64 (m.2 : Int)) := by
          have := (own_smF HALL.out.2.2.2.1 ks (fun _ _ h => h)).cells rfl _ _ t2
          rwa [add0] at this
        have HO := Lib.hid hown
        have HKS := Lib.hid ks
        have HM := Lib.hid hm
        have HBD := Lib.hid (show i + 1 ≤ maxLen ∧ (i + 1) * 16 ≤ 140737488355328 from ⟨by have := HTR.out; unfold maxLen; omega, by have := HTR.out; omega⟩)
        have HZ := Lib.hid (show w5.heap.size ≤ wr.heap.size from ks.size)
        have hib : i < 16000 := by have := HTR.out; omega
        clear ks hown t1 t2 hm
        go_wp2_with (at_builtin; refine wpList_append_own_at _ rfl (.tmp 28) (.tmp 35) 41 rfl w5.heap.size 109 im (.agg #[.int .u8 0, .int .i64 0]) 2 16 Try.underlying41 HIM.out.1 HIM.out.2.1 HIM.out.2.2.1 HIM.out.2.2.2 rfl (by decide) _ i (mks (mkI (tr.take i))) rfl (HO.out.alloc _) ⟨wr.heap.size, 0, none⟩ 1 1 [.int .u8 (m.1 : Int), .int .i64 (m.2 : Int)] (by simp [Act.eval, Act.put]) rfl (new_cells wr [.int .u8 (m.1 : Int), .int .i64 (m.2 : Int)] 109) (by simp [Value.oneCell']) HBD.out.1 HBD.out.2 (by have := HZ.out; simp; omega) ?_)
        intro v6 w6 hown6 hg6 _ hat6
        obtain ⟨a6, c6, hv6⟩ := own_form0 hown6
        subst hv6
        have HN := Lib.hid (show Sm (fun _ => False) w5 w6 ∧ w6.ownsRow w5.heap.size 109 2 (.slice a6 (i + 1) c6) (i + 1) (mks (mkI (tr.take (i + 1)))) from
          ⟨(((HKS.out.mono (F' := fun b => (Value.slice aM i cM).ownBlock = some b) (fun _ h => h.elim)).trans ((Sm.refl _ _).alloc _)).trans (sm_grown hg6 (fun b e => e))).new (fun b hb => (HO.out.lt b hb).1), by rw [mkI_take tr i m HM.out]; exact hown6⟩)
        clear hown6 hg6 hat6 c7 e1 e2
        go_wp2_with fail
        go_roundw
        case rel => exact ⟨i + 1, a6, c6, hlt, rfl, by first | rfl | go_num, HN⟩
        case measure => simp only [intOf]; omega
      · have hi' : i = tr.length := by omega
        subst hi'
        have j1 : ¬ ((tr.length : Nat) : Int) < (tr.length : Int) := by omega
        have HN := Lib.hid (show Sm (fun _ => False) w5 wr ∧ wr.ownsRow w5.heap.size 109 2 (.slice aM tr.length cM) tr.length (mks (mkI tr)) from ⟨ks, by have := hown; rw [List.take_length] at this; exact this⟩)
        clear ks hown
        go_wp2_with fail
        go_meet
        case rel => exact ⟨aM, cM, rfl, HN⟩
  case rest =>
    obtain ⟨aM, cM, rfl, HMK⟩ := hcut
    obtain ⟨ks, hmk⟩ := HMK.out
    obtain ⟨q7, q9, k15, tr5, out5, an5, wv5⟩ := HALL.out
    obtain ⟨vts, hv1, hva, hv3, -⟩ := an5.ex
    have hans : 0 < sE.ans.length := (List.getElem?_eq_some_iff.1 hA).1
    obtain ⟨AN, cA, hvA⟩ := own_form hva hans
    subst hvA
    obtain ⟨vt, hvt⟩ : ∃ vt, vts[0]? = some vt := ⟨_, List.getElem?_eq_getElem (by omega)⟩
    obtain ⟨ht1, -, -⟩ := hv3 0 p vt hA hvt
    obtain ⟨at', ct', hvt'⟩ := own_form0 ht1
    subst hvt'
    have cO0 : w5.cell? ⟨g, 0, none⟩ = some (.slice (some ⟨AN, 0, none⟩) sE.ans.length cA) := own_at out5 rfl
    have cA1 : w5.cell? ⟨AN, 1, none⟩ = some (.slice at' p.2.length ct') := by
      have := hva.cells rfl 1 _ (by simpa using ansL_told _ _ 0 p _ hA hvt)
      rwa [add0] at this
    have hr2 : Row w5 (A0 + 1 + 1) #[.slice none 0 0, .slice none 0 0] 32 := HR2.out.sm k15 (fun h => h)
    have hr2c := hr2.sm ks (fun h => h)
    have n1 : ¬ g = A0 + 1 + 1 := fun e => by
      have := (out5.lt g rfl).1
      have := HZ1.out
      omega
    have n2 : ¬ AN = A0 + 1 + 1 := fun e => by
      have := (hva.lt AN rfl).1
      have := HZ1.out
      omega
    have n3 : ¬ B7 + 1 = A0 + 1 + 1 := fun e => by
      have := HB7L.out
      have := HZ1.out
      omega
    have q9c := q9.sm ks (fun h => h)
    have u0 : wc.cell? ⟨g, 0, none⟩ = some (.slice (some ⟨AN, 0, none⟩) sE.ans.length cA) := (ks.cell (World.block_lt_of_cell? w5 _ cO0) (fun h => h)).trans cO0
    have u1 : wc.cell? ⟨AN, 1, none⟩ = some (.slice at' p.2.length ct') := (ks.cell (World.block_lt_of_cell? w5 _ cA1) (fun h => h)).trans cA1
    have u2 : wc.cell? ⟨B7 + 1, 0, none⟩ = some (.slice aw wsE.length cw) := q9c.cell 0
    have u3 : wc.cell? ⟨B7 + 1, 1, none⟩ = some (.slice al nl cl) := q9c.cell 1
    have v0 : wc.cell? ⟨A0 + 1 + 1, 0, none⟩ = some (.slice none 0 0) := hr2c.cell 0
    have v1 : wc.cell? ⟨A0 + 1 + 1, 1, none⟩ = some (.slice none 0 0) := hr2c.cell 1
    have f0 : wc.frozen? ⟨A0 + 1 + 1, 0, none⟩ = false := hr2c.free 0
    have f1 : wc.frozen? ⟨A0 + 1 + 1, 1, none⟩ = false := hr2c.free 1
    have j0 : (0 : Int) < (sE.ans.length : Int) := by omega
    obtain ⟨wE, hwE⟩ : ∃ wE, wE = (wc.setCell ⟨A0 + 1 + 1, 0, none⟩ (.slice aw wsE.length cw)).setCell ⟨A0 + 1 + 1, 1, none⟩ (.slice al nl cl) := ⟨_, rfl⟩
    have kE : Sm (fun b => b = A0 + 1 + 1) wc wE := by rw [hwE]; exact Sm.setCell (F := fun b => b = A0 + 1 + 1) (p := ⟨A0 + 1 + 1, 1, none⟩) (Sm.setCell (F := fun b => b = A0 + 1 + 1) (p := ⟨A0 + 1 + 1, 0, none⟩) (Sm.refl _ _) rfl _) rfl _
    have hk : wE.drew.cell? ⟨g, 0, none⟩ = some (.slice (some ⟨AN, 0, none⟩) sE.ans.length cA) ∧ wE.drew.cell? ⟨AN, 1, none⟩ = some (.slice at' p.2.length ct') ∧ wE.drew.cell? ⟨B7 + 1, 0, none⟩ = some (.slice aw wsE.length cw) ∧ wE.drew.cell? ⟨B7 + 1, 1, none⟩ = some (.slice al nl cl) :=
      ⟨(kE.cell (World.block_lt_of_cell? wc _ u0) n1).trans u0, (kE.cell (World.block_lt_of_cell? wc _ u1) n2).trans u1, (kE.cell (World.block_lt_of_cell? wc _ u2) n3).trans u2, (kE.cell (World.block_lt_of_cell? wc _ u3) n3).trans u3⟩
    have hrE : Row wE (A0 + 1 + 1) #[.slice aw wsE.length cw, .slice al nl cl] 32 := by
      rw [hwE]
      exact (hr2c.set 0 _).set 1 _
    have HRE := Lib.hid (show Row wE.drew (A0 + 1 + 1) #[.slice aw wsE.length cw, .slice al nl cl] 32 from hrE)
    have HPOST := Lib.hid (show wE.drew.ownsRow w.heap.size 38 1 (.slice at' p.2.length ct') p.2.length (u64L p.2) ∧ wE.drew.ownsRow w.heap.size 109 2 (.slice aM tr.length cM) tr.length (mks (mkI tr)) ∧ WV w.heap.size (.slice aw wsE.length cw) (.slice al nl cl) wsE nl wE.drew ∧ Sm (fun _ => False) w wE.drew from by
      have z1 := HZ1.out
      have z15 := k15.size
      have a0 := HA0.out
      have kD : Sm (fun b => b = A0 + 1 + 1) w5 wE.drew := ((ks.mono (F' := fun b => b = A0 + 1 + 1) (fun _ h => h.elim)).trans kE).drew
      have hb1 : ∀ b, w1.heap.size ≤ b → ¬ b = A0 + 1 + 1 := fun b hb => by omega
      refine ⟨own_base (own_smF ht1 kD (fun b hb => hb1 b (ht1.lt b hb).1)) (fun b hb => ?_), own_base (own_smF hmk (kE.drew) (fun b hb => hb1 b ?_)) (fun b hb => ?_), ?_, ((HS1.out.trans k15).mono (F' := fun b => b = A0 + 1 + 1) (fun _ h => h.elim)).trans kD |>.new (fun b hb => by omega)⟩
      · have := (ht1.lt b hb).1
        omega
      · have := (hmk.lt b hb).1
        omega
      · have := (hmk.lt b hb).1
        omega
      · have hw := wv5.sm kD (fun b hb => hb1 b hb)
        obtain ⟨vrs3, x1, x2, x3⟩ := hw.ex
        exact ⟨⟨vrs3, own_base x1 (fun b hb => by have := (x1.lt b hb).1; omega), fun i l v hl hv => ⟨own_base (x2 i l v hl hv).1 (fun b hb => by have := ((x2 i l v hl hv).1.lt b hb).1; omega), (x2 i l v hl hv).2⟩, x3⟩, own_base hw.lists (fun b hb => by have := (hw.lists.lt b hb).1; omega), hw.few⟩)
    rw [hwE] at hk
    have HWE := Lib.hid hwE
    clear hwE kE hrE ks hmk q7 q9 k15 tr5 out5 an5 wv5 hv1 hva hv3 hvt ht1 cO0 cA1 hr2 hr2c q9c HR2 HALL d0 d1 d2 d3 HMK HZ0 HZ1
    go_wp2_with fail
    go_region_held3 (fun w' => w'.cell? ⟨g, 0, none⟩ = some (.slice (some ⟨AN, 0, none⟩) sE.ans.length cA) ∧ w'.cell? ⟨AN, 1, none⟩ = some (.slice at' p.2.length ct') ∧ w'.cell? ⟨B7 + 1, 0, none⟩ = some (.slice aw wsE.length cw) ∧ w'.cell? ⟨B7 + 1, 1, none⟩ = some (.slice al nl cl)) (first | go_keep | exact hk | assumption) (fail)
    rw [← HWE.out]
    clear hk
    go_wp2_with fail
    refine bodyPost_ret (results_alone rfl _ _ (A0 + 1 + 1) _ _ rfl HRE.out) rfl ?_
    exact ⟨_, _, _, _, rfl, HPOST.out.1, HPOST.out.2.1, HPOST.out.2.2.1, HPOST.out.2.2.2⟩
end Go.Proofs.Ytokoniaoknnggaa
