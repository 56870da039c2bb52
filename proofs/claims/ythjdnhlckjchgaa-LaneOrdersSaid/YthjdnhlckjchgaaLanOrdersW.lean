/- LaneOrders, walked alone. -/
import Derived.Test.YthjdnhlckjchgaaLanX
namespace Go.Proofs.Ythjdnhlckjchgaa
open Go.RowKit
set_option linter.unusedVariables false
set_option linter.unusedSimpArgs false

theorem info_ints : (Try.prog.info? 33).map (fun i => (i.zero, i.size, i.bytes)) = some (some (.slice none 0 0), 1, 24) := by kernel_rfl

set_option maxRecDepth 100000 in
set_option maxHeartbeats 12800000 in
theorem orders_walk (lanes room : Int) (ps : List PutV) (hps : ∀ p ∈ ps, PutV.Ok p) (la : Option Addr) (m mc : Nat) (hm : m = ps.length) (hml : m ≤ 9223372036854775807)
    (w : World) (hP : Recs 3 (.slice la m mc) (ps.map putC) w) :
    Calls Try.prog 3 #[.int .i64 lanes, .int .i64 room, .slice la m mc] w fun e w' => e = .returned (.bool true) ∧ Sm (fun _ => False) w w' := by
  obtain ⟨i0, hi, hz0, hz1, hz2⟩ := info_parts info_int
  have Hi0 := Lib.hid hi
  have Hz0 := Lib.hid (show i0.zero = some (.int .i64 0) ∧ i0.size = 1 ∧ i0.bytes = 8 from ⟨hz0, hz1, hz2⟩)
  clear hi hz0 hz1 hz2
  obtain ⟨i1, hi, hz0, hz1, hz2⟩ := info_parts info_ints
  have Hi1 := Lib.hid hi
  have Hz1 := Lib.hid (show i1.zero = some (.slice none 0 0) ∧ i1.size = 1 ∧ i1.bytes = 24 from ⟨hz0, hz1, hz2⟩)
  clear hi hz0 hz1 hz2
  have HPS := Lib.hid hps
  have HM := Lib.hid hm
  have HP := Lib.hid hP
  clear hps hm hP
  by_cases hok : okOrd lanes room
  · obtain ⟨n, rfl⟩ : ∃ n : Nat, lanes = (n : Int) := ⟨lanes.toNat, by have := hok.1; omega⟩
    obtain ⟨r, rfl⟩ : ∃ r : Nat, room = (r : Int) := ⟨room.toNat, by have := hok.2.2.1; omega⟩
    have hn0 : 0 < n := by have := hok.1; omega
    have hn16 : n ≤ 16 := by have := hok.2.1; omega
    have hr4 : r ≤ 4096 := by have := hok.2.2.2; omega
    clear hok
    go_enter Try.func3, Try.ntmps3
    go_wp2_with fail
    refine (neworder_ok n r hn0 hn16 hr4 w).mono ?_
    rintro e w1 ⟨rfl, hs1, ho1⟩
    go_wp2_with fail
    refine (rneworder_ok n r hn0 hn16 hr4 w1).mono ?_
    rintro e w2 ⟨rfl, hs2, hr2⟩
    have ho2 := ho1.sm hs2 (fun h => h) (fun h => h) (fun h => h)
    obtain ⟨O, hO⟩ : ∃ O, O = w.heap.size + 2 := ⟨_, rfl⟩
    obtain ⟨N, hN⟩ : ∃ N, N = w.heap.size := ⟨_, rfl⟩
    obtain ⟨M, hM⟩ : ∃ M, M = w.heap.size + 1 := ⟨_, rfl⟩
    obtain ⟨RO, hRO⟩ : ∃ RO, RO = w1.heap.size + 1 := ⟨_, rfl⟩
    obtain ⟨RN, hRN⟩ : ∃ RN, RN = w1.heap.size := ⟨_, rfl⟩
    obtain ⟨BR, hBR⟩ : ∃ BR, BR = w1.heap.size := ⟨_, rfl⟩
    obtain ⟨B, hB⟩ : ∃ B, B = w2.heap.size := ⟨_, rfl⟩
    have hl1 := ho1.rO.lt
    have hl2 := hr2.rO.lt
    have hls : LS B O N M BR RO RN r w 0 (List.replicate n 0) [] (List.replicate n 0) [] nilV nilV nilV [] [] [] [] [] w2 := by
      refine ⟨by rw [hO, hN, hM]; exact ho2, by rw [hRO, hRN, hBR]; exact hr2, World.ownsRow_nil _ _ _ _, World.ownsRow_nil _ _ _ _, (fun b h => by cases h), ⟨fun j _ h => absurd h (Nat.not_lt_zero _), fun j _ h => absurd h (Nat.not_lt_zero _), fun j _ _ h => absurd h (Nat.not_lt_zero _), fun j _ _ h => absurd h (Nat.not_lt_zero _)⟩, (hs1.trans hs2).mono (fun _ h => h.elim), ?_, ?_⟩ <;> omega
    rw [← hO, ← hRO]
    have HLS := Lib.hid hls
    have hBb : w.heap.size ≤ B := by omega
    clear hls ho1 ho2 hr2 hs1 hs2 hO hN hM hRO hRN hBR hB hl1 hl2
    go_wp2_with fail
    refine (waiting_c O N M _ r [] w2 HLS.out.od).mono ?_
    rintro e w3 ⟨rfl, rfl⟩
    go_upto_block 0 with fail
    go_cut [11, 12] from 13 (fun s11 s12 wx => ∃ (k : Nat) (ra rb : List Value) (os : List (List Int)), k ≤ 300 ∧ Hid (LT B w k 0 s11 s12 ra rb os wx) ∧ Hid (ra.length = k ∧ rb.length = k ∧ os.length = k ∧ ∀ o ∈ os, o.length ≤ 301))
    case first =>
      go_wp2_with fail
      go_loopw [11, 12, 13] (fun s11 s12 s13 wr => ∃ (i : Nat) (nx : List Nat) (ws : List Wt) (vW : Value) (ra rb : List Value) (os : List (List Int)), i ≤ m ∧ i ≤ 300 ∧ s13 = .int .i64 i ∧ Hid (LS B O N M BR RO RN r w i nx ws nx ws vW s11 s12 ra rb ra rb os wr) ∧ Hid (ra.length = i ∧ rb.length = i ∧ os.length = i ∧ (∀ y ∈ nx, y + ws.length ≤ i) ∧ ws.length ≤ i ∧ nx.length = n ∧ ∀ o ∈ os, o.length ≤ 301)) (fun s11 s12 s13 wr => m - (intOf s13).toNat)
      case atStart => exact ⟨0, List.replicate n 0, [], nilV, [], [], [], Nat.zero_le _, by omega, rfl, HLS, Lib.hid ⟨rfl, rfl, rfl, fun y hy => by rw [List.eq_of_mem_replicate hy]; exact Nat.le_refl _, Nat.le_refl _, List.length_replicate, fun o ho => by cases ho⟩⟩
      case round =>
        obtain ⟨i, nx, ws, vW, ra, rb, os, him, hi300, rfl, hS, hF⟩ := hrel
        obtain ⟨aA, cA, hvA⟩ := own_form0 hS.out.va
        subst hvA
        obtain ⟨aB, cB, hvB⟩ := own_form0 hS.out.vb
        subst hvB
        by_cases hlt : i < m ∧ i < 300
        · obtain ⟨hlt, hl3⟩ := hlt
          have j1 : (i : Int) < (m : Int) := by omega
          have j2 : (i : Int) < 300 := by omega
          have hips : i < ps.length := by rw [← HM.out]; exact hlt
          have hsm := hS.out.sm
          obtain ⟨a1, c1, e1, -, r1⟩ := HP.out
          obtain ⟨lb, lo, rfl, hlb, q1⟩ := r1 (by rw [List.length_map]; omega)
          simp only [Value.slice.injEq] at e1
          obtain ⟨rfl, -, rfl⟩ := e1
          have hr := q1 i (by rw [List.length_map]; exact hips)
          rw [List.getElem_map] at hr
          obtain ⟨p, hp⟩ : ∃ p, p = ps[i] := ⟨_, rfl⟩
          have hpo := HPS.out _ (List.getElem_mem hips)
          rw [← hp] at hr hpo
          obtain ⟨pa, pq, px⟩ := p
          have HC := Lib.hid (show ∀ (W : World), Sm (fun b => w.heap.size ≤ b) w W → W.cell? ⟨lb, lo + i * 3, none⟩ = some (.int .i64 pa) ∧ W.cell? ⟨lb, lo + i * 3 + 1, none⟩ = some (.int .u64 (pq : Int)) ∧ W.cell? ⟨lb, lo + i * 3 + 2, none⟩ = some (.int .i64 px) from fun W k =>
            ⟨(k.cell (p := ⟨lb, lo + i * 3, none⟩) hlb (by show ¬ w.heap.size ≤ lb; omega)).trans (hr 0 (.int .i64 pa) rfl), (k.cell (p := ⟨lb, lo + i * 3 + 1, none⟩) hlb (by show ¬ w.heap.size ≤ lb; omega)).trans (hr 1 (.int .u64 (pq : Int)) rfl), (k.cell (p := ⟨lb, lo + i * 3 + 2, none⟩) hlb (by show ¬ w.heap.size ≤ lb; omega)).trans (hr 2 (.int .i64 px) rfl)⟩)
          obtain ⟨hc0, hc1, hc2⟩ := HC.out wr hsm
          obtain ⟨ho1, ho2, ho3⟩ := hpo
          have HO3 := Lib.hid ho3
          have hpa : -9223372036854775808 ≤ pa ∧ pa < 9223372036854775808 := by
            simp [Lit.wf, IntKind.min, IntKind.max, IntKind.signed, IntKind.bits] at ho1
            omega
          have HPA := Lib.hid hpa
          have HPQ := Lib.hid (show pq < 18446744073709551616 from ho2)
          obtain ⟨f1, f2, f3, f4, f5, f6, f7⟩ := hF.out
          have HF1 := Lib.hid (show (∀ x ∈ nx, x + ws.length < 1000000) ∧ ws.length < 1000000 ∧ nx.length ≤ 16 from ⟨fun x hx => by have := f4 x hx; omega, by omega, by omega⟩)
          have HPN := Lib.hid (show wrap64 ((i : Int) + 1) = ((i + 1 : Nat) : Int) by unfold wrap64; omega)
          have HBND := Lib.hid (putL_bnd (room := r) (a := pa) (s := pq) (x := px) hS.out.od.nd f4 f5)
          have HND := Lib.hid hS.out.od.nd
          clear f1 f2 f3 f4 f5 f6 f7 hp ho1 ho2 ho3 hpa hr q1 r1 hsm
          obtain ⟨R, hR⟩ : ∃ R, R = putL nx r ws pa pq px := ⟨_, rfl⟩
          rw [← hR] at HBND
          have hsd : Sm (fun _ => False) wr wr.drew := (Sm.refl _ _).drew
          have HSD := Lib.hid (hS.out.fresh hsd)
          have hput := put_c O N M nx r ws wr.drew HSD.out.od HF1.out.1 HF1.out.2.1 hr4 pa HPA.out.1 HPA.out.2 pq HPQ.out px HO3.out
          rw [← hR] at hput
          have HPUT := Lib.hid hput
          have HRR := Lib.hid hR
          have k1 : (0 : Int) ≤ (i : Int) := Int.natCast_nonneg _
          clear hput hR hsd hS
          go_wp2_with fail
          go_region_held3 (fun w' => w'.cell? ⟨lb, lo + i * 3, none⟩ = some (.int .i64 pa) ∧ w'.cell? ⟨lb, lo + i * 3 + 1, none⟩ = some (.int .u64 (pq : Int)) ∧ w'.cell? ⟨lb, lo + i * 3 + 2, none⟩ = some (.int .i64 px)) (first | go_keep | exact hcs | assumption)
            (first | (go_at_call 13; refine HPUT.out.mono ?_; rintro e w2 ⟨va, rfl, hown2, hs2, ho2⟩; have hcs := HC.out w2 (HSD.out.put hs2 ho2).sm; obtain ⟨ava, cva, hva⟩ := own_form0 hown2; subst hva))
          obtain ⟨wd, hwd⟩ : ∃ wd, wd = wr.drew := ⟨_, rfl⟩
          rw [← hwd] at HSD hown2 hs2
          clear hwd HPUT
          have hsz2 := HSD.out.sz
          have HL2 := Lib.hid (HSD.out.put hs2 ho2)
          have HVA := Lib.hid hown2
          have HWD := Lib.hid (show B ≤ wd.heap.size ∧ wd.heap.size ≤ w2.heap.size from ⟨hsz2, hs2.size⟩)
          have HFD := Lib.hid (show (∀ j, j < i → ∀ b, (ra.getD j nilV).ownBlock = some b → b < wd.heap.size) ∧ (∀ j, j < i → ∀ b, (rb.getD j nilV).ownBlock = some b → b < wd.heap.size) from ⟨fun j hj b hb => ((HSD.out.fam.oa j (Nat.zero_le _) hj).lt b hb).2, fun j hj b hb => ((HSD.out.fam.ob j (Nat.zero_le _) hj).lt b hb).2⟩)
          obtain ⟨hc0, hc1, hc2⟩ := hcs
          clear hown2 ho2 hs2 hsz2 HSD
          have hsd : Sm (fun _ => False) w2 w2.drew := (Sm.refl _ _).drew
          have HL3 := Lib.hid (HL2.out.fresh hsd)
          have HVA3 := Lib.hid (own_sm HVA.out hsd (fun _ _ h => h))
          have hrput := rput_c BR RO RN nx r ws vW w2.drew HL3.out.rd HND.out HF1.out.1 HF1.out.2.1 HF1.out.2.2 pa HPA.out.1 HPA.out.2 pq HPQ.out px
          rw [← HRR.out] at hrput
          have HRPUT := Lib.hid hrput
          have HWD3 := Lib.hid (show B ≤ wd.heap.size ∧ wd.heap.size ≤ w2.drew.heap.size from ⟨HWD.out.1, Nat.le_trans HWD.out.2 hsd.size⟩)
          clear hrput hsd HVA HWD HL2
          go_wp2_with fail
          go_region_held3 (fun w' => w'.cell? ⟨lb, lo + i * 3, none⟩ = some (.int .i64 pa) ∧ w'.cell? ⟨lb, lo + i * 3 + 1, none⟩ = some (.int .u64 (pq : Int)) ∧ w'.cell? ⟨lb, lo + i * 3 + 2, none⟩ = some (.int .i64 px)) (first | go_keep | exact hcs | assumption)
            (first | (go_at_call 14; refine HRPUT.out.mono ?_; rintro e w4 ⟨vb, vW2, rfl, hown4, hs4, hr4⟩; have hcs := HC.out w4 (HL3.out.rput hs4 hr4).sm; obtain ⟨avb, cvb, hvb⟩ := own_form0 hown4; subst hvb))
          obtain ⟨w3, hw3⟩ : ∃ w3, w3 = w2.drew := ⟨_, rfl⟩
          rw [← hw3] at HL3 hown4 hs4 HVA3 HWD3
          clear hw3 HRPUT hcs hc0 hc1 hc2
          have HL4 := Lib.hid (HL3.out.rput hs4 hr4)
          have HVA4 := Lib.hid (own_keep HVA3.out hs4 (HL3.out.rd.apart HVA3.out (by decide) (by decide) (by decide)))
          have HVAB := Lib.hid (show ∀ b, (Value.slice ava R.out.length cva).ownBlock = some b → wd.heap.size ≤ b ∧ b < w3.heap.size from fun b hb => HVA3.out.lt b hb)
          have HVB4 := Lib.hid hown4
          have HW34 := Lib.hid hs4.size
          have HVBB := Lib.hid (show ∀ b, (Value.slice avb R.out.length cvb).ownBlock = some b → w3.heap.size ≤ b from fun b hb => (hown4.lt b hb).1)
          clear hown4 hs4 hr4 HL3 HVA3
          have HOL := Lib.hid (show R.out.length ≤ 1000000 by have := HBND.out.2.2.2; omega)
          have HIA := Lib.hid (show ∀ W : World, Sm (fun _ => False) w4 W → Ints (.slice ava R.out.length cva) R.out W from fun W k => ints_own (own_sm HVA4.out k (fun _ _ h => h)))
          have HIB := Lib.hid (show ∀ W : World, Sm (fun _ => False) w4 W → Ints (.slice avb R.out.length cvb) R.out W from fun W k => ints_own (own_sm HVB4.out k (fun _ _ h => h)))
          have HRO2 := Lib.hid (show ∀ W : World, Sm (fun _ => False) w4 W → W.cell? ⟨RO, 2, none⟩ = some vW2 from fun W k => (HL4.out.fresh k).rd.rO.cell 2)
          obtain ⟨avw, cvw, hvw⟩ := own_form0 HL4.out.rd.own
          subst hvw
          have hsdr : Sm (fun _ => False) w4 w4.drew := (Sm.refl _ _).drew
          have HSDR := Lib.hid hsdr
          clear hsdr
          go_wp2_with fail
          have hc4 : w4.cell? ⟨RO, 2, none⟩ = some (.slice avw R.ws.length cvw) := HRO2.out w4 (Sm.refl _ _)
          go_region_held3 (fun w' => w'.cell? ⟨RO, 2, none⟩ = some (.slice avw R.ws.length cvw)) (first | go_keep | exact hc5 | assumption)
            (first | (go_at_call 15; refine (sameInts_c _ _ R.out R.out HOL.out HOL.out _ (HIA.out _ HSDR.out) (HIB.out _ HSDR.out)).mono ?_; rintro e w5 ⟨rfl, hs5⟩; have HS5 := Lib.hid (HSDR.out.trans hs5); have hc5 := HRO2.out w5 HS5.out; clear hs5) | (go_at_call 12; refine (waiting_c O N M _ r _ _ (HL4.out.fresh HS5.out).od).mono ?_; rintro e w' ⟨rfl, rfl⟩))
          have HL5 := Lib.hid (HL4.out.fresh HS5.out)
          have HVA5 := Lib.hid (own_sm HVA4.out HS5.out (fun _ _ h => h))
          have HVB5 := Lib.hid (own_sm HVB4.out HS5.out (fun _ _ h => h))
          have HW35 := Lib.hid (Nat.le_trans HW34.out HS5.out.size)
          have hbs5 : B ≤ w5.heap.size := HL5.out.sz
          have HBS5 := Lib.hid hbs5
          clear hbs5 HL4 HVA4 HVB4 HS5 HIA HIB HRO2 HSDR hc4 hc5
          have HLEN := Lib.hid (show ra.length ≤ 300 ∧ rb.length ≤ 300 by have := hF.out.1; have := hF.out.2.1; omega)
          go_wp2_with (at_builtin; refine wpList_append_lies _ rfl (.tmp 114) (.tmp 116) 32 rfl B 33 i1 (.slice none 0 0) 1 24 Try.underlying32 Hi1.out Hz1.out.1 Hz1.out.2.1 Hz1.out.2.2 rfl (by decide) _ ra.length ra (by rfl) (HL5.out.va.alloc _) ⟨w5.heap.size, 0, none⟩ 1 1 [.slice ava R.out.length cva] (by rfl) (by rfl) (new_cells w5 [.slice ava R.out.length cva] 33) (by simp [Value.oneCell']) (by decide) (by have := HLEN.out; unfold maxLen; omega) (by have := HLEN.out; omega) (by have := HBS5.out; simp; omega) (w5.heap.size + 1) (by simp) ?_)
          intro gA cA2 w6 hown6 hgr6 hat6 hlt6
          have hal : Sm (fun _ => False) w5 (w5.alloc (.cells #[.slice ava R.out.length cva] 33 (0, 0))) := (Sm.refl _ _).alloc _
          have HL6 := Lib.hid ((HL5.out.fresh hal).growA (xa' := ra ++ [.slice ava R.out.length cva]) hgr6 (by simpa using hown6) (ap_lies hat6 HL5.out.ne (fun b hb => by have := (HL5.out.vb.lt b hb).2; omega)))
          have HVA6 := Lib.hid (own_apart (HVA5.out.alloc (.cells #[.slice ava R.out.length cva] 33 (0, 0))) hgr6 (own_ne HL5.out.va HVA5.out (by decide)))
          have HVB6 := Lib.hid (own_apart (HVB5.out.alloc (.cells #[.slice ava R.out.length cva] 33 (0, 0))) hgr6 (own_ne HL5.out.va HVB5.out (by decide)))
          have hbs6 : B ≤ w6.heap.size := HL6.out.sz
          have HBS6 := Lib.hid hbs6
          clear hbs6 hal hown6 hgr6 hat6 hlt6 HL5 HVA5 HVB5 HBS5
          go_wp2_with (at_builtin; refine wpList_append_lies _ rfl (.tmp 118) (.tmp 120) 32 rfl B 33 i1 (.slice none 0 0) 1 24 Try.underlying32 Hi1.out Hz1.out.1 Hz1.out.2.1 Hz1.out.2.2 rfl (by decide) _ rb.length rb (by rfl) (HL6.out.vb.alloc _) ⟨w6.heap.size, 0, none⟩ 1 1 [.slice avb R.out.length cvb] (by rfl) (by rfl) (new_cells w6 [.slice avb R.out.length cvb] 33) (by simp [Value.oneCell']) (by decide) (by have := HLEN.out; unfold maxLen; omega) (by have := HLEN.out; omega) (by have := HBS6.out; simp; omega) (w6.heap.size + 1) (by simp) ?_)
          intro gB cB2 w7 hown7 hgr7 hat7 hlt7
          have hal : Sm (fun _ => False) w6 (w6.alloc (.cells #[.slice avb R.out.length cvb] 33 (0, 0))) := (Sm.refl _ _).alloc _
          have hl7 := (HL6.out.fresh hal).growB (xb' := rb ++ [.slice avb R.out.length cvb]) hgr7 (by simpa using hown7) (ap_lies hat7 HL6.out.ne.symm (fun b hb => by have := (HL6.out.va.lt b hb).2; omega)).symm
          have hva7 := own_apart (HVA6.out.alloc (.cells #[.slice avb R.out.length cvb] 33 (0, 0))) hgr7 (own_ne HL6.out.vb HVA6.out (by decide))
          have hvb7 := own_apart (HVB6.out.alloc (.cells #[.slice avb R.out.length cvb] 33 (0, 0))) hgr7 (own_ne HL6.out.vb HVB6.out (by decide))
          obtain ⟨f1, f2, f3, f4, f5, f6, f7⟩ := hF.out
          have hw3 := HWD3.out
          have hfam := Fam.more hl7.fam f1 f2 f3 (own_base hva7 hw3.1) (own_base hvb7 (Nat.le_trans hw3.1 hw3.2)) ⟨wd.heap.size, w3.heap.size, HVAB.out, HVBB.out, HFD.out.1, HFD.out.2, hw3.2⟩
          have n1 : Hid (LS B O N M BR RO RN r w (i + 1) R.nx R.ws R.nx R.ws (.slice avw R.ws.length cvw) (.slice (some ⟨gA, 0, none⟩) (ra.length + 1) cA2) (.slice (some ⟨gB, 0, none⟩) (rb.length + 1) cB2) (ra ++ [.slice ava R.out.length cva]) (rb ++ [.slice avb R.out.length cvb]) (ra ++ [.slice ava R.out.length cva]) (rb ++ [.slice avb R.out.length cvb]) (os ++ [R.out]) w7) :=
            Lib.hid ⟨hl7.od, hl7.rd, hl7.va, hl7.vb, hl7.ne, hfam, hl7.sm, hl7.ob, hl7.sz⟩
          have n2 : Hid ((ra ++ [Value.slice ava R.out.length cva]).length = i + 1 ∧ (rb ++ [Value.slice avb R.out.length cvb]).length = i + 1 ∧ (os ++ [R.out]).length = i + 1 ∧ (∀ y ∈ R.nx, y + R.ws.length ≤ i + 1) ∧ R.ws.length ≤ i + 1 ∧ R.nx.length = n ∧ ∀ o ∈ os ++ [R.out], o.length ≤ 301) :=
            Lib.hid ⟨by simp [f1], by simp [f2], by simp [f3], HBND.out.1, HBND.out.2.1, HBND.out.2.2.1.trans f6, fun o ho => by
              rcases List.mem_append.1 ho with h | h
              · exact f7 o h
              · have := HBND.out.2.2.2
                simp at h
                subst h
                omega⟩
          clear hal hl7 hva7 hvb7 f1 f2 f3 f4 f5 f6 f7 hw3 hfam hown7 hgr7 hat7 hlt7 HL6 HVA6 HVB6 HBS6 HLEN HFD HVAB HVBB HWD3 HBND hF HW34 HW35
          go_wp2_with fail
          go_roundw
          case rel => exact ⟨i + 1, R.nx, R.ws, _, _, _, _, by omega, by omega, by first | rw [HPN.out] | go_num, n1, n2⟩
          case measure => (try rw [HPN.out]); simp only [intOf]; omega
        · have hex : ¬ ((i : Int) < (m : Int)) ∨ ((i : Int) < (m : Int) ∧ ¬ (i : Int) < 300) := by omega
          obtain ⟨f1, f2, f3, f4, f5, f6, f7⟩ := hF.out
          have hva := hS.out.va
          have hvb := hS.out.vb
          have hob := hS.out.ob
          have hge := hS.out.rd.ge
          rw [f1] at hva
          rw [f2] at hvb
          have HEND := Lib.hid (show LT B w i 0 (.slice aA i cA) (.slice aB i cB) ra rb os wr from ⟨hva, hvb, by have := hS.out.ne; rwa [f1, f2] at this, hS.out.fam, hS.out.sm, by omega⟩)
          have HLE := Lib.hid (show ra.length = i ∧ rb.length = i ∧ os.length = i ∧ ∀ o ∈ os, o.length ≤ 301 from ⟨f1, f2, f3, f7⟩)
          rw [f1, f2]
          clear hva hvb hob hge f1 f2 f3 f4 f5 f6 f7 hF hS hlt
          rcases hex with j1 | ⟨j1, j2⟩
          all_goals
            go_wp2_with fail
            go_meet
            case rel => exact ⟨i, ra, rb, os, hi300, HEND, HLE⟩
    case rest =>
      obtain ⟨k, ra, rb, os, hk, hT, hL⟩ := hcut
      obtain ⟨aA, cA, hvA⟩ := own_form0 hT.out.va
      subst hvA
      obtain ⟨aB, cB, hvB⟩ := own_form0 hT.out.vb
      subst hvB
      go_wp2_with fail
      go_loopw [18] (fun s18 wr => ∃ (i : Nat) (ra : List Value), i ≤ k ∧ s18 = .int .i64 i ∧ Hid (LT B w k i (.slice aA k cA) (.slice aB k cB) ra rb os wr) ∧ Hid (ra.length = k)) (fun s18 wr => k - (intOf s18).toNat)
      case atStart => exact ⟨0, ra, Nat.zero_le _, rfl, hT, Lib.hid hL.out.1⟩
      case round =>
        clear hT
        obtain ⟨i, ra, hik, rfl, hT, hral⟩ := hrel
        by_cases hlt : i < k
        · have j1 : (i : Int) < (k : Int) := by omega
          have k1 : (0 : Int) ≤ (i : Int) := Int.natCast_nonneg _
          obtain ⟨a', c', e', -, -, hrA⟩ := own_reads (by decide) hT.out.va
          simp only [Value.slice.injEq] at e'
          obtain ⟨rfl, -, rfl⟩ := e'
          obtain ⟨gA, rfl, -, -, hcA⟩ := hrA (by omega)
          obtain ⟨a', c', e', -, -, hrB⟩ := own_reads (by decide) hT.out.vb
          simp only [Value.slice.injEq] at e'
          obtain ⟨rfl, -, rfl⟩ := e'
          obtain ⟨gB, rfl, -, -, hcB⟩ := hrB (by omega)
          have hra := hral.out
          have hrb := hL.out.2.1
          have hca : wr.cell? ⟨gA, i, none⟩ = some (ra.getD i nilV) := hcA i _ (by simp [List.getD, show i < ra.length by omega])
          have hcb : wr.cell? ⟨gB, i, none⟩ = some (rb.getD i nilV) := hcB i _ (by simp [List.getD, show i < rb.length by omega])
          have hoa := hT.out.fam.oa i (Nat.le_refl _) hlt
          have hob := hT.out.fam.ob i (Nat.le_refl _) hlt
          obtain ⟨ai, ci, hai⟩ := own_form0 hoa
          obtain ⟨bi, di, hbi⟩ := own_form0 hob
          rw [hai] at hca
          rw [hbi] at hcb
          obtain ⟨out, hout⟩ : ∃ out, out = os.getD i [] := ⟨_, rfl⟩
          rw [hai, ← hout] at hoa
          rw [hbi, ← hout] at hob
          rw [← hout] at hca hcb hai
          have hol : out.length ≤ 301 := by
            have := hL.out.2.2.2
            rw [hout, List.getD_eq_getElem?_getD]
            cases h : os[i]? with
            | none => exact Nat.zero_le _
            | some z => exact this z (List.mem_of_getElem? h)
          have HLC := Lib.hid (hT.out.at hlt)
          rw [← hout] at HLC
          have hsdr : Sm (fun _ => False) wr wr.drew := (Sm.refl _ _).drew
          have HIA := Lib.hid (ints_own (own_sm hoa hsdr (fun _ _ h => h)))
          have HIB := Lib.hid (ints_own (own_sm hob hsdr (fun _ _ h => h)))
          have HCK := Lib.hid (show ∀ W : World, Sm (fun _ => False) wr W → W.cell? ⟨gA, i, none⟩ = some (.slice ai out.length ci) ∧ W.cell? ⟨gB, i, none⟩ = some (.slice bi out.length di) from fun W kk => ⟨(kk.cell (World.block_lt_of_cell? wr _ hca) (fun h => h)).trans hca, (kk.cell (World.block_lt_of_cell? wr _ hcb) (fun h => h)).trans hcb⟩)
          have HSD := Lib.hid hsdr
          have HAI := Lib.hid hai
          have HOL := Lib.hid (show out.length ≤ 1000000 by omega)
          clear hcA hcB hrA hrB hra hrb hoa hob hbi hai hout hT hsdr
          go_wp2_with fail
          go_region_held3 (fun w' => w'.cell? ⟨gA, i, none⟩ = some (.slice ai out.length ci) ∧ w'.cell? ⟨gB, i, none⟩ = some (.slice bi out.length di)) (first | go_keep | exact hck | assumption)
            (first | (go_at_call 15; refine (sameInts_c _ _ out out HOL.out HOL.out _ HIA.out HIB.out).mono ?_; rintro e w5 ⟨rfl, hs5⟩; have hck := HCK.out w5 (HSD.out.trans hs5)))
          have HC5 := Lib.hid (HLC.out.fresh (HSD.out.trans hs5))
          clear hs5 hck hca hcb HCK HIA HIB HLC HSD
          go_wp2_with fail
          obtain ⟨vi, hvi⟩ : ∃ vi, vi = ra.getD i nilV := ⟨_, rfl⟩
          have HOL3 := Lib.hid hol
          clear hol
          go_loopw [19] (fun s19 wx => ∃ q : Nat, q ≤ out.length ∧ s19 = .int .i64 q ∧ Hid (LC B w k i out.length (.slice (some ⟨gA, 0, none⟩) k cA) (.slice (some ⟨gB, 0, none⟩) k cB) ra rb os wx)) (fun s19 wx => out.length - (intOf s19).toNat)
          case atStart => exact ⟨0, Nat.zero_le _, rfl, HC5⟩
          case round =>
            clear HC5 hvi
            obtain ⟨q, hq, rfl, hC⟩ := hrel
            obtain ⟨a', c', e', -, -, hrA⟩ := own_reads (by decide) hC.out.lt.va
            simp only [Value.slice.injEq] at e'
            obtain ⟨e1, -, -⟩ := e'
            obtain ⟨g', hg', -, -, hcA⟩ := hrA (by omega)
            rw [← e1] at hg'
            simp only [Option.some.injEq, Addr.mk.injEq] at hg'
            obtain ⟨rfl, -⟩ := hg'
            have hra := hral.out
            have hca : wr.cell? ⟨gA, i, none⟩ = some (ra.getD i nilV) := hcA i _ (by simp [List.getD, show i < ra.length by omega])
            rw [HAI.out] at hca
            clear hcA hrA e1 hra
            by_cases hqlt : q < out.length
            · have j2 : (q : Int) < (out.length : Int) := by omega
              have k2 : (0 : Int) ≤ (q : Int) := Int.natCast_nonneg _
              obtain ⟨xs, hx⟩ := hC.out.cur
              rw [HAI.out] at hx
              obtain ⟨a', c', e', -, hxl, hrx⟩ := own_reads (by decide) hx
              simp only [Value.slice.injEq] at e'
              obtain ⟨rfl, -, rfl⟩ := e'
              obtain ⟨gi, rfl, -, -, hcx⟩ := hrx (by omega)
              have hcq : wr.cell? ⟨gi, q, none⟩ = some (xs[q]'(by omega)) := hcx q _ (List.getElem?_eq_getElem (by omega))
              have hfq : wr.frozen? ⟨gi, q, none⟩ = false := hx.frozenAt q
              have HN := Lib.hid (hC.out.spoil HAI.out q (.int .i64 (-5)))
              have HPQ := Lib.hid (show wrap64 ((q : Int) + 1) = ((q + 1 : Nat) : Int) by have := HOL3.out; unfold wrap64; omega)
              obtain ⟨uq, huq⟩ : ∃ uq, uq = xs[q]'(by omega) := ⟨_, rfl⟩
              rw [← huq] at hcq
              clear hcx hrx hxl hC huq hx
              go_wp2_with fail
              go_roundw
              case rel => exact ⟨q + 1, by omega, by first | rw [HPQ.out] | go_num, HN⟩
              case measure => (try rw [HPQ.out]); simp only [intOf]; omega
            · obtain rfl : q = out.length := by omega
              go_wp2_with fail
              go_loopw [20] (fun s20 wx => ∃ (q mm : Nat) (ra : List Value), q ≤ 9 ∧ s20 = .int .i64 q ∧ Hid (mm = out.length + q) ∧ Hid (LC B w k i mm (.slice (some ⟨gA, 0, none⟩) k cA) (.slice (some ⟨gB, 0, none⟩) k cB) ra rb os wx) ∧ Hid (ra.length = k)) (fun s20 wx => 9 - (intOf s20).toNat)
              case atStart => exact ⟨0, out.length, ra, by omega, rfl, Lib.hid rfl, hC, hral⟩
              case round =>
                clear hC hca HAI hral
                obtain ⟨q, mm, ra, hq, rfl, HMM, hC, hral⟩ := hrel
                have hra := hral.out
                by_cases hq9 : q < 9
                · have j3 : (q : Int) < 9 := by omega
                  obtain ⟨a', c', e', -, -, hrA⟩ := own_reads (by decide) hC.out.lt.va
                  simp only [Value.slice.injEq] at e'
                  obtain ⟨e1, -, -⟩ := e'
                  obtain ⟨g', hg', -, hgl, hcA⟩ := hrA (by omega)
                  rw [← e1] at hg'
                  simp only [Option.some.injEq, Addr.mk.injEq] at hg'
                  obtain ⟨rfl, -⟩ := hg'
                  have hca : wr.cell? ⟨gA, i, none⟩ = some (ra.getD i nilV) := hcA i _ (by simp [List.getD, show i < ra.length by omega])
                  obtain ⟨xs, hx⟩ := hC.out.cur
                  obtain ⟨ai, ci, hai⟩ := own_form0 hx
                  rw [hai] at hca
                  have hBw : B ≤ wr.heap.size := by have := (hC.out.lt.va.lt gA rfl).1; omega
                  have HX := Lib.hid (show wr.ownsRow B 3 1 (.slice ai mm ci) mm xs by rw [← hai]; exact hx)
                  have HAI := Lib.hid hai
                  have HBW2 := Lib.hid hBw
                  have HMB := Lib.hid (show mm + 1 ≤ maxLen ∧ (mm + 1) * 8 ≤ 140737488355328 by have := HOL3.out; have := HMM.out; unfold maxLen; omega)
                  have HPQ := Lib.hid (show wrap64 ((q : Int) + 1) = ((q + 1 : Nat) : Int) by unfold wrap64; omega)
                  clear hcA hrA e1 hx hai hBw hra
                  go_wp2_with (at_builtin; refine wpList_append_lies _ rfl (.tmp 162) (.tmp 163) 33 rfl B 3 i0 (.int .i64 0) 1 8 Try.underlying33 Hi0.out Hz0.out.1 Hz0.out.2.1 Hz0.out.2.2 rfl (by decide) _ mm xs (by rfl) (HX.out.alloc _) ⟨wr.heap.size, 0, none⟩ 1 1 [.int .i64 (-6)] (by rfl) (by rfl) (new_cells wr [.int .i64 (-6)] 3) (by simp [Value.oneCell']) (by decide) HMB.out.1 HMB.out.2 (by have := HBW2.out; simp; omega) (wr.heap.size + 1) (by simp) ?_)
                  intro g6 c6 w6 hown6 hgr6 hat6 hlt6
                  have hal : Sm (fun _ => False) wr (wr.alloc (.cells #[.int .i64 (-6)] 3 (0, 0))) := (Sm.refl _ _).alloc _
                  have hC2 := hC.out.fresh hal
                  have hva6 := own_apart hC2.lt.va hgr6 (own_ne (HX.out.alloc (.cells #[.int .i64 (-6)] 3 (0, 0))) hC2.lt.va (by decide))
                  obtain ⟨a', c', e', -, -, hrA⟩ := own_reads (by decide) hva6
                  simp only [Value.slice.injEq] at e'
                  obtain ⟨e1, -, -⟩ := e'
                  obtain ⟨g', hg', -, -, hcA⟩ := hrA (by omega)
                  rw [← e1] at hg'
                  simp only [Option.some.injEq, Addr.mk.injEq] at hg'
                  obtain ⟨rfl, -⟩ := hg'
                  have hca6 : w6.cell? ⟨gA, i, none⟩ = some (ra.getD i nilV) := hcA i _ (by have := hral.out; simp [List.getD, show i < ra.length by omega])
                  rw [HAI.out] at hca6
                  have hfa6 : w6.frozen? ⟨gA, i, none⟩ = false := hva6.frozenAt i
                  have HN := Lib.hid (hC2.grow rfl hral.out hlt (by rw [HAI.out]; exact hgr6) hown6 (by rw [HAI.out, World.size_alloc]; exact hat6))
                  have HRL := Lib.hid (show (ra.set i (.slice (some ⟨g6, 0, none⟩) (mm + 1) c6)).length = k by rw [List.length_set]; exact hral.out)
                  clear hcA hrA e1 hva6 hC2 hal hown6 hgr6 hat6 hlt6 hC hca HX
                  go_wp2_with fail
                  have HMM2 := Lib.hid (show mm + 1 = out.length + (q + 1) by rw [HMM.out, Nat.add_assoc])
                  go_roundw
                  case rel => exact ⟨q + 1, mm + 1, _, by omega, by first | rw [HPQ.out] | go_num, HMM2, HN, HRL⟩
                  case measure => (try rw [HPQ.out]); simp only [intOf]; omega
                · obtain rfl : q = 9 := by omega
                  have HN := Lib.hid hC.out.lt
                  have HPI := Lib.hid (show wrap64 ((i : Int) + 1) = ((i + 1 : Nat) : Int) by unfold wrap64; omega)
                  clear hC
                  go_wp2_with fail
                  go_roundw
                  case rel => exact ⟨i + 1, ra, by omega, by first | rw [HPI.out] | go_num, HN, hral⟩
                  case measure => (try rw [HPI.out]); simp only [intOf]; omega
        · have j1 : ¬ (i : Int) < (k : Int) := by omega
          have HSM := Lib.hid hT.out.sm
          clear hT
          go_wp2_with fail
          refine (works_c wr).mono ?_
          rintro e w9 ⟨rfl, hs9⟩
          have HSM9 := Lib.hid (HSM.out.trans (hs9.mono (fun _ h => h.elim)))
          clear hs9 HSM
          go_wp2
          go_ret
          exact ⟨rfl, Sm.new HSM9.out (fun b hb => hb)⟩
  · go_enter Try.func3, Try.ntmps3
    go_wp2_with fail
    refine (lneworder_bad lanes room hok w).mono ?_
    rintro e w1 ⟨rfl, rfl⟩
    go_wp2_with fail
    refine (rneworder_bad lanes room hok w).mono ?_
    rintro e w1 ⟨rfl, rfl⟩
    go_wp2_with fail
    refine (works_c w).mono ?_
    rintro e w1 ⟨rfl, hs1⟩
    go_wp2
    go_ret
    exact ⟨rfl, hs1⟩
end Go.Proofs.Ythjdnhlckjchgaa
