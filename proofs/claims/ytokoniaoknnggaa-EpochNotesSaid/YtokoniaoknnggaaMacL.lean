/- The reference machine: thread.on is onF. -/
import Derived.Test.YtokoniaoknnggaaMacK
namespace Go.Proofs.Ytokoniaoknnggaa
open Go.RowKit
set_option linter.unusedVariables false
set_option linter.unusedSimpArgs false

theorem begun_call (s : MS) : (begun s).call = s.call := by unfold begun; split <;> rfl
theorem begun_at (s : MS) : (begun s).at_ = s.at_ := by unfold begun; split <;> rfl
theorem begun_lt (s : MS) (h : s.call ≤ s.ans.length) : (begun s).call < (begun s).ans.length := by
  unfold begun
  split
  · next e => simp; omega
  · next e => show s.call < s.ans.length; omega
theorem begun_over (s : MS) : (begun s).over = s.over := by unfold begun; split <;> rfl
theorem ownS_d {x : In} {s s' : MS} (h : ownS x s = some s') : x.d < 1000 := by
  unfold ownS at h
  split at h
  · split at h
    all_goals first | omega | cases h
  · cases h
theorem ownS_call {x : In} {s s' : MS} (h : ownS x s = some s') : s'.call = s.call ∧ s'.ans.length = s.ans.length := by
  unfold ownS at h
  split at h
  · split at h
    any_goals (cases h; exact ⟨rfl, rfl⟩)
    any_goals (split at h <;> first | (cases h; exact ⟨rfl, rfl⟩) | cases h)
    · split at h
      · split at h
        · cases h
          exact ⟨rfl, by simp⟩
        · cases h
      · cases h
    · cases h
  · cases h
theorem own_unique {w : World} {base : Nat} {e : TypeId} {size : Nat} {v : Value} {n : Nat} {xs ys : List Value} (h : w.ownsRow base e size v n xs) (k : w.ownsRow base e size v n ys) : xs = ys := by
  obtain ⟨h1, h2⟩ := h
  obtain ⟨k1, k2⟩ := k
  rcases h2 with ⟨rfl, rfl⟩ | ⟨g, cap, cur, rfl, hg, hh, r1, r2, r3, r4⟩
  · simp at h1 k1
    rw [h1, k1]
  · rcases k2 with ⟨e1, -⟩ | ⟨g', cap', cur', e1, hg', hh', r1', r2', r3', r4'⟩
    · cases e1
    · cases e1
      rw [hh] at hh'
      cases hh'
      rw [← r4, ← r4']
theorem begin_end {B T : Nat} {vc : Value} {F : Nat → Prop} {s : MS} {wr wa w4 : World} {va v' : Value} {vts : List Value} (hT : TI B T vc F s wr) (hthr : Thr T vc s.call s.at_ s.r va s.over wr) (hans : Ans B F va s.ans wr) (e : s.ans.length = s.call) (hfew : s.ans.length + 1 < 100000)
    (ho1 : wr.ownsRow B 113 2 va s.ans.length (ansL s.ans vts)) (ka : Sm (fun _ => False) wr wa) (hg : wa.grownBy w4 va.ownBlock) (ho : w4.ownsRow B 113 2 v' (s.ans.length + 1) (ansL s.ans vts ++ [.bool false, .slice none 0 0]))
    (hat : v'.ownBlock = va.ownBlock ∨ v'.ownBlock = some wa.heap.size) : OwnEnd B T vc F (begun s) wr (w4.setCell ⟨T, 27, none⟩ v') := by
  have hb : begun s = { s with ans := s.ans ++ [(false, [])] } := by unfold begun; rw [if_pos e]
  have kg : Sm (fun b => va.ownBlock = some b) wa w4 := sm_grown hg (fun b e => e)
  have hans2 := hans.sm ka (fun _ _ h => h)
  have hsn := hans2.snoc kg (hat.imp_right fun h => ⟨_, h, Nat.le_refl _⟩) (fun vts' _ h' => by
    have := own_unique (own_smF ho1 ka (fun _ _ h => h)) h'
    rwa [← this])
  have hthr2 := hthr.sm ka (fun h => h)
  have hthr3 := hthr2.sm kg (fun h => by
    obtain ⟨cc, e2⟩ := own_type2 (own_smF ho1 ka (fun _ _ h => h)) T h
    have hr := hthr2.row
    unfold Row at hr
    rw [hr] at e2
    simp at e2)
  have kT : Sm (fun b => b = T) w4 (w4.setCell ⟨T, 27, none⟩ v') := Sm.setCell (F := fun b => b = T) (p := ⟨T, 27, none⟩) (Sm.refl _ _) rfl _
  have hall : Sm F wr (w4.setCell ⟨T, 27, none⟩ v') := ((ka.mono (F' := F) (fun _ h => h.elim)).trans (kg.mono (fun b h => hans.own b h))).trans (kT.mono (fun b h => h ▸ hT.mem))
  rw [hb]
  refine ⟨fun b => F b ∨ wa.heap.size ≤ b ∧ b < w4.heap.size, ⟨⟨v', hthr3.setAns v', hsn.smT hthr3.row kT⟩, ?_, .inl hT.mem, hT.regs, by simpa using hfew⟩, hall, ?_⟩
  · rintro b (h | h)
    · exact ⟨(hT.blk b h).1, Nat.lt_of_lt_of_le (hT.blk b h).2 hall.size⟩
    · have := hT.blk T hT.mem
      have := ka.size
      exact ⟨by omega, by simpa [World.setCell] using h.2⟩
  · rintro b (h | h)
    · exact .inl h
    · have := ka.size
      exact .inr (by omega)
theorem info_ans : (Try.prog.info? 113).map (fun i => (i.zero, i.size, i.bytes)) = some (some (.agg #[.bool false, .slice none 0 0]), 2, 32) := by kernel_rfl
set_option maxRecDepth 100000 in
set_option maxHeartbeats 6400000 in
theorem on_c (B T : Nat) (vc : Value) (calls : List (List In × List Nat)) (F : Nat → Prop) (s s' : MS) (n : Nat) (pw : Value) (w : World) (hB : B ≤ w.heap.size) (hT : TI B T vc F s w) (hC : CallsB B vc calls w) (hle : s.call ≤ s.ans.length) (hrun : onF calls n s = some s') :
    Calls Try.prog 51 #[.pointer (some ⟨T, 0, none⟩), pw] w fun e w' => e = .returned (.tuple #[]) ∧ OwnEnd B T vc F s' w w' := by
  obtain ⟨ac, cc, hvc⟩ := hC.form
  subst hvc
  obtain ⟨Q, hQ⟩ : ∃ Q : World → Nat → Prop, ∀ wr m, Q wr m ↔ ∃ s1, onF calls m s1 = some s' ∧ s1.call ≤ s1.ans.length ∧ OwnEnd B T (.slice ac calls.length cc) F s1 w wr := ⟨_, fun _ _ => Iff.rfl⟩
  have h0 : Q w n := (hQ w n).2 ⟨s, hrun, hle, hT.own⟩
  have HQ := Lib.hid hQ
  have HC := Lib.hid hC
  have HBLK := Lib.hid (show ∀ b, F b → B ≤ b from fun b hb => (hT.blk b hb).1)
  have HB := Lib.hid hB
  clear hQ hC hT hrun hle hB
  go_enter Try.func51, Try.ntmps51
  go_wp2_with fail
  go_loopw [] (fun wr => ∃ m, Q wr m) (fun wr => mu (Q wr))
  case atStart => exact ⟨n, h0⟩
  case round =>
    obtain ⟨m0, hm0⟩ := hrel
    have hm := mu_mem hm0
    have HMU := Lib.hid (rfl : mu (Q wr) = mu (Q wr))
    obtain ⟨m, hmeq⟩ : ∃ m, m = mu (Q wr) := ⟨_, rfl⟩
    rw [← hmeq] at hm
    have HME := Lib.hid hmeq
    obtain ⟨s1, hr1, hle1, F1, hT1, hsm1, hF1⟩ := (HQ.out wr m).1 hm
    obtain ⟨va, hthr, hans⟩ := hT1.ex
    have hC1 := HC.out.sm hsm1 HBLK.out
    have c28 : wr.cell? ⟨T, 28, none⟩ = some (.bool s1.over) := hthr.over
    have c1 : wr.cell? ⟨T, 1, none⟩ = some (.int .i64 (s1.call : Int)) := hthr.row.cell 1
    have c0 : wr.cell? ⟨T, 0, none⟩ = some (.slice ac calls.length cc) := hthr.row.cell 0
    cases m with
    | zero => cases hr1
    | succ k =>
      by_cases hov : s1.over = true
      · rw [hov] at c28
        have hs : s' = s1 := by simpa [onF, hov] using hr1.symm
        have HE := Lib.hid (show OwnEnd B T (.slice ac calls.length cc) F s' w wr from hs ▸ ⟨F1, hT1, hsm1, hF1⟩)
        clear hs hr1 hle1 hT1 hsm1 hF1 hthr hans hC1 hm hm0 h0
        go_wp2_with fail
        refine bodyPost_end (results_none rfl _ _ _) rfl ?_
        exact ⟨rfl, HE.out⟩
      · have hov2 : s1.over = false := by simpa using hov
        rw [hov2] at c28
        by_cases hcl : calls.length ≤ s1.call
        · have j1 : (calls.length : Int) ≤ (s1.call : Int) := by omega
          have j2 : decide (calls.length ≤ s1.call) = true := by simpa using hcl
          have hs : s' = { s1 with over := true } := by simpa [onF, hov2, hcl] using hr1.symm
          have f28 : wr.frozen? ⟨T, 28, none⟩ = false := hthr.row.free 28
          have HE : Hid (∀ q, OwnEnd B T (.slice ac calls.length cc) F s' w ((wr.drewN q).setCell ⟨T, 28, none⟩ (.bool true))) := Lib.hid fun q => by
            have k : Sm (fun b => b = T) wr ((wr.drewN q).setCell ⟨T, 28, none⟩ (.bool true)) := Sm.setCell (F := fun b => b = T) (p := ⟨T, 28, none⟩) ((Sm.refl _ _).drewN q) rfl _
            rw [hs]
            exact OwnEnd.step hsm1 hF1 ⟨F1, ⟨⟨va, (hthr.sm (F := fun _ => False) ((Sm.refl _ _).drewN q) (fun h => h)).setOver true, hans.smT hthr.row k⟩, fun b hb => ⟨(hT1.blk b hb).1, Nat.lt_of_lt_of_le (hT1.blk b hb).2 k.size⟩, hT1.mem, hT1.regs, hT1.few⟩, k.mono (fun b e => e ▸ hT1.mem), fun b hb => .inl hb⟩
          clear hr1 hle1 hT1 hsm1 hF1 hthr hans hC1 hm hm0 h0 hcl hs hov hov2
          go_wp2_with fail
          try simp only [Act.put]
          refine wp_region_quiet_lit (by kernel_rfl) (by kernel_rfl) ?_
          repeat (first
            | go_big_quiet_skip
            | (go_big_quiet_want; go_big_quiet_op; go_big_quiet_on))
          refine wpQuiet_nil ?_
          intro _ hw'
          obtain ⟨nq, hw''⟩ := hw'
          subst hw''
          go_wp2_with fail
          refine bodyPost_ret (results_none rfl _ _ _) rfl ?_
          exact ⟨rfl, HE.out _⟩
        · have hcl2 : s1.call < calls.length := by omega
          have j1 : ¬ (calls.length : Int) ≤ (s1.call : Int) := by omega
          have j2 : decide (calls.length ≤ s1.call) = false := by simpa using hcl2
          have c27 : wr.cell? ⟨T, 27, none⟩ = some va := hthr.ans
          obtain ⟨vts, hv1, hv2, hv3, hv4⟩ := hans.ex
          obtain ⟨aa, ca, hva⟩ := own_form0 hv2
          subst hva
          have HS1 := Lib.hid (show Sm F w wr ∧ ∀ b, F1 b → F b ∨ w.heap.size ≤ b from ⟨hsm1, hF1⟩)
          have HT1 := Lib.hid hT1
          have HTH := Lib.hid hthr
          have HAN := Lib.hid hans
          have HV := Lib.hid (show vts.length = s1.ans.length ∧ wr.ownsRow B 113 2 (.slice aa s1.ans.length ca) s1.ans.length (ansL s1.ans vts) from ⟨hv1, hv2⟩)
          have HC1 := Lib.hid hC1
          have HR := Lib.hid (show (if 1 ≤ (instrAt calls (begun s1)).d ∧ (instrAt calls (begun s1)).d ≤ 5 then some (begun s1) else if (instrAt calls (begun s1)).d = 23 then onF calls k (finS (begun s1)) else match ownS (instrAt calls (begun s1)) (begun s1) with
            | some s2 => onF calls k s2
            | none => none) = some s' by have h9 := hr1; unfold onF at h9; rw [if_neg (by rw [hov2]; decide), if_neg hcl] at h9; exact h9)
          have HLE := Lib.hid hle1
          have HCL := Lib.hid hcl2
          have HOV := Lib.hid hov2
          clear hr1 hle1 hT1 hsm1 hF1 hthr hans hC1 hm hm0 h0 hcl hov hov2 hv1 hv2 hv3 hv4 hcl2
          go_wp2_with fail
          try simp only [Act.put]
          refine wp_region_quiet_lit (by kernel_rfl) (by kernel_rfl) ?_
          repeat (first
            | go_big_quiet_skip
            | (go_big_quiet_want; go_big_quiet_op; go_big_quiet_on))
          refine wpQuiet_nil ?_
          intro _ hw'
          obtain ⟨q1, hw''⟩ := hw'
          subst hw''
          go_wp2_with fail
          try simp only [Act.put]
          refine wp_region_quiet_lit (by kernel_rfl) (by kernel_rfl) ?_
          repeat (first
            | go_big_quiet_skip
            | (go_big_quiet_want; go_big_quiet_op; go_big_quiet_on))
          refine wpQuiet_nil ?_
          intro _ hw'
          obtain ⟨q2, hw''⟩ := hw'
          subst hw''
          go_upto_if 32 with fail
          go_cut [] (fun wc => Hid (OwnEnd B T (.slice ac calls.length cc) F (begun s1) w wc))
          case first =>
            by_cases e : s1.ans.length = s1.call
            · have je : ((s1.ans.length : Int) == (s1.call : Int)) = true := by simp; omega
              obtain ⟨w2, hw2⟩ : ∃ w2, w2 = (wr.drewN q1).drewN q2 := ⟨_, rfl⟩
              have s2 : Sm (fun _ => False) wr w2 := by rw [hw2]; exact ((Sm.refl _ _).drewN _).drewN _
              rw [← hw2]
              clear hw2
              have d27 : w2.cell? ⟨T, 27, none⟩ = some (.slice aa s1.ans.length ca) := (HTH.out.sm s2 (fun h => h)).ans
              obtain ⟨i0, hi, hz0, hz1, hz2⟩ := info_parts info_ans
              have HI := Lib.hid hi
              have HZ := Lib.hid (show i0.zero = some (.agg #[.bool false, .slice none 0 0]) ∧ i0.size = 2 ∧ i0.bytes = 32 from ⟨hz0, hz1, hz2⟩)
              have HO2 := Lib.hid (own_smF HV.out.2 s2 (fun _ _ h => h))
              have HS2 := Lib.hid s2
              have HFEW := Lib.hid (show s1.ans.length + 1 < 100000 by have := HCL.out; have := HC1.out.few; omega)
              have HBW := Lib.hid (show B ≤ w2.heap.size by have := HB.out; have := HS1.out.1.size; have := s2.size; omega)
              have HE := Lib.hid e
              clear hi hz0 hz1 hz2 s2 c28 c1 c0 c27 e
              go_wp2_with (at_builtin; refine wpList_append_own_at _ rfl (.tmp 37) (.tmp 39) 114 rfl B 113 i0 (.agg #[.bool false, .slice none 0 0]) 2 32 Try.underlying114 HI.out HZ.out.1 HZ.out.2.1 HZ.out.2.2 rfl (by decide) _ s1.ans.length (ansL s1.ans vts) rfl (HO2.out.alloc _) ⟨w2.heap.size, 0, none⟩ 1 1 [.bool false, .slice none 0 0] (by simp [Act.eval, Act.put]) rfl (new_cells w2 [.bool false, .slice none 0 0] 113) (by simp [Value.oneCell']) (by have := HFEW.out; unfold maxLen; omega) (by have := HFEW.out; omega) (by have := HBW.out; simp; omega) ?_)
              intro v' w4 hown4 hg4 _ hat4
              obtain ⟨a4, c4, hv4⟩ := own_form0 hown4
              subst hv4
              have HBE := Lib.hid (begin_end HT1.out HTH.out HAN.out HE.out HFEW.out HV.out.2 ((HS2.out).alloc (.cells #[.bool false, .slice none 0 0] 113)) hg4 hown4 (hat4.imp_right fun h => by rw [h]; simp))
              have hth4 := ((HTH.out.sm ((HS2.out).alloc (.cells #[.bool false, .slice none 0 0] 113)) (fun h => h)).row).grown hg4 (fun h => by
                obtain ⟨cx, e2⟩ := own_type2 HV.out.2 T h
                have hr := HTH.out.row
                unfold Row at hr
                rw [hr] at e2
                simp at e2)
              have f27 : w4.frozen? ⟨T, 27, none⟩ = false := hth4.free 27
              have g27 : w4.cell? ⟨T, 27, none⟩ = some (.slice aa s1.ans.length ca) := (hth4.cell 27).trans (thrC_27 _ _ _ _ _ _ HTH.out.len)
              clear hown4 hg4 hat4 hth4 d27
              go_wp2_with fail
              go_meet
              case rel => exact Lib.hid (OwnEnd.step HS1.out.1 HS1.out.2 HBE.out)
            · have je : ((s1.ans.length : Int) == (s1.call : Int)) = false := by simp; omega
              have HBE := Lib.hid (show OwnEnd B T (.slice ac calls.length cc) F1 (begun s1) wr ((wr.drewN q1).drewN q2) from by
                have hb : begun s1 = s1 := by unfold begun; rw [if_neg e]
                rw [hb]
                exact HT1.out.own.sm (((Sm.refl _ _).drewN _).drewN _))
              clear c28 c1 c0 c27 e
              go_wp2_with fail
              go_meet
              case rel => exact Lib.hid (OwnEnd.step HS1.out.1 HS1.out.2 HBE.out)
          case rest =>
            obtain ⟨F2, hT2, hsm2, hF2⟩ := hcut.out
            obtain ⟨va2, hthr2, hans2⟩ := hT2.ex
            obtain ⟨x, hx⟩ : ∃ x, x = instrAt calls (begun s1) := ⟨_, rfl⟩
            have hci : calls[(begun s1).call]? = some (calls[s1.call]'HCL.out) := by rw [begun_call]; exact List.getElem?_eq_getElem _
            have hx2 : x = ((calls[s1.call]'HCL.out).1)[(begun s1).at_]?.getD finishI := by
              rw [hx]
              unfold instrAt
              rw [hci]
              rfl
            have HNX := Lib.hid (next_c' T _ _ _ _ _ _ _ wc hthr2 ((HC.out.sm hsm2 HBLK.out).code hci))
            rw [← hx2] at HNX
            have HRN := HR.out
            rw [← hx] at HRN
            have HT2 := Lib.hid hT2
            have HS2 := Lib.hid (show Sm F w wc ∧ ∀ b, F2 b → F b ∨ w.heap.size ≤ b from ⟨hsm2, hF2⟩)
            have hd : x.d < 1000 := by
              split at HRN
              · omega
              · split at HRN
                · omega
                · split at HRN
                  · next e => exact ownS_d e
                  · cases HRN
            have HX := Lib.hid hx2
            clear hcut hT2 hsm2 hF2 hthr2 hans2 hx hci hx2
            go_wp2_with fail
            refine HNX.out.mono ?_
            rintro e1 w1 ⟨rfl, k1⟩
            obtain ⟨Y, hY⟩ : ∃ Y, Y = w1.heap.size := ⟨_, rfl⟩
            have HYe := Lib.hid hY
            have HY := Lib.hid (Row.new w1 zeroI 161)
            have HY2 := Lib.hid (HY.out.setRow (c' := (instrC x).toArray))
            have HK1 := Lib.hid k1
            clear k1 hY
            go_upto_region 6 with (refine wpList_store_row rfl 161 (.tmp 4) (.tmp 44) rfl w1.heap.size (instrC x).toArray (by simp [Act.eval, Act.put]) (by simp [Act.eval, Act.put]) 161 _ HY.out (instrC_size _) (by rfl) (instrC_one _) ?_)
            obtain ⟨w3, hw3⟩ : ∃ w3, w3 = (w1.alloc (.cells zeroI 161)).setRow w1.heap.size (instrC x).toArray := ⟨_, rfl⟩
            have s13 : Sm (fun _ => False) w1 w3 := by
              rw [hw3]
              exact ⟨rfl, rfl, rfl, by simp [World.setRow], fun k hk _ => (setRow_other _ _ k _ (by omega)).trans (Below.heap_alloc _ _ _ hk)⟩
            have ry : Row w3 Y (instrC x).toArray 161 := by rw [hw3, HYe.out]; exact HY2.out
            unfold zeroI at hw3
            rw [← hw3, ← HYe.out]
            clear hw3
            have sc3 := HK1.out.trans s13
            have HYL := Lib.hid (show wc.heap.size ≤ Y by have := HK1.out.size; have := HYe.out; omega)
            have y0 : w3.cell? ⟨Y, 0, none⟩ = some (.int .i64 (x.d : Int)) := ry.cell 0
            have HRY := Lib.hid ry
            have HT3 := Lib.hid (HT2.out.sm sc3 (fun _ _ h => h))
            have HS3 := Lib.hid (show Sm F w w3 from HS2.out.1.trans (sc3.mono (fun _ h => h.elim)))
            have HF3 := Lib.hid HS2.out.2
            have HSC := Lib.hid sc3
            obtain ⟨sb, hsb⟩ : ∃ sb, sb = begun s1 := ⟨_, rfl⟩
            have hlt : sb.call < sb.ans.length := by rw [hsb]; exact begun_lt _ HLE.out
            rw [← hsb] at HRN HT3
            have HLT := Lib.hid hlt
            have HD := Lib.hid hd
            clear HNX HX HR HCL HLE HV HAN HTH HT1 HS1 HT2 HS2 HY HY2 HYe HK1 s13 sc3 ry hsb hlt
            by_cases htd : 1 ≤ x.d ∧ x.d ≤ 5
            · rw [if_pos htd] at HRN
              have hs : sb = s' := Option.some.inj HRN
              have HE := Lib.hid (show OwnEnd B T (.slice ac calls.length cc) F s' w w3 from hs ▸ ⟨F2, HT3.out, HS3.out, HF3.out⟩)
              have hdec : decide (1 ≤ x.d ∧ x.d ≤ 5) = true := by simpa using htd
              clear HRN hs
              go_wp2_with fail
              refine (told_c x.d HD.out w3).mono ?_
              rintro e2 w4 ⟨rfl, rfl⟩
              rw [hdec]
              go_wp2_with fail
              refine bodyPost_ret (results_none rfl _ _ _) rfl ?_
              exact ⟨rfl, HE.out⟩
            · rw [if_neg htd] at HRN
              have hdec : decide (1 ≤ x.d ∧ x.d ≤ 5) = false := by simpa using htd
              by_cases hf : x.d = 23
              · rw [if_pos hf] at HRN
                have HRF := Lib.hid HRN
                rw [hf] at y0
                obtain ⟨va3, hth3, han3⟩ := HT3.out.ex
                obtain ⟨vts3, hv1, hv2, hv3, hv4⟩ := han3.ex
                obtain ⟨AN, ca3, hva3⟩ := own_form hv2 (by have := HLT.out; omega)
                subst hva3
                have hsmall : (sb.call : Int) < (sb.ans.length : Int) := by have := HLT.out; omega
                have k1 : (0 : Int) ≤ (sb.call : Int) := Int.natCast_nonneg _
                have c1 : w3.cell? ⟨T, 1, none⟩ = some (.int .i64 (sb.call : Int)) := hth3.row.cell 1
                have c27 : w3.cell? ⟨T, 27, none⟩ = some (.slice (some ⟨AN, 0, none⟩) sb.ans.length ca3) := hth3.ans
                have HTH := Lib.hid hth3
                have HAN := Lib.hid han3
                have HV2 := Lib.hid hv2
                clear HRN hth3 han3 hv1 hv2 hv3 hv4
                go_wp2_with fail
                refine (told_c 23 (by decide) w3).mono ?_
                rintro e2 w4 ⟨rfl, rfl⟩
                rw [show decide (1 ≤ 23 ∧ 23 ≤ 5) = false from by decide]
                go_wp2_with fail
                go_still_tail 10, (by kernel_rfl)
                change wpList _ _ _ _ _ w3.drew
                have s34 : Sm (fun _ => False) w3 w3.drew := (Sm.refl _ _).drew
                have HTH4 := Lib.hid (HTH.out.sm s34 (fun h => h))
                have HAN4 := Lib.hid (HAN.out.sm s34 (fun _ _ h => h))
                have HV4 := Lib.hid (own_smF HV2.out s34 (fun _ _ h => h))
                have HS34 := Lib.hid s34
                clear c1 c27 s34 y0
                generalize w3.drew = w4 at HTH4 HAN4 HV4 HS34 ⊢
                obtain ⟨p, hp⟩ : ∃ p, sb.ans[sb.call]? = some p := ⟨_, List.getElem?_eq_getElem HLT.out⟩
                obtain ⟨vts4, hv1, hv2, hv3, hv4⟩ := HAN4.out.ex
                have d0 : w4.cell? ⟨AN, sb.call * 2, none⟩ = some (.bool p.1) := by
                  have hl4 := hv2.cells rfl (sb.call * 2) (.bool p.1) (ansL_done _ _ _ _ _ hp (List.getElem?_eq_getElem (by have := HLT.out; omega)))
                  have e : ((⟨AN, 0, none⟩ : Addr).add (sb.call * 2)) = ⟨AN, sb.call * 2, none⟩ := by
                    unfold Addr.add
                    split <;> simp_all
                  rw [e] at hl4
                  exact hl4
                have g0 : w4.frozen? ⟨AN, sb.call * 2, none⟩ = false := hv2.frozenAt _
                have hne : T ≠ AN := fun e => by
                  obtain ⟨cx, e2⟩ := own_type2 hv2 AN rfl
                  have hr := HTH4.out.row
                  unfold Row at hr
                  rw [← e, hr] at e2
                  simp at e2
                have kA : Sm (fun b => b = AN) w4 (w4.setCell ⟨AN, sb.call * 2, none⟩ (.bool true)) := Sm.setCell (F := fun b => b = AN) (p := ⟨AN, sb.call * 2, none⟩) (Sm.refl _ _) rfl _
                have HAN5 := Lib.hid (HAN4.out.finish hp true)
                have HTH5 := Lib.hid (HTH4.out.sm kA hne)
                have HKA := Lib.hid kA
                have HP := Lib.hid hp
                have hcb : sb.call < 100000 := by have := HLT.out; have := HT3.out.few; omega
                clear hv1 hv2 hv3 hv4 kA hp HV2 HTH HAN HV4
                go_upto_region 9 with fail
                obtain ⟨w5, hw5⟩ : ∃ w5, w5 = w4.setCell ⟨AN, sb.call * 2, none⟩ (.bool true) := ⟨_, rfl⟩
                rw [← hw5] at HAN5 HTH5 HKA ⊢
                clear hw5 d0 g0 HTH4 HAN4
                have c1 : w5.cell? ⟨T, 1, none⟩ = some (.int .i64 (sb.call : Int)) := HTH5.out.row.cell 1
                have f1 : w5.frozen? ⟨T, 1, none⟩ = false := HTH5.out.row.free 1
                have HTH6 := Lib.hid (HTH5.out.setCall (sb.call + 1))
                have ec : ((sb.call + 1 : Nat) : Int) = (sb.call : Int) + 1 := by omega
                rw [ec] at HTH6
                go_upto_region 10 with fail
                obtain ⟨w6, hw6⟩ : ∃ w6, w6 = w5.setCell ⟨T, 1, none⟩ (.int .i64 ((sb.call : Int) + 1)) := ⟨_, rfl⟩
                rw [← hw6] at HTH6 ⊢
                have k56 : Sm (fun b => b = T) w5 w6 := by rw [hw6]; exact Sm.setCell (F := fun b => b = T) (p := ⟨T, 1, none⟩) (Sm.refl _ _) rfl _
                clear hw6 c1 f1
                have c2 : w6.cell? ⟨T, 2, none⟩ = some (.int .i64 (sb.at_ : Int)) := HTH6.out.row.cell 2
                have f2 : w6.frozen? ⟨T, 2, none⟩ = false := HTH6.out.row.free 2
                have HTH7 := Lib.hid (HTH6.out.setAt 0 (by decide))
                have e0 : ((0 : Nat) : Int) = 0 := rfl
                rw [e0] at HTH7
                go_upto_region 11 with fail
                obtain ⟨w7, hw7⟩ : ∃ w7, w7 = w6.setCell ⟨T, 2, none⟩ (.int .i64 0) := ⟨_, rfl⟩
                rw [← hw7] at HTH7 ⊢
                have k67 : Sm (fun b => b = T) w6 w7 := by rw [hw7]; exact Sm.setCell (F := fun b => b = T) (p := ⟨T, 2, none⟩) (Sm.refl _ _) rfl _
                clear hw7 c2 f2
                have HTHERE := Lib.hid (show w7.there T 3 24 from fun j hj => ⟨by rw [HTH7.out.reg j hj]; simp, HTH7.out.row.free (3 + j)⟩)
                have HFIN := Lib.hid (show OwnEnd B T (.slice ac calls.length cc) F2 (finS sb) w3 (w7.setCells T 3 (List.replicate 24 (.int .u64 0))) from by
                  have hz := Thr.zeros 24 0 sb.r w7 rfl HTH7.out rfl
                  have kz : Sm (fun b => b = T) w7 (w7.setCells T 3 (List.replicate 24 (.int .u64 0))) := sm_setCells (F := fun b => b = T) rfl _ _ _
                  have k57 := (k56.trans k67).trans kz
                  have hFA : F2 AN := HAN5.out.own AN rfl
                  have hall : Sm F2 w3 (w7.setCells T 3 (List.replicate 24 (.int .u64 0))) := ((HS34.out.mono (F' := F2) (fun _ h => h.elim)).trans (HKA.out.mono (fun b h => h ▸ hFA))).trans (k57.mono (fun b h => h ▸ HT3.out.mem))
                  have han := HAN5.out.smT HTH5.out.row k57
                  have hgd : sb.ans[sb.call]?.getD (false, []) = p := by rw [HP.out]; rfl
                  refine ⟨F2, ⟨⟨_, hz, ?_⟩, fun b hb => ⟨(HT3.out.blk b hb).1, Nat.lt_of_lt_of_le (HT3.out.blk b hb).2 hall.size⟩, HT3.out.mem, ?_, ?_⟩, hall, fun b hb => .inl hb⟩
                  · unfold finS
                    rw [hgd]
                    exact han
                  · intro v hv
                    have : v = 0 := List.eq_of_mem_replicate hv
                    omega
                  · show (sb.ans.set _ _).length < 100000
                    rw [List.length_set]
                    exact HT3.out.few)
                have HLE2 := Lib.hid (show (finS sb).call ≤ (finS sb).ans.length by
                  show sb.call + 1 ≤ (sb.ans.set _ _).length
                  rw [List.length_set]
                  exact HLT.out)
                have HQ5 := Lib.hid (show Q (w7.setCells T 3 (List.replicate 24 (.int .u64 0))) k from (HQ.out _ k).2 ⟨finS sb, HRF.out, HLE2.out, OwnEnd.step HS3.out HF3.out HFIN.out⟩)
                clear k56 k67 HTH5 HTH6 HAN5 HKA
                go_wp2_with (refine wpList_store_mid rfl 141 (.tmp 75) (.tmp 73) rfl T 3 (List.replicate 24 (.int .u64 0)).toArray ?_ ?_ HTHERE.out (by kernel_rfl) ?_ ?_)
                · rfl
                · rfl
                · simp [Value.oneCell']
                simp only [Act.put]
                go_roundw
                case rel => exact ⟨k, HQ5.out⟩
                case measure => exact Nat.lt_of_le_of_lt (mu_le HQ5.out) (by have := HME.out; omega)
              · rw [if_neg hf] at HRN
                have je : ((x.d : Int) == 23) = false := by simp; omega
                have je2 : ¬ (x.d : Int) = 23 := by omega
                split at HRN
                · next s2 hs2 =>
                  have HRF := Lib.hid HRN
                  have HOWN := Lib.hid (own_c B T _ F2 sb s2 x pw w3 HT3.out HLT.out hs2)
                  have HRB := Lib.hid (show w3.rangeAt Y 0 (instrC x) from fun i u hu => by
                    rw [Nat.zero_add]
                    exact (HRY.out.cell i).trans (by simpa using hu))
                  have HLE2 := Lib.hid (show s2.call ≤ s2.ans.length by rw [(ownS_call hs2).1, (ownS_call hs2).2]; exact Nat.le_of_lt HLT.out)
                  clear HRN hs2
                  go_wp2_with fail
                  refine (told_c x.d HD.out w3).mono ?_
                  rintro e2 w4 ⟨rfl, rfl⟩
                  rw [hdec]
                  go_wp2_with (refine wpList_load_mid rfl 161 (.tmp 4) rfl Y 0 (by simp [Act.eval, Act.put]) (instrC x) _ HRB.out Try.underlying161 rfl (by kernel_rfl) ?_)
                  refine HOWN.out.mono ?_
                  rintro e5 w5 ⟨rfl, ho5⟩
                  have HQ5 := Lib.hid (show Q w5 k from (HQ.out w5 k).2 ⟨s2, HRF.out, HLE2.out, OwnEnd.step HS3.out HF3.out ho5⟩)
                  clear ho5
                  go_wp2_with fail
                  go_roundw
                  case rel => exact ⟨k, HQ5.out⟩
                  case measure => exact Nat.lt_of_le_of_lt (mu_le HQ5.out) (by have := HME.out; omega)
                · cases HRN
end Go.Proofs.Ytokoniaoknnggaa
