/- The reference's programs for a domain: Move, Fails, and the call of the statement. -/
import Derived.Test.YtokoniaoknnggaaProL
import Derived.Test.YtokoniaoknnggaaWithin
namespace Go.Proofs.Ytokoniaoknnggaa
open Go.RowKit
set_option linter.unusedVariables false
set_option linter.unusedSimpArgs false

set_option maxRecDepth 100000 in
set_option maxHeartbeats 6400000 in
theorem rmove_c (s : Nat) (hs : 0 < s ∧ s ≤ 16) (w : World) : Calls Try.prog 43 #[.int .i64 (s : Int)] w (ProgEnd (moveP s ++ tell2) w) := by
  obtain ⟨w0, hw0⟩ : ∃ w0 : World, w0 = w.alloc (.cells #[.slice none 0 0, .slice none 0 0] 46) := ⟨_, rfl⟩
  have r0 : Row w0 w.heap.size #[.slice none 0 0, .slice none 0 0] 46 := by rw [hw0]; exact Row.new _ _ _
  have k0 : Sm (fun _ => False) w w0 := by rw [hw0]; exact (Sm.refl _ _).alloc _
  have z0 : w0.heap.size = w.heap.size + 1 := by rw [hw0]; simp
  obtain ⟨ii, hii, hi0, hi1, hi2⟩ := info_parts info_instr
  have HI := Lib.hid (show Try.prog.info? 161 = some ii ∧ ii.zero = some (.agg zeroI) ∧ ii.size = 7 ∧ ii.bytes = 56 from ⟨hii, hi0, hi1, hi2⟩)
  have HW0 := Lib.hid hw0
  have HC := Lib.hid (moveCode_c s hs w0)
  have HR := Lib.hid (show _ ∧ _ ∧ _ from ⟨r0, k0, z0⟩)
  have HLEN := Lib.hid (show (moveP s).length < 1000 by show (moveS s s ++ moveT s).length < 1000; rw [List.length_append, moveS_len]; simp [moveT]; omega)
  clear hw0 r0 k0 z0 hii hi0 hi1 hi2
  go_enter Try.func43, Try.ntmps43
  go_wp2_with fail
  rw [← HW0.out]
  refine HC.out.mono ?_
  rintro e w1 ⟨cd, rfl, hown, k1⟩
  have hown' := own_base (B' := w.heap.size + 1) hown (fun b hb => by have := (hown.lt b hb).1; have := HR.out.2.2; omega)
  obtain ⟨ac, cc, hcd⟩ := own_form0 hown
  subst hcd
  have HO := Lib.hid hown'
  have HK := Lib.hid k1
  have HZ := Lib.hid (show w.heap.size + 1 ≤ w1.heap.size by have := k1.size; have := HR.out.2.2; omega)
  clear hown hown' k1
  go_wp2_with (at_builtin; refine wpList_append_own_at _ rfl (.tmp 4) (.tmp 7) 44 rfl (w.heap.size + 1) 161 ii (.agg zeroI) 7 56 Try.underlying44 HI.out.1 HI.out.2.1 HI.out.2.2.1 HI.out.2.2.2 rfl (by decide) _ (moveP s).length (flatI (moveP s)) rfl (HO.out.alloc _) ⟨w1.heap.size, 0, none⟩ 2 2 (flatI tell2) (by simp [Act.eval, Act.put]) rfl (new_cells w1 (flatI tell2) 161) (flatI_one _) (by have := HLEN.out; unfold maxLen; omega) (by have := HLEN.out; omega) (by have := HZ.out; simp; omega) ?_)
  intro v2 w2 hown2 hg2 _ _
  obtain ⟨a2, c2, hv2⟩ := own_form0 hown2
  subst hv2
  have HM := Lib.hid (code_more (P := w.heap.size) (m := tell2) rfl HO.out (HR.out.2.1.trans HK.out) (HR.out.1.sm HK.out (fun h => h)) hg2 hown2)
  have HROW := Lib.hid (HM.out.1.setRow (c' := #[.slice a2 ((moveP s).length + 2) c2, .slice none 0 0]))
  clear hown2 hg2
  go_wp2_with (refine wpList_store_row rfl 46 (.tmp 2) (.tmp 9) rfl w.heap.size #[.slice a2 ((moveP s).length + 2) c2, .slice none 0 0] (by simp [Act.eval, Act.put]) (by simp [Act.eval, Act.put]) 46 _ HM.out.1 (by kernel_rfl) (by rfl) (by simp [Value.oneCell']) ?_)
  refine bodyPost_ret (results_cell_row rfl _ _ w.heap.size 46 _ (0, 0) _ rfl HROW.out Try.underlying46 rfl (by kernel_rfl)) rfl ?_
  exact HM.out.2
theorem failsP_len (z : Nat) : (failsP z).length = z + 2 := by simp [failsP]
def failsH (i : Nat) : List In := ⟨6, 0, 20, 0, 0, 0, 5⟩ :: List.replicate i ⟨22, 0, 9, 0, 0, 0, 0⟩
theorem failsH_succ (i : Nat) : failsH (i + 1) = failsH i ++ [⟨22, 0, 9, 0, 0, 0, 0⟩] := by simp [failsH, List.replicate_succ']
/-- Fails under way. -/
def FI (P i : Nat) (cd : Value) (w wr : World) : Prop := Row wr P #[.slice none 0 0, .slice none 0 0] 46 ∧ Row wr (P + 1 + 1) #[cd, .slice none 0 0] 46 ∧ wr.ownsRow (P + 1) 161 7 cd (i + 1) (flatI (failsH i)) ∧ Sm (fun _ => False) w wr
theorem FI.step {P i : Nat} {cd v : Value} {w wr w2 : World} {o : Obj} (h : FI P i cd w wr) (hg : (wr.alloc o).grownBy w2 cd.ownBlock) (ho : w2.ownsRow (P + 1) 161 7 v (i + 1 + 1) (flatI (failsH (i + 1)))) (hP : P = w.heap.size := by assumption) : FI P (i + 1) v w (w2.setCell ⟨P + 1 + 1, 0, none⟩ v) := by
  obtain ⟨r0, r2, h1, ks⟩ := h
  have ka : Sm (fun _ => False) wr (wr.alloc o) := (Sm.refl _ _).alloc o
  have kg : Sm (fun b => cd.ownBlock = some b) (wr.alloc o) w2 := sm_grown hg (fun b e => e)
  have kset : Sm (fun b => b = P + 1 + 1) w2 (w2.setCell ⟨P + 1 + 1, 0, none⟩ v) := Sm.setCell (F := fun b => b = P + 1 + 1) (p := ⟨P + 1 + 1, 0, none⟩) (Sm.refl _ _) rfl _
  have n0 := own_ne h1 r0 (by decide)
  have n2 := own_ne h1 r2 (by decide)
  have q2 := (r2.sm ka (fun h => h)).sm kg n2
  exact ⟨((r0.sm ka (fun h => h)).sm kg n0).sm kset (by omega), q2.set 0 v, own_smF ho kset (fun b hb e => own_ne ho q2 (by decide) (e ▸ hb)),
    (((ks.trans ka).mono (F' := fun b => P ≤ b) (fun _ h => h.elim)).trans ((kg.mono (fun b e => by have := (h1.lt b e).1; omega)).trans (kset.mono (fun b e => by omega)))).new (fun b hb => by omega)⟩
set_option maxRecDepth 100000 in
set_option maxHeartbeats 6400000 in
theorem rfails_c (z : Nat) (hz : z < 100) (w : World) : Calls Try.prog 40 #[.int .i64 (z : Int), .int .u64 5] w (ProgEnd (failsP z) w) := by
  obtain ⟨ii, hii, hi0, hi1, hi2⟩ := info_parts info_instr
  have HI := Lib.hid (show Try.prog.info? 161 = some ii ∧ ii.zero = some (.agg zeroI) ∧ ii.size = 7 ∧ ii.bytes = 56 from ⟨hii, hi0, hi1, hi2⟩)
  clear hii hi0 hi1 hi2
  go_enter Try.func40, Try.ntmps40
  go_upto_block 0 with fail
  obtain ⟨w0, hw0⟩ : ∃ w0 : World, w0 = ((w.alloc (.cells #[.slice none 0 0, .slice none 0 0] 46)).alloc (.cells (flatI (failsH 0)).toArray 161)).alloc (.cells #[.slice (some ⟨w.heap.size + 1, 0, none⟩) 1 1, .slice none 0 0] 46) := ⟨_, rfl⟩
  have hI0 : FI w.heap.size 0 (.slice (some ⟨w.heap.size + 1, 0, none⟩) 1 1) w w0 := by
    have r0 : Row w0 w.heap.size #[.slice none 0 0, .slice none 0 0] 46 := by rw [hw0]; exact ((Row.new w _ _).alloc _).alloc _
    have r1 : Row w0 (w.heap.size + 1) (flatI (failsH 0)).toArray 161 := by
      rw [hw0]
      have := (Row.new (w.alloc (.cells #[.slice none 0 0, .slice none 0 0] 46)) (flatI (failsH 0)).toArray 161).alloc (.cells #[.slice (some ⟨w.heap.size + 1, 0, none⟩) 1 1, .slice none 0 0] 46)
      simpa using this
    have r2 : Row w0 (w.heap.size + 1 + 1) #[.slice (some ⟨w.heap.size + 1, 0, none⟩) 1 1, .slice none 0 0] 46 := by
      rw [hw0]
      have := Row.new ((w.alloc (.cells #[.slice none 0 0, .slice none 0 0] 46)).alloc (.cells (flatI (failsH 0)).toArray 161)) #[.slice (some ⟨w.heap.size + 1, 0, none⟩) 1 1, .slice none 0 0] 46
      simpa using this
    exact ⟨r0, r2, ⟨rfl, .inr ⟨w.heap.size + 1, 1, _, rfl, Nat.le_refl _, r1, Nat.le_refl _, by decide, rfl, rfl⟩⟩, by rw [hw0]; exact (((Sm.refl _ _).alloc _).alloc _).alloc _⟩
  go_cut [] from 6 (fun wc => ∃ cd : Value, Hid (FI w.heap.size z cd w wc))
  case first =>
    go_wp2_with fail
    go_loopw [6] (fun s6 wr => ∃ (i : Nat) (cd : Value), i ≤ z ∧ s6 = .int .i64 i ∧ Hid (FI w.heap.size i cd w wr)) (fun s6 wr => z - (intOf s6).toNat)
    case atStart => exact ⟨0, _, Nat.zero_le _, rfl, Lib.hid (by have := hI0; rw [hw0] at this; exact this)⟩
    case round =>
      clear hI0 hw0
      obtain ⟨i, cd, hi, rfl, HF⟩ := hrel
      by_cases hlt : i < z
      · have j1 : (i : Int) < (z : Int) := by omega
        obtain ⟨r0, r2, ho, ks⟩ := HF.out
        obtain ⟨ac, cc, hcd⟩ := own_form0 ho
        subst hcd
        have c2 : wr.cell? ⟨w.heap.size + 1 + 1, 0, none⟩ = some (.slice ac (i + 1) cc) := r2.cell 0
        have HO := Lib.hid ho
        have HR2 := Lib.hid r2
        have HZ := Lib.hid (show w.heap.size + 1 ≤ wr.heap.size by have := r0.lt; omega)
        have HBD := Lib.hid (show i + 1 + 1 ≤ maxLen ∧ (i + 1 + 1) * 56 ≤ 140737488355328 from ⟨by unfold maxLen; omega, by omega⟩)
        have hib : i < 100 := by omega
        clear r0 r2 ho ks
        go_wp2_with (at_builtin; refine wpList_append_own_at _ rfl (.tmp 17) (.tmp 19) 44 rfl (w.heap.size + 1) 161 ii (.agg zeroI) 7 56 Try.underlying44 HI.out.1 HI.out.2.1 HI.out.2.2.1 HI.out.2.2.2 rfl (by decide) _ (i + 1) (flatI (failsH i)) rfl (HO.out.alloc _) ⟨wr.heap.size, 0, none⟩ 1 1 (flatI [⟨22, 0, 9, 0, 0, 0, 0⟩]) (by simp [Act.eval, Act.put]) rfl (new_cells wr (flatI [⟨22, 0, 9, 0, 0, 0, 0⟩]) 161) (flatI_one _) HBD.out.1 HBD.out.2 (by have := HZ.out; simp; omega) ?_)
        intro v2 w2 hown2 hg2 _ _
        obtain ⟨a2, c2', hv2⟩ := own_form0 hown2
        subst hv2
        have HN := Lib.hid (FI.step HF.out hg2 (by rw [failsH_succ, flatI_app]; exact hown2) rfl)
        have hr2 : Row w2 (w.heap.size + 1 + 1) #[.slice ac (i + 1) cc, .slice none 0 0] 46 := (HR2.out.alloc _).sm (F := fun b => (Value.slice ac (i + 1) cc).ownBlock = some b) (sm_grown hg2 (fun b e => e)) (own_ne HO.out HR2.out (by decide))
        have d2 : w2.cell? ⟨w.heap.size + 1 + 1, 0, none⟩ = some (.slice ac (i + 1) cc) := hr2.cell 0
        have g2 : w2.frozen? ⟨w.heap.size + 1 + 1, 0, none⟩ = false := hr2.free 0
        clear hown2 hg2 c2 hr2
        go_wp2_with fail
        go_roundw
        case rel => exact ⟨i + 1, _, hlt, by first | rfl | go_num, HN⟩
        case measure => simp only [intOf]; omega
      · have hi' : i = z := by omega
        subst hi'
        have j1 : ¬ ((i : Nat) : Int) < (i : Int) := by omega
        go_wp2_with fail
        go_meet
        case rel => exact ⟨cd, HF⟩
  case rest =>
    clear hI0 hw0
    obtain ⟨cd, HF⟩ := hcut
    obtain ⟨r0, r2, ho, ks⟩ := HF.out
    obtain ⟨ac, cc, hcd⟩ := own_form0 ho
    subst hcd
    have c2 : wc.cell? ⟨w.heap.size + 1 + 1, 0, none⟩ = some (.slice ac (z + 1) cc) := r2.cell 0
    have HO := Lib.hid ho
    have HR2 := Lib.hid r2
    have HR0 := Lib.hid r0
    have HZ := Lib.hid (show w.heap.size + 1 ≤ wc.heap.size by have := r0.lt; omega)
    have HBD := Lib.hid (show z + 1 + 1 ≤ maxLen ∧ (z + 1 + 1) * 56 ≤ 140737488355328 from ⟨by unfold maxLen; omega, by omega⟩)
    clear r0 r2 ho ks
    go_wp2_with (at_builtin; refine wpList_append_own_at _ rfl (.tmp 23) (.tmp 25) 44 rfl (w.heap.size + 1) 161 ii (.agg zeroI) 7 56 Try.underlying44 HI.out.1 HI.out.2.1 HI.out.2.2.1 HI.out.2.2.2 rfl (by decide) _ (z + 1) (flatI (failsH z)) rfl (HO.out.alloc _) ⟨wc.heap.size, 0, none⟩ 1 1 (flatI [⟨22, 0, 20, 0, 0, 0, 0⟩]) (by simp [Act.eval, Act.put]) rfl (new_cells wc (flatI [⟨22, 0, 20, 0, 0, 0, 0⟩]) 161) (flatI_one _) HBD.out.1 HBD.out.2 (by have := HZ.out; simp; omega) ?_)
    intro v2 w2 hown2 hg2 _ _
    obtain ⟨a2, c2', hv2⟩ := own_form0 hown2
    subst hv2
    have hr2 : Row w2 (w.heap.size + 1 + 1) #[.slice ac (z + 1) cc, .slice none 0 0] 46 := (HR2.out.alloc _).sm (F := fun b => (Value.slice ac (z + 1) cc).ownBlock = some b) (sm_grown hg2 (fun b e => e)) (own_ne HO.out HR2.out (by decide))
    have hn0 : (Value.slice ac (z + 1) cc).ownBlock ≠ some w.heap.size := own_ne HO.out HR0.out (by decide)
    have hr0 : Row w2 w.heap.size #[.slice none 0 0, .slice none 0 0] 46 := (HR0.out.alloc _).sm (F := fun b => (Value.slice ac (z + 1) cc).ownBlock = some b) (sm_grown hg2 (fun b e => e)) hn0
    have d2 : w2.cell? ⟨w.heap.size + 1 + 1, 0, none⟩ = some (.slice ac (z + 1) cc) := hr2.cell 0
    have g2 : w2.frozen? ⟨w.heap.size + 1 + 1, 0, none⟩ = false := hr2.free 0
    obtain ⟨w3, hw3⟩ : ∃ w3, w3 = w2.setCell ⟨w.heap.size + 1 + 1, 0, none⟩ (.slice a2 (z + 1 + 1) c2') := ⟨_, rfl⟩
    have k3 : Sm (fun b => b = w.heap.size + 1 + 1) w2 w3 := by rw [hw3]; exact Sm.setCell (F := fun b => b = w.heap.size + 1 + 1) (p := ⟨w.heap.size + 1 + 1, 0, none⟩) (Sm.refl _ _) rfl _
    have hr3 : Row w3 (w.heap.size + 1 + 1) #[.slice a2 (z + 1 + 1) c2', .slice none 0 0] 46 := by rw [hw3]; exact hr2.set 0 _
    have hr03 := hr0.sm k3 (by omega)
    have HR03 := Lib.hid hr03
    have HROW := Lib.hid (hr03.setRow (c' := #[.slice a2 (z + 1 + 1) c2', .slice none 0 0]))
    have HMID : Hid (w3.rangeAt (w.heap.size + 1 + 1) 0 [.slice a2 (z + 1 + 1) c2', .slice none 0 0]) := Lib.hid fun k u hu => by
      rw [Nat.zero_add]
      exact (hr3.cell k).trans (by simpa using hu)
    have HPE := Lib.hid (show ProgEnd (failsP z) w (.returned (.agg #[.slice a2 (z + 1 + 1) c2', .slice none 0 0])) (w3.setRow w.heap.size #[.slice a2 (z + 1 + 1) c2', .slice none 0 0]) from by
      have kr : Sm (fun b => b = w.heap.size) w3 (w3.setRow w.heap.size #[.slice a2 (z + 1 + 1) c2', .slice none 0 0]) := ⟨rfl, rfl, rfl, by simp [World.setRow], fun k hk hf => setRow_other _ _ k _ hf⟩
      have e2 : flatI (failsP z) = flatI (failsH z) ++ flatI [⟨22, 0, 20, 0, 0, 0, 0⟩] := flatI_app (failsH z) _
      have h3 := own_smF hown2 k3 (fun b hb e => own_ne hown2 hr2 (by decide) (e ▸ hb))
      have h4 := own_smF h3 kr (fun b hb e => own_ne h3 hr03 (by decide) (e ▸ hb))
      refine ⟨_, rfl, ?_, ?_⟩
      · rw [failsP_len, e2]
        exact own_base h4 (fun b hb => by have := (h4.lt b hb).1; omega)
      · exact ((((HF.out.2.2.2.mono (F' := fun b => w.heap.size ≤ b) (fun _ h => h.elim)).trans ((Sm.refl _ _).alloc _)).trans ((sm_grown (F := fun b => (Value.slice ac (z + 1) cc).ownBlock = some b) hg2 (fun b e => e)).mono (fun b e => by have := (HO.out.lt b e).1; omega))).trans ((k3.mono (fun b e => by omega)).trans (kr.mono (fun b e => by omega)))).new (fun b hb => hb))
    have HW3 := Lib.hid hw3
    clear hown2 hg2 c2 hr2 hr0 hn0 k3 hr3 hr03 hw3
    go_wp2_with (first
      | (refine wpList_load_mid rfl 46 (.tmp 5) rfl (w.heap.size + 1 + 1) 0 (by simp [Act.eval, Act.put]) [.slice a2 (z + 1 + 1) c2', .slice none 0 0] _ (by rw [← HW3.out]; exact HMID.out) Try.underlying46 rfl (by kernel_rfl) ?_; rw [← HW3.out])
      | refine wpList_store_row rfl 46 (.tmp 4) (.tmp 28) rfl w.heap.size #[.slice a2 (z + 1 + 1) c2', .slice none 0 0] (by simp [Act.eval, Act.put]) (by simp [Act.eval, Act.put]) 46 _ HR03.out (by kernel_rfl) (by rfl) (by simp [Value.oneCell']) ?_)
    refine bodyPost_ret (results_cell_row rfl _ _ w.heap.size 46 _ (0, 0) _ rfl HROW.out Try.underlying46 rfl (by kernel_rfl)) rfl ?_
    exact HPE.out
end Go.Proofs.Ytokoniaoknnggaa
