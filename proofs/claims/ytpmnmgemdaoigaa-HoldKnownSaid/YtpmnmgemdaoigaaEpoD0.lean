/- epoch: Unpin, Safe, behind, Move, whatever the gate. -/
import Derived.Test.YtpmnmgemdaoigaaEpoC0
namespace Go.Proofs.Ytpmnmgemdaoigaa
open Go.RowKit
set_option linter.unusedVariables false
set_option linter.unusedSimpArgs false

def unpinR (ws : List Nat) (s : Nat) : Nat := if ws.getD (1 + s) 0 = 0 then 90 else 0
def unpinW (ws : List Nat) (s : Nat) : List Nat := if ws.getD (1 + s) 0 = 0 then ws else ws.set (1 + s) 0
def unpinM (ws : List Nat) (s : Nat) : List (Int × Int) := if ws.getD (1 + s) 0 = 0 then [(1, ((1 + s : Nat) : Int))] else [(1, ((1 + s : Nat) : Int)), (2, ((1 + s : Nat) : Int))]

set_option maxRecDepth 20000 in
set_option maxHeartbeats 800000 in
theorem unpin_c {g : Value} {nb : Nat} {G : World → List (Int × Int) → Prop} (hG : GateG g nb G) (S n : Nat) (ws : List Nat) (hS : S < nb) (s : Nat) (hs : s < n) (w : World) (L : List (Int × Int)) (hL : L.length < 999990) (hg : G w L) (h : Dom S n ws w) :
    Calls Try.prog 30 #[.pointer (some ⟨S, 0, none⟩), g, .int .i64 (s : Int)] w fun e w' =>
      e = .returned (.int .i64 (unpinR ws s : Int)) ∧ EEnd G S n nb w (L ++ unpinM ws s) (unpinW ws s) w' := by
  have hn := h.le
  obtain ⟨k, hk⟩ : ∃ k, k = 1 + s := ⟨_, rfl⟩
  obtain ⟨x, hx⟩ : ∃ x, x = ws.getD k 0 := ⟨_, rfl⟩
  have HW := Lib.hid (word_ok S n ws s hs w h)
  rw [← hk] at HW
  have HK := Lib.hid hk
  have HX := Lib.hid hx
  have H := Lib.hid h
  have HKL := Lib.hid (show k ≤ 16 by omega)
  clear hk hx h
  go_enter Try.func30, Try.ntmps30
  go_wp2_with fail
  refine HW.out.mono ?_
  rintro e w1 ⟨rfl, rfl⟩
  go_wp2_with fail
  refine (eload_c hG S n ws hS k HKL.out w L (by omega) hg H.out).mono ?_
  rintro e w1 ⟨rfl, hg1, hs1⟩
  rw [← HX.out]
  have H1 := Lib.hid (H.out.sm hs1 (by omega))
  have HS1 := Lib.hid (hs1.mono (F' := fun b => b = S ∨ nb ≤ b) (fun b hb => .inr hb))
  have hl1 : (L ++ [((1 : Int), (k : Int))]).length < 999991 := by simp; omega
  clear hs1
  by_cases h0 : x = 0
  · subst h0
    have hr : unpinR ws s = 90 ∧ unpinW ws s = ws ∧ unpinM ws s = [((1 : Int), (k : Int))] := by
      unfold unpinR unpinW unpinM
      rw [← HK.out, ← HX.out]
      simp
    have HR := Lib.hid hr
    clear hr
    go_wp2_with fail
    go_ret
    rw [HR.out.1, HR.out.2.1, HR.out.2.2]
    exact ⟨rfl, hg1, HS1.out, H1.out⟩
  · have hr : unpinR ws s = 0 ∧ unpinW ws s = ws.set k 0 ∧ unpinM ws s = [((1 : Int), (k : Int)), (2, (k : Int))] := by
      unfold unpinR unpinW unpinM
      rw [← HK.out, ← HX.out, if_neg h0, if_neg h0, if_neg h0]
      exact ⟨rfl, rfl, rfl⟩
    have HR := Lib.hid hr
    have j1 : ¬ ((x : Nat) : Int) = 0 := by omega
    clear hr h0
    go_wp2_with fail
    refine (estore_c hG S n ws hS k 0 HKL.out w1 _ (by omega) hg1 H1.out).mono ?_
    rintro e w3 ⟨rfl, hg3, hs3, h3⟩
    have H3 := Lib.hid h3
    have HS3 := Lib.hid (HS1.out.trans hs3)
    clear hs3 h3
    go_wp2
    go_ret
    rw [HR.out.1, HR.out.2.1, HR.out.2.2]
    exact ⟨rfl, by simpa using hg3, HS3.out, H3.out⟩

def scan (ws : List Nat) (now : Nat) : Nat → Nat → Bool × List (Int × Int)
  | _, 0 => (false, [])
  | k, m + 1 => if ws.getD k 0 ≠ 0 ∧ ws.getD k 0 ≠ now then (true, [(1, (k : Int))]) else ((scan ws now (k + 1) m).1, (1, (k : Int)) :: (scan ws now (k + 1) m).2)
theorem scan_len (ws : List Nat) (now : Nat) : ∀ m k, (scan ws now k m).2.length ≤ m
  | 0, _ => Nat.le_refl _
  | m + 1, k => by
    unfold scan
    split
    · simp
    · have := scan_len ws now m (k + 1)
      simp
      omega

set_option maxRecDepth 20000 in
set_option maxHeartbeats 1600000 in
theorem behind_c {g : Value} {nb : Nat} {G : World → List (Int × Int) → Prop} (hG : GateG g nb G) (S n : Nat) (ws : List Nat) (hS : S < nb) (now : Nat) (w : World) (L : List (Int × Int)) (hL : L.length < 999970) (hg : G w L) (h : Dom S n ws w) :
    Calls Try.prog 45 #[.pointer (some ⟨S, 0, none⟩), g, .int .u64 (now : Int)] w fun e w' =>
      e = .returned (.bool (scan ws now 1 n).1) ∧ G w' (L ++ (scan ws now 1 n).2) ∧ Sm (fun b => nb ≤ b) w w' := by
  have hn := h.le
  have hn0 := h.pos
  have H := Lib.hid h
  obtain ⟨R, hR⟩ : ∃ R, R = scan ws now 1 n := ⟨_, rfl⟩
  rw [← hR]
  have HR := Lib.hid hR
  clear h hR
  go_enter Try.func45, Try.ntmps45
  go_wp2
  go_loopw [9] (fun s9 wr => ∃ (i j : Nat) (done : List (Int × Int)), i ≤ n + 1 ∧ Hid (j = if i = 0 then 1 else i) ∧ s9 = .int .i64 i ∧ Hid (G wr (L ++ done)) ∧ Hid (R = ((scan ws now j (n + 1 - j)).1, done ++ (scan ws now j (n + 1 - j)).2)) ∧ Hid (done.length ≤ i) ∧ Hid (Sm (fun b => nb ≤ b) w wr)) (fun s9 wr => 18 - (intOf s9).toNat)
  case atStart => exact ⟨0, 1, [], by omega, Lib.hid rfl, rfl, Lib.hid (by simpa using hg), Lib.hid (by rw [HR.out]; simp), Lib.hid (Nat.le_refl _), Lib.hid (Sm.refl _ _)⟩
  case round =>
    obtain ⟨i, j, done, hi, hj, rfl, hgi, hrun, hdl, hS2⟩ := hrel
    have hD := H.out.sm hS2.out (by omega)
    have c0 : wr.cell? ⟨S, 0, none⟩ = some (.int .i64 (n : Int)) := hD.row.cell 0
    have HD := Lib.hid hD
    have HP := Lib.hid (show wrap64 ((i : Int) + 1) = ((i + 1 : Nat) : Int) by unfold wrap64; omega)
    clear hD
    by_cases h0 : i = 0
    · subst h0
      clear hg
      go_wp2_with fail
      go_roundw
      case rel => exact ⟨1, 1, done, by omega, Lib.hid rfl, by first | rfl | go_num, hgi, by have := hj.out; simp at this; subst this; exact hrun, Lib.hid (Nat.le_trans hdl.out (by omega)), hS2⟩
      case measure => simp only [intOf]; omega
    · have hji : j = i := by have := hj.out; rwa [if_neg h0] at this
      subst hji
      by_cases h1 : n < j
      · have he : n + 1 - j = 0 := by omega
        have hr : R = (false, done) := by rw [hrun.out, he]; simp [scan]
        have HR2 := Lib.hid hr
        clear hr hrun hj
        by_cases h17 : j < 17
        · have j1 : (j : Int) < 17 := by omega
          have j2 : ¬ (j : Int) = 0 := by omega
          have j3 : (n : Int) < (j : Int) := by omega
          go_wp2_with fail
          go_ret
          rw [HR2.out]
          exact ⟨rfl, hgi.out, hS2.out⟩
        · have j1 : ¬ (j : Int) < 17 := by omega
          go_wp2_with fail
          go_ret
          rw [HR2.out]
          exact ⟨rfl, hgi.out, hS2.out⟩
      · have j1 : (j : Int) < 17 := by omega
        have j2 : ¬ (j : Int) = 0 := by omega
        have j3 : ¬ (n : Int) < (j : Int) := by omega
        obtain ⟨m, hm⟩ : ∃ m, n + 1 - j = m + 1 := ⟨n - j, by omega⟩
        rw [hm] at hrun
        have hm2 : n + 1 - (j + 1) = m := by omega
        obtain ⟨x, hx⟩ : ∃ x, x = ws.getD j 0 := ⟨_, rfl⟩
        have HX := Lib.hid hx
        have HM2 := Lib.hid hm2
        have HDL := Lib.hid (show (L ++ done).length < 1000000 by have := hdl.out; rw [List.length_append]; omega)
        have HJ16 := Lib.hid (show j ≤ 16 by omega)
        clear hx hm hm2 hj c0
        have c0 : wr.cell? ⟨S, 0, none⟩ = some (.int .i64 (n : Int)) := HD.out.row.cell 0
        go_wp2_with fail
        refine (eload_c hG S n ws hS j HJ16.out wr _ HDL.out hgi.out HD.out).mono ?_
        rintro e w2 ⟨rfl, hg2, hs2⟩
        rw [← HX.out]
        have HS3 := Lib.hid (hS2.out.trans hs2)
        have HG2 := Lib.hid hg2
        clear hs2 hg2 c0
        by_cases hb : x ≠ 0 ∧ x ≠ now
        · have hr : R = (true, done ++ [((1 : Int), (j : Int))]) := by
            rw [hrun.out]
            unfold scan
            rw [← HX.out, if_pos hb]
          have HR2 := Lib.hid hr
          have j4 : ¬ (x : Int) = 0 := by omega
          have j5 : ¬ x = now := hb.2
          have j6 : ¬ x = 0 := hb.1
          have j7 : decide (x = now) = false := by simpa using j5
          have j8 : decide (x = 0) = false := by simpa using j6
          have j9 : ((x : Int) == 0) = false := by simpa using j6
          have j10 : ((x : Int) == (now : Int)) = false := by simp; omega
          clear hr hrun hb
          go_wp2_with fail
          all_goals first
            | (go_ret; rw [HR2.out]; exact ⟨rfl, by simpa using HG2.out, HS3.out⟩)
            | (exfalso; rename_i hx; rcases hx with hx | hx <;> simp at hx <;> omega)
        · have hr : R = ((scan ws now (j + 1) (n + 1 - (j + 1))).1, (done ++ [((1 : Int), (j : Int))]) ++ (scan ws now (j + 1) (n + 1 - (j + 1))).2) := by
            rw [hrun.out, HM2.out]
            conv => lhs; unfold scan
            rw [← HX.out, if_neg hb]
            simp
          have HR2 := Lib.hid hr
          have hb2 : (x : Int) = 0 ∨ (¬ (x : Int) = 0 ∧ x = now) := by
            by_cases e : x = 0
            · exact .inl (by omega)
            · exact .inr ⟨by omega, Classical.byContradiction fun e2 => hb ⟨e, e2⟩⟩
          have HGN : Hid (G w2 (L ++ (done ++ [((1 : Int), (j : Int))]))) := Lib.hid (by simpa using HG2.out)
          have HDN := Lib.hid (show (done ++ [((1 : Int), (j : Int))]).length ≤ j + 1 by have := hdl.out; simp; omega)
          clear hr hrun hb
          rcases hb2 with j4 | ⟨j4, j5⟩
          · have j6 : x = 0 := by omega
            subst j6
            go_wp2_with fail
            go_roundw
            case rel => exact ⟨j + 1, j + 1, _, by omega, Lib.hid (by simp), by first | rw [HP.out] | go_num, HGN, HR2, HDN, HS3⟩
            case measure => (try rw [HP.out]); simp only [intOf]; omega
          · subst j5
            go_wp2_with fail
            go_roundw
            case rel => exact ⟨j + 1, j + 1, _, by omega, Lib.hid (by simp), by first | rw [HP.out] | go_num, HGN, HR2, HDN, HS3⟩
            case measure => (try rw [HP.out]); simp only [intOf]; omega

def moveR (ws : List Nat) (n : Nat) : Nat × Bool := if (scan ws (ws.getD 0 0) 1 n).1 = true then (0, false) else (ws.getD 0 0 + 1, true)
def moveW (ws : List Nat) (n : Nat) : List Nat := if (scan ws (ws.getD 0 0) 1 n).1 = true then ws else ws.set 0 (ws.getD 0 0 + 1)
def moveM (ws : List Nat) (n : Nat) : List (Int × Int) := if (scan ws (ws.getD 0 0) 1 n).1 = true then (1, 0) :: (scan ws (ws.getD 0 0) 1 n).2 else (1, 0) :: (scan ws (ws.getD 0 0) 1 n).2 ++ [(5, 0)]

set_option maxRecDepth 20000 in
set_option maxHeartbeats 1600000 in
theorem move_c {g : Value} {nb : Nat} {G : World → List (Int × Int) → Prop} (hG : GateG g nb G) (S n : Nat) (ws : List Nat) (hS : S < nb) (hb : ws.getD 0 0 < 18446744073709551615) (w : World) (L : List (Int × Int)) (hL : L.length < 999960) (hg : G w L) (h : Dom S n ws w) :
    Calls Try.prog 22 #[.pointer (some ⟨S, 0, none⟩), g] w fun e w' =>
      e = .returned (.tuple #[.int .u64 ((moveR ws n).1 : Int), .bool (moveR ws n).2, .int .i64 0]) ∧ EEnd G S n nb w (L ++ moveM ws n) (moveW ws n) w' := by
  have hn := h.le
  obtain ⟨now, hnow⟩ : ∃ now, now = ws.getD 0 0 := ⟨_, rfl⟩
  rw [← hnow] at hb
  have hr0 : moveR ws n = (if (scan ws now 1 n).1 = true then (0, false) else (now + 1, true)) := by rw [hnow]; rfl
  have hw0 : moveW ws n = (if (scan ws now 1 n).1 = true then ws else ws.set 0 (now + 1)) := by rw [hnow]; rfl
  have hm0 : moveM ws n = (if (scan ws now 1 n).1 = true then (1, 0) :: (scan ws now 1 n).2 else (1, 0) :: (scan ws now 1 n).2 ++ [(5, 0)]) := by rw [hnow]; rfl
  have HR0 := Lib.hid hr0
  have HW0 := Lib.hid hw0
  have HM0 := Lib.hid hm0
  have HNOW := Lib.hid hnow
  have H := Lib.hid h
  clear hnow h hr0 hw0 hm0
  go_enter Try.func22, Try.ntmps22
  go_wp2_with fail
  refine (there_c S n ws w H.out).mono ?_
  rintro e w1 ⟨rfl, rfl⟩
  go_wp2_with fail
  refine (eload_c hG S n ws hS 0 (by omega) w L (by omega) hg H.out).mono ?_
  rintro e w1 ⟨rfl, hg1, hs1⟩
  rw [← HNOW.out]
  have H1 := Lib.hid (H.out.sm hs1 (by omega))
  have HS1 := Lib.hid (hs1.mono (F' := fun b => b = S ∨ nb ≤ b) (fun b hb => .inr hb))
  have hl1 : (L ++ [((1 : Int), ((0 : Nat) : Int))]).length < 999961 := by simp; omega
  clear hs1
  go_wp2_with fail
  refine (behind_c hG S n ws hS now w1 _ (by omega) hg1 H1.out).mono ?_
  rintro e w2 ⟨rfl, hg2, hs2⟩
  have H2 := Lib.hid (H1.out.sm hs2 (by omega))
  have HS2 := Lib.hid (HS1.out.trans (hs2.mono (F' := fun b => b = S ∨ nb ≤ b) (fun b hb => .inr hb)))
  have hsl := scan_len ws now n 1
  clear hs2 HS1 H1
  cases hsc : (scan ws now 1 n).1 with
  | true =>
    go_wp2_with fail
    go_ret3
    rw [HR0.out, HW0.out, HM0.out, if_pos hsc, if_pos hsc, if_pos hsc]
    exact ⟨rfl, by simpa using hg2, HS2.out, H2.out⟩
  | false =>
    have hne : ¬ (scan ws now 1 n).1 = true := by rw [hsc]; decide
    have HNE := Lib.hid hne
    have hl2 : (L ++ [((1 : Int), ((0 : Nat) : Int))] ++ (scan ws now 1 n).2).length < 999990 := by simp at hl1 ⊢; omega
    have hwr : IntKind.u64.wrap ((now : Int) + 1) = ((now + 1 : Nat) : Int) := by rw [IntKind.wrap_u64]; omega
    have HWR := Lib.hid hwr
    clear hne hwr
    have hend : ∀ w3 : World, G w3 (L ++ [((1 : Int), ((0 : Nat) : Int))] ++ (scan ws now 1 n).2 ++ [(5, 0)]) → Dom S n ws w3 → Sm (fun b => b = S ∨ nb ≤ b) w w3 → Hid (EEnd G S n nb w (L ++ moveM ws n) (moveW ws n) (w3.setCell ⟨S, 1 + 0, none⟩ (.int .u64 ((now + 1 : Nat) : Int)))) := fun w3 hg3 h3 hs3 => Lib.hid (by
      rw [HW0.out, HM0.out, if_neg HNE.out, if_neg HNE.out]
      have k : Sm (fun b => b = S) w3 (w3.setCell ⟨S, 1 + 0, none⟩ (.int .u64 ((now + 1 : Nat) : Int))) := Sm.setCell (F := fun b => b = S) (p := ⟨S, 1 + 0, none⟩) (Sm.refl _ _) rfl _
      exact ⟨hG.keep (by simpa using hg3) k (fun b hb e => by omega), hs3.trans (k.mono (fun b e => .inl e)), h3.set 0 (now + 1)⟩)
    obtain ⟨rfl, hk⟩ := hG.kind
    · have hc : w2.cell? ⟨S, 1, none⟩ = some (.int .u64 (now : Int)) := by have := H2.out.cell 0 (by omega); rwa [← HNOW.out] at this
      have hf := H2.out.row.free 1
      have HE := hend w2 (hk _ _) H2.out HS2.out
      clear hend
      go_wp2_with fail
      try rw [HWR.out]
      refine (acas_hit _ _ _ w2 hc hf).mono ?_
      rintro e w3 ⟨rfl, rfl⟩
      go_wp2_with fail
      go_ret3
      rw [HR0.out, if_neg HNE.out]
      exact ⟨by first | rfl | (rw [HWR.out]) | simp, HE.out⟩
end Go.Proofs.Ytpmnmgemdaoigaa
