/- epoch: Pin, Unpin, Safe, whatever the gate. -/
import Derived.Test.YtpmnmgemdaoigaaEpoB0
namespace Go.Proofs.Ytpmnmgemdaoigaa
open Go.RowKit
set_option linter.unusedVariables false
set_option linter.unusedSimpArgs false

/-- What is left behind a call: the gate told so many marks more, the domain's words. -/
def EEnd (G : World → List (Int × Int) → Prop) (S n nb : Nat) (w : World) (L : List (Int × Int)) (ws : List Nat) (w' : World) : Prop :=
  G w' L ∧ Sm (fun b => b = S ∨ nb ≤ b) w w' ∧ Dom S n ws w'

def pinR (ws : List Nat) (s : Nat) : Nat × Nat := if ws.getD (1 + s) 0 = 0 then (ws.getD 0 0, 0) else (0, 90)
def pinW (ws : List Nat) (s : Nat) : List Nat := if ws.getD (1 + s) 0 = 0 then ws.set (1 + s) (ws.getD 0 0) else ws
def pinM (ws : List Nat) (s : Nat) : List (Int × Int) := if ws.getD (1 + s) 0 = 0 then [(1, ((1 + s : Nat) : Int)), (1, 0), (2, ((1 + s : Nat) : Int)), (1, 0)] else [(1, ((1 + s : Nat) : Int))]

theorem getD_set0 (ws : List Nat) (s v : Nat) : (ws.set (1 + s) v).getD 0 0 = ws.getD 0 0 := by
  simp [List.getD, List.getElem?_set]

set_option maxRecDepth 20000 in
set_option maxHeartbeats 800000 in
theorem pin_c {g : Value} {nb : Nat} {G : World → List (Int × Int) → Prop} (hG : GateG g nb G) (S n : Nat) (ws : List Nat) (hS : S < nb) (s : Nat) (hs : s < n) (w : World) (L : List (Int × Int)) (hL : L.length < 999990) (hg : G w L) (h : Dom S n ws w) :
    Calls Try.prog 20 #[.pointer (some ⟨S, 0, none⟩), g, .int .i64 (s : Int)] w fun e w' =>
      e = .returned (.tuple #[.int .u64 ((pinR ws s).1 : Int), .int .i64 ((pinR ws s).2 : Int)]) ∧ EEnd G S n nb w (L ++ pinM ws s) (pinW ws s) w' := by
  have hn := h.le
  obtain ⟨k, hk⟩ : ∃ k, k = 1 + s := ⟨_, rfl⟩
  obtain ⟨x, hx⟩ : ∃ x, x = ws.getD k 0 := ⟨_, rfl⟩
  obtain ⟨now, hnow⟩ : ∃ now, now = ws.getD 0 0 := ⟨_, rfl⟩
  have HW := Lib.hid (word_ok S n ws s hs w h)
  rw [← hk] at HW
  have HK := Lib.hid hk
  have HX := Lib.hid hx
  have HNOW := Lib.hid hnow
  have H := Lib.hid h
  have HKL := Lib.hid (show k ≤ 16 by omega)
  have hk0 : ((k : Nat) : Int) = (k : Int) := rfl
  clear hk hx hnow h hk0
  go_enter Try.func20, Try.ntmps20
  go_wp2_with fail
  refine HW.out.mono ?_
  rintro e w1 ⟨rfl, rfl⟩
  go_wp2_with fail
  refine (eload_c hG S n ws hS k HKL.out w L (by omega) hg H.out).mono ?_
  rintro e w1 ⟨rfl, hg1, hs1⟩
  rw [← HX.out]
  have H1 := Lib.hid (H.out.sm hs1 (by omega))
  have HS1 := Lib.hid (hs1.mono (F' := fun b => b = S ∨ nb ≤ b) (fun b hb => .inr hb))
  have hl1 : (L ++ [((1 : Int), (k : Int))]).length < 999991 := by simp; omega
  clear hs1
  by_cases h0 : x = 0
  · subst h0
    have hr : pinR ws s = (now, 0) ∧ pinW ws s = ws.set k now ∧ pinM ws s = [((1 : Int), (k : Int)), (1, 0), (2, (k : Int)), (1, 0)] := by
      unfold pinR pinW pinM
      rw [← HK.out, ← HX.out, ← HNOW.out]
      simp
    have HR := Lib.hid hr
    clear hr
    go_wp2_with fail
    refine (eload_c hG S n ws hS 0 (by omega) w1 _ (by omega) hg1 H1.out).mono ?_
    rintro e w2 ⟨rfl, hg2, hs2⟩
    rw [← HNOW.out]
    have H2 := Lib.hid (H1.out.sm hs2 (by omega))
    have HS2 := Lib.hid (HS1.out.trans (hs2.mono (F' := fun b => b = S ∨ nb ≤ b) (fun b hb => .inr hb)))
    have hl2 : (L ++ [((1 : Int), (k : Int))] ++ [((1 : Int), ((0 : Nat) : Int))]).length < 999992 := by simp; omega
    clear hs2 HS1 H1
    go_wp2_with fail
    refine wp_loop_rounds 1 ?_
    rw [rounds_succ]
    go_wp2_with fail
    refine (estore_c hG S n ws hS k now HKL.out w2 _ (by omega) hg2 H2.out).mono ?_
    rintro e w3 ⟨rfl, hg3, hs3, h3⟩
    have H3 := Lib.hid h3
    have HS3 := Lib.hid (HS2.out.trans hs3)
    have hl3 : (L ++ [((1 : Int), (k : Int))] ++ [((1 : Int), ((0 : Nat) : Int))] ++ [((2 : Int), (k : Int))]).length < 999993 := by simp; omega
    clear hs3 h3 HS2 H2
    go_wp2_with fail
    refine (eload_c hG S n (ws.set k now) hS 0 (by omega) w3 _ (by omega) hg3 H3.out).mono ?_
    rintro e w4 ⟨rfl, hg4, hs4⟩
    have hgd : (ws.set k now).getD 0 0 = now := by rw [HK.out, getD_set0, ← HNOW.out]
    rw [hgd]
    have H4 := Lib.hid (H3.out.sm hs4 (by omega))
    have HS4 := Lib.hid (HS3.out.trans (hs4.mono (F' := fun b => b = S ∨ nb ≤ b) (fun b hb => .inr hb)))
    clear hs4 H3 HS3 hgd
    go_wp2
    go_ret2
    rw [HR.out.1, HR.out.2.1, HR.out.2.2]
    exact ⟨rfl, by simpa using hg4, HS4.out, H4.out⟩
  · have hr : pinR ws s = (0, 90) ∧ pinW ws s = ws ∧ pinM ws s = [((1 : Int), (k : Int))] := by
      unfold pinR pinW pinM
      rw [← HK.out, ← HX.out, if_neg h0, if_neg h0, if_neg h0]
      exact ⟨rfl, rfl, rfl⟩
    have HR := Lib.hid hr
    have j1 : ¬ ((x : Nat) : Int) = 0 := by omega
    clear hr h0
    go_wp2
    go_ret2
    rw [HR.out.1, HR.out.2.1, HR.out.2.2]
    exact ⟨rfl, hg1, HS1.out, H1.out⟩
end Go.Proofs.Ytpmnmgemdaoigaa
