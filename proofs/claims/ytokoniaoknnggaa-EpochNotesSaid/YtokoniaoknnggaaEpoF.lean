/- epoch: works of the statements. -/
import Derived.Test.YtokoniaoknnggaaEpoE
namespace Go.Proofs.Ytokoniaoknnggaa
open Go.RowKit
set_option linter.unusedVariables false
set_option linter.unusedSimpArgs false

set_option maxRecDepth 100000 in
set_option maxHeartbeats 1600000 in
theorem eworks_c (w : World) : Calls Try.prog 7 #[] w fun e w' => e = .returned (.bool true) ∧ Sm (fun _ => False) w w' := by
  go_enter Try.func7, Try.ntmps7
  go_wp2_with fail
  refine (enew_ok 2 (by decide) (by decide) w).mono ?_
  rintro e w1 ⟨rfl, hs1, hd1⟩
  obtain ⟨S, hS⟩ : ∃ S, S = w.heap.size := ⟨_, rfl⟩
  rw [← hS] at hd1 ⊢
  have hnb : S < S + 1 := Nat.lt_succ_self S
  have HS1 := Lib.hid (hs1.mono (F' := fun b => w.heap.size ≤ b) (fun _ h => h.elim))
  have HSS := Lib.hid hS
  have H1 := Lib.hid hd1
  have HG := Lib.hid (gateG_nil (S + 1))
  clear hs1 hd1 hS
  go_wp2_with fail
  refine (pin_c HG.out S 2 words0 hnb 0 (by decide) w1 [] (by decide) trivial H1.out).mono ?_
  rintro e w2 ⟨rfl, -, hs2, hd2⟩
  have hp : pinR words0 0 = (1, 0) ∧ pinW words0 0 = 1 :: 1 :: List.replicate 15 0 := by decide
  rw [hp.1]
  rw [hp.2] at hd2
  have H2 := Lib.hid hd2
  have HS2 := Lib.hid (HS1.out.trans (hs2.mono (F' := fun b => w.heap.size ≤ b) (fun b hb => by have := HSS.out; omega)))
  clear hs2 hd2 hp HS1 H1
  go_wp2_with fail
  refine (move_c HG.out S 2 (1 :: 1 :: List.replicate 15 0) hnb (by decide) w2 [] (by decide) trivial H2.out).mono ?_
  rintro e w3 ⟨rfl, -, hs3, hd3⟩
  have hp : moveR (1 :: 1 :: List.replicate 15 0) 2 = (2, true) ∧ moveW (1 :: 1 :: List.replicate 15 0) 2 = 2 :: 1 :: List.replicate 15 0 := by decide
  rw [hp.1]
  rw [hp.2] at hd3
  have H3 := Lib.hid hd3
  have HS3 := Lib.hid (HS2.out.trans (hs3.mono (F' := fun b => w.heap.size ≤ b) (fun b hb => by have := HSS.out; omega)))
  clear hs3 hd3 hp HS2 H2
  go_wp2_with fail
  refine (move_c HG.out S 2 (2 :: 1 :: List.replicate 15 0) hnb (by decide) w3 [] (by decide) trivial H3.out).mono ?_
  rintro e w4 ⟨rfl, -, hs4, hd4⟩
  have hp : moveR (2 :: 1 :: List.replicate 15 0) 2 = (0, false) ∧ moveW (2 :: 1 :: List.replicate 15 0) 2 = 2 :: 1 :: List.replicate 15 0 := by decide
  rw [hp.1]
  rw [hp.2] at hd4
  have H4 := Lib.hid hd4
  have HS4 := Lib.hid (HS3.out.trans (hs4.mono (F' := fun b => w.heap.size ≤ b) (fun b hb => by have := HSS.out; omega)))
  clear hs4 hd4 hp HS3 H3
  go_wp2_with fail
  refine (unpin_c HG.out S 2 (2 :: 1 :: List.replicate 15 0) hnb 0 (by decide) w4 [] (by decide) trivial H4.out).mono ?_
  rintro e w5 ⟨rfl, -, hs5, hd5⟩
  have hp : unpinR (2 :: 1 :: List.replicate 15 0) 0 = 0 ∧ unpinW (2 :: 1 :: List.replicate 15 0) 0 = 2 :: List.replicate 16 0 := by decide
  rw [hp.1]
  rw [hp.2] at hd5
  have H5 := Lib.hid hd5
  have HS5 := Lib.hid (HS4.out.trans (hs5.mono (F' := fun b => w.heap.size ≤ b) (fun b hb => by have := HSS.out; omega)))
  clear hs5 hd5 hp HS4 H4
  go_wp2_with fail
  refine (move_c HG.out S 2 (2 :: List.replicate 16 0) hnb (by decide) w5 [] (by decide) trivial H5.out).mono ?_
  rintro e w6 ⟨rfl, -, hs6, hd6⟩
  have hp : moveR (2 :: List.replicate 16 0) 2 = (3, true) ∧ moveW (2 :: List.replicate 16 0) 2 = 3 :: List.replicate 16 0 := by decide
  rw [hp.1]
  rw [hp.2] at hd6
  have H6 := Lib.hid hd6
  have HS6 := Lib.hid (HS5.out.trans (hs6.mono (F' := fun b => w.heap.size ≤ b) (fun b hb => by have := HSS.out; omega)))
  clear hs6 hd6 hp HS5 H5
  go_wp2_with fail
  refine (safe_c HG.out S 2 (3 :: List.replicate 16 0) hnb 1 (by decide) (by decide) w6 [] (by decide) trivial H6.out).mono ?_
  rintro e w7 ⟨rfl, -, hs7⟩
  have hp : safeR (3 :: List.replicate 16 0) 1 = true := by decide
  rw [hp]
  have HS7 := Lib.hid (HS6.out.trans (hs7.mono (F' := fun b => w.heap.size ≤ b) (fun b hb => by have := HSS.out; omega)))
  clear hs7 hp HS6 H6
  go_wp2_with fail
  go_ret
  exact ⟨rfl, Sm.new HS7.out (fun b hb => hb)⟩
end Go.Proofs.Ytokoniaoknnggaa
