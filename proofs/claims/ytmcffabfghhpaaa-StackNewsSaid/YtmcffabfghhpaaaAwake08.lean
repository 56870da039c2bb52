/- patchbaylaw08.awake, walked alone: true. -/
import Derived.Test.YtmcffabfghhpaaaStkG
import Derived.Test.YtmcffabfghhpaaaMarks
namespace Go.Proofs.Ytmcffabfghhpaaa
open Go.RowKit
set_option linter.unusedVariables false

theorem bits_two : bits .and .i64 ((2 : Nat) : Int) (((2 : Nat) : Int) - 1) = 0 := by decide

def awakeMarks : List (Int × Int) := [(1, 1), (1, 2), (5, 1), (2, 3), (1, 0), (2, 2), (5, 0)]

set_option maxRecDepth 100000 in
set_option maxHeartbeats 800000 in
theorem awake_c (w : World) :
    Calls Try.prog 10 #[] w fun e w' => e = .returned (.bool true) ∧ Sm (fun _ => False) w w' := by
  go_enter Try.func10, Try.ntmps10
  go_wp2_with fail
  refine (new_ok 2 (by decide) (by decide) bits_two w).mono ?_
  rintro e w1 ⟨rfl, hb1, hs1⟩
  have hz1 : w.heap.size + 2 ≤ w1.heap.size := by have := hs1.rS.lt; omega
  obtain ⟨S, hS⟩ : ∃ S, S = w.heap.size + 1 := ⟨_, rfl⟩
  obtain ⟨N, hN⟩ : ∃ N, N = w.heap.size := ⟨_, rfl⟩
  rw [← hS, ← hN] at hs1
  rw [← hS]
  have hm : Sm (fun _ => False) w w1 := ⟨hb1.os, hb1.tape, hb1.output, hb1.size, fun k hk _ => hb1.block k hk⟩
  have HS := Lib.hid hS
  have HN := Lib.hid hN
  clear hS hN
  go_wp2_with fail
  refine (newNotes_c w1).mono ?_
  rintro e w2 ⟨rfl, hb2, hn2, hz2⟩
  have hg2 : w1.heap.size < w2.heap.size ∧ Noted w1.heap.size w2 [] := ⟨by omega, hn2⟩
  have hs2 : Stk S N 2 0 1 (memK 2 1) w2 := { hs1 with rS := hs1.rS.sm hb2 (fun h => h), rN := hs1.rN.sm hb2 (fun h => h) }
  have hSN : N < w1.heap.size ∧ S < w1.heap.size := by rw [HS.out, HN.out]; omega
  have hBN : w.heap.size ≤ N ∧ w.heap.size ≤ S := by rw [HS.out, HN.out]; omega
  obtain ⟨nb, hnb⟩ : ∃ nb, nb = w1.heap.size := ⟨_, rfl⟩
  rw [← hnb] at hg2 hSN
  rw [← hnb]
  have HNB := Lib.hid hnb
  clear hnb hn2 hz2
  have G1 := gate_note w.heap.size S N nb hSN.2 hSN.1 (by rw [HNB.out]; omega)
  have G0 := gate_nilX w.heap.size S N (fun w => nb < w.heap.size ∧ Noted nb w awakeMarks) (fun w w' h k => ⟨Nat.lt_of_lt_of_le h.1 k.size, h.2.sm k (fun b hb => by omega)⟩)
  have P1 := Lib.hid (push_ok G1 hBN.2 hBN.1 2 0 1 0 2 0 (memK 2 1) 5 (by decide) w2 [] (by decide) hg2 hs2 (by decide) (by decide) (fun h => by revert h; decide) (by decide))
  have GG1 := Lib.hid G1
  have GG0 := Lib.hid G0
  clear G1 G0 hg2 hs2 hs1
  go_wp2_with fail
  refine P1.out.mono ?_
  rintro e w3 ⟨rfl, hg3, hb3, hs3⟩
  have HG3 := Lib.hid hg3
  have P2 := Lib.hid (push_ok GG0.out hBN.2 hBN.1 2 (fol 0 (0 + 1)) (fol 1 2) 1 0 1 (((memK 2 1).set (2 * 0 + 1) 5).set (2 * 0) 0) 6 (by decide) w3 [] (by decide) hg3 hs3 (by decide) (by decide) (fun h => by revert h; decide) (by decide))
  clear hg3 hs3
  go_wp2_with fail
  refine P2.out.mono ?_
  rintro e w4 ⟨rfl, hg4, hb4, hs4⟩
  have P3 := Lib.hid (push_full GG0.out 2 _ _ _ 7 w4 [] (by decide) hg4 hs4 (by decide))
  clear hs4 hg4
  go_wp2_with fail
  refine P3.out.mono ?_
  rintro e w5 ⟨rfl, hg5, hb5, hs5⟩
  have P4 := Lib.hid (pop_ok GG0.out hBN.2 hBN.1 2 _ _ 1 1 0 6 _ w5 [] (by decide) hg5 hs5 (by decide) (by decide) (fun h => by revert h; decide) (fun h => by revert h; decide) (by decide))
  clear hs5 hg5
  go_wp2_with fail
  refine P4.out.mono ?_
  rintro e w6 ⟨rfl, hg6, hb6, hs6⟩
  have HG6 := Lib.hid hg6
  clear hs6 hg6
  go_wp2_with fail
  refine (marks_c nb awakeMarks _ ((HG6.out.2).alloc _) (by decide)).mono ?_
  rintro e w7 ⟨v7, rfl, h7, hb7⟩
  have H7 := Lib.hid h7
  clear h7
  go_wp2_with fail
  have hrow : Row w7 w6.heap.size (mks awakeMarks).toArray 110 := (Row.new w6 (mks awakeMarks).toArray 110).sm hb7 (fun h => h)
  refine (sameMarks_c v7 _ awakeMarks awakeMarks w7 (own_zero H7.out) (own_row hrow 7 2 rfl (by unfold maxLen; omega)) (by decide)).mono ?_
  rintro e w8 ⟨rfl, hb8⟩
  go_wp2
  go_ret
  refine ⟨by simp, ?_⟩
  have hb : Below w.heap.size w w6 := ((((hb1.trans (hb2.below (by omega) (fun k h => h.elim))).trans hb3).trans hb4).trans hb5).trans hb6
  have hsm : Sm (fun _ => False) w w6 := ⟨hb.os, hb.tape, hb.output, hb.size, fun k hk _ => hb.block k hk⟩
  exact ((hsm.alloc _).trans hb7).trans hb8
end Go.Proofs.Ytmcffabfghhpaaa
