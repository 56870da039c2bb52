/- give, Push and Pop, walked alone, whatever the gate. -/
import Derived.Test.YtmcffabfghhpaaaStkB
namespace Go.Proofs.Ytmcffabfghhpaaa
open Go.RowKit
set_option linter.unusedVariables false

set_option maxHeartbeats 400000 in
theorem give_c {g : Value} {B S N : Nat} {G : World → List (Int × Int) → Prop} (hG : GateOk g B S N G) (hSN : S ≠ N) (hBS : B ≤ S) (hBN : B ≤ N) (n t i lo : Nat) (hl : t % 4294967296 = lo) (u : Value) (top : Nat) (htop : top < 2) (c : Array Value) (hc : c[top]? = some (.int .u64 (t : Int)))
    (hs : c[2]? = some (.slice (some ⟨N, 0, none⟩) n n)) (hn : n ≤ 1024) (ht : t < 18446744073709551616) (hin : i < n) (d : Array Value) (hd : d[2 * i]? = some u)
    (w : World) (L : List (Int × Int)) (hL : L.length + 20 ≤ 1000000) (hg : G w L) (hr : Row w S c 107) (hrn : Row w N d 113) :
    Calls Try.prog 47 #[.pointer (some ⟨S, 0, none⟩), g, .int .i64 top, .int .u64 i] w fun e w' =>
      e = .returned (.tuple #[]) ∧ G w' (L ++ [(1, (top : Int)), (2, 2 + 2 * (i : Int)), (5, (top : Int))]) ∧ Below B w w' ∧ Row w' S (c.setIfInBounds top (.int .u64 (fol t (i + 1) : Nat))) 107 ∧ Row w' N (d.setIfInBounds (2 * i) (.int .u64 (lo : Int))) 113 := by
  go_enter Try.func47, Try.ntmps47
  go_wp2
  go_step3
  go_wp2
  go_step3
  go_wp2
  refine wp_loop_rounds 1 ?_
  rw [rounds_succ]
  have HC := Lib.hid hc
  have HD := Lib.hid hd
  have HX := Lib.hid hs
  clear hc hd hs
  go_wp2_with fail
  refine (hG.step _ _ _ _ (by (try simp only [List.length_append, List.length_cons, List.length_nil]); omega) hg).mono ?_
  rintro e w1 ⟨rfl, hg1, hb1, hS1, hN1⟩
  have hr1 := Row.of_heap hr hS1
  have hn1 := Row.of_heap hrn hN1
  clear hS1 hN1
  have hc1 : w1.cell? ⟨S, top, none⟩ = some (.int .u64 (t : Int)) := (hr1.cell top).trans HC.out
  go_wp2_with fail
  refine (aload _ _ _ hc1).mono ?_
  rintro e w1 ⟨rfl, rfl⟩
  have ha : bits .and .u64 (t : Int) 4294967295 = (lo : Int) := by
    rw [and_low t ht, hl]
  clear hl
  go_wp2_with fail
  refine (nextWord_c i (by omega) _).mono ?_
  rintro e w1 ⟨rfl, rfl⟩
  go_wp2_with fail
  refine (hG.step _ _ _ _ (by (try simp only [List.length_append, List.length_cons, List.length_nil]); omega) hg1).mono ?_
  rintro e w2 ⟨rfl, hg2, hb2, hS2, hN2⟩
  have hr2 := Row.of_heap hr1 hS2
  have hn2 := Row.of_heap hn1 hN2
  clear hS2 hN2
  have hx2 : w2.cell? ⟨S, 2, none⟩ = some (.slice (some ⟨N, 0, none⟩) n n) := (hr2.cell 2).trans HX.out
  have hd2 : w2.cell? ⟨N, i * 2, none⟩ = some u := by
    rw [Nat.mul_comm]
    exact (hn2.cell (2 * i)).trans HD.out
  have hf2 : w2.frozen? ⟨N, i * 2, none⟩ = false := hn2.free _
  go_wp2_with fail
  refine (astore _ _ _ _ hd2 hf2).mono ?_
  rintro e wx ⟨rfl, rfl⟩
  obtain ⟨w3, hw3⟩ : ∃ w3 : World, w3 = w2.setCell ⟨N, i * 2, none⟩ (.int .u64 (lo : Int)) := ⟨_, rfl⟩
  rw [← hw3]
  have hr3 : Row w3 S c 107 := by rw [hw3]; exact hr2.set_ne (fun e => hSN e.symm) _
  have hn3 : Row w3 N (d.setIfInBounds (2 * i) (.int .u64 (lo : Int))) 113 := by
    rw [hw3, Nat.mul_comm]
    exact hn2.set _ _
  have hg3 := hG.keep _ w3 _ hg2 (by rw [hw3]; exact (Sm.refl _ w2).setCell (.inr rfl) _)
  have hb3 : Below B w2 w3 := by rw [hw3]; exact (Below.refl _ _).setCell hBN _
  clear hw3 hd2 hf2 hx2
  go_wp2_with fail
  refine (hG.step _ _ _ _ (by (try simp only [List.length_append, List.length_cons, List.length_nil]); omega) hg3).mono ?_
  rintro e w4 ⟨rfl, hg4, hb4, hS4, hN4⟩
  have hr4 := Row.of_heap hr3 hS4
  have hn4 := Row.of_heap hn3 hN4
  clear hS4 hN4
  go_wp2_with fail
  have hc4 : w4.cell? ⟨S, top, none⟩ = some (.int .u64 (t : Int)) := (hr4.cell top).trans HC.out
  have hf4 : w4.frozen? ⟨S, top, none⟩ = false := hr4.free top
  have hi1 : i + 1 < 4294967296 := by omega
  have hw1 : IntKind.u64.wrap ((i : Int) + 1) = (i : Int) + 1 := by
    rw [IntKind.wrap_u64]
    omega
  go_region_with (first | (go_at_call 69; refine (follower_s t i ht hi1 _).mono ?_; rintro e w' ⟨rfl, rfl⟩) | (go_at_call 68; refine (acas_hit _ _ _ w4.drew hc4 hf4).mono ?_; rintro e w' ⟨rfl, rfl⟩))
  all_goals
    go_wp2
    rw [Exit.noGoto_ret]
    refine bodyPost_ret (results_none rfl _ _ _) rfl ?_
    refine ⟨rfl, ?_, ?_, ?_, ?_⟩
    · have e : L ++ [(1, (top : Int)), (2, 2 + 2 * (i : Int)), (5, (top : Int))] = L ++ [(1, (top : Int))] ++ [(2, 2 + 2 * (i : Int))] ++ [(5, (top : Int))] := by simp
      rw [e]
      exact hG.keep _ _ _ hg4 ((Sm.refl _ w4).drew.setCell (.inl rfl) _)
    · exact (((hb1.trans hb2).trans hb3).trans hb4).drew.setCell hBS _
    · exact hr4.drew.set top _
    · exact hn4.drew.set_ne hSN _
theorem none_c (S : Nat) (c : Array Value) (N n : Nat) (hs : c[2]? = some (.slice (some ⟨N, 0, none⟩) n n)) (hn : 0 < n) (w : World) (hr : Row w S c 107) :
    Calls Try.prog 43 #[.pointer (some ⟨S, 0, none⟩)] w fun e w' => e = .returned (.bool false) ∧ w = w' := by
  have h2 : w.cell? ⟨S, 2, none⟩ = some (.slice (some ⟨N, 0, none⟩) n n) := (hr.cell 2).trans hs
  have hz : (((n : Nat) : Int) == 0) = false := by rw [beq_eq_false_iff_ne]; omega
  clear hs
  go_enter Try.func43, Try.ntmps43
  go_wp2
  go_ret
  exact ⟨rfl, rfl⟩

theorem slots_c (S : Nat) (c : Array Value) (N n : Nat) (hs : c[2]? = some (.slice (some ⟨N, 0, none⟩) n n)) (hn : 0 < n) (w : World) (hr : Row w S c 107) :
    Calls Try.prog 15 #[.pointer (some ⟨S, 0, none⟩)] w fun e w' => e = .returned (.int .i64 n) ∧ w = w' := by
  have h2 : w.cell? ⟨S, 2, none⟩ = some (.slice (some ⟨N, 0, none⟩) n n) := (hr.cell 2).trans hs
  have h := none_c S c N n hs hn w hr
  clear hs
  go_enter Try.func15, Try.ntmps15
  go_wp2_with fail
  refine h.mono ?_
  rintro e w' ⟨rfl, rfl⟩
  go_wp2
  go_ret
  exact ⟨rfl, rfl⟩
end Go.Proofs.Ytmcffabfghhpaaa
