/- The leaves of package stack, walked alone: follower, nextWord, valueWord, none, step. -/
import Derived.Test.YtmcffabfghhpaaaFwAF
import Derived.Test.YtmcffabfghhpaaaFwAB
import Derived.Laws.BitsAllLaws
import Derived.BigQuiet
import Derived.Deep.QuietTactic
import Derived.Deep.RegionWith
import Derived.Outline
import Derived.Test.YtmcffabfghhpaaaFwAJ
import Derived.LoopTactic
import Derived.Handy
set_option linter.unusedVariables false
set_option linter.unusedSimpArgs false
/- The leaves of package stack, walked alone: follower, nextWord, valueWord, none, step. -/
namespace Go.Proofs.Ytmcffabfghhpaaa
open Go.RowKit
set_option linter.unusedVariables false

/-- The top that follows t, with m. -/
def fol (t m : Nat) : Nat := (t / 4294967296 + 1) % 4294967296 * 4294967296 + m

theorem fol_lt (t m : Nat) (hm : m < 4294967296) : fol t m < 18446744073709551616 := by
  unfold fol
  have := Nat.mod_lt (t / 4294967296 + 1) (show 0 < 4294967296 by decide)
  omega
theorem fol_low (t m : Nat) (hm : m < 4294967296) : fol t m % 4294967296 = m := by unfold fol; omega

theorem fol_spec (t m : Nat) (ht : t < 18446744073709551616) (hm : m < 4294967296) :
    bits .or .u64 (IntKind.u64.wrap (IntKind.u64.wrap ((t : Int) + 4294967296) / 4294967296 * 4294967296)) (m : Int) = ((fol t m : Nat) : Int) := by
  have e : IntKind.u64.wrap (IntKind.u64.wrap ((t : Int) + 4294967296) / 4294967296 * 4294967296) = (((t / 4294967296 + 1) % 4294967296 * 4294967296 : Nat) : Int) := by
    rw [IntKind.wrap_u64, IntKind.wrap_u64]
    omega
  rw [e, or_join _ _ (by omega) (by have := Nat.mod_lt (t / 4294967296 + 1) (show 0 < 4294967296 by decide); omega) hm]
  rfl

theorem follower_c (t m : Nat) (ht : t < 18446744073709551616) (hm : m < 4294967296) (w : World) :
    Calls Try.prog 69 #[.int .u64 t, .int .u64 m] w fun e w' => e = .returned (.int .u64 (fol t m : Nat)) ∧ w = w' := by
  have H := Lib.hid (fol_spec t m ht hm)
  go_enter Try.func69, Try.ntmps69
  go_wp2
  go_ret
  refine ⟨?_, rfl⟩
  apply ret_u64
  have := H.out
  simpa using this

theorem follower_s (t i : Nat) (ht : t < 18446744073709551616) (hm : i + 1 < 4294967296) (w : World) :
    Calls Try.prog 69 #[.int .u64 t, .int .u64 ((i : Int) + 1)] w fun e w' => e = .returned (.int .u64 (fol t (i + 1) : Nat)) ∧ w = w' := by
  have h := follower_c t (i + 1) ht hm w
  rw [show ((i + 1 : Nat) : Int) = (i : Int) + 1 from by omega] at h
  exact h

theorem nextWord_c (i : Nat) (hi : i < 4294967296) (w : World) :
    Calls Try.prog 67 #[.int .u64 i] w fun e w' => e = .returned (.int .i64 (2 + 2 * (i : Int))) ∧ w = w' := by
  go_enter Try.func67, Try.ntmps67
  go_wp2
  go_ret
  exact ⟨rfl, rfl⟩

theorem valueWord_c (i : Nat) (hi : i < 4294967296) (w : World) :
    Calls Try.prog 46 #[.int .u64 i] w fun e w' => e = .returned (.int .i64 (3 + 2 * (i : Int))) ∧ w = w' := by
  go_enter Try.func46, Try.ntmps46
  go_wp2
  go_ret
  exact ⟨rfl, rfl⟩

theorem step_nil (op wd : Int) (w : World) :
    Calls Try.prog 45 #[.nilIface, .int .u8 op, .int .i64 wd] w fun e w' => e = .returned (.tuple #[]) ∧ w = w' := by
  go_enter Try.func45, Try.ntmps45
  go_wp2
  go_end0
  exact ⟨rfl, rfl⟩
end Go.Proofs.Ytmcffabfghhpaaa
/- take and give, walked alone, whatever the gate. -/
namespace Go.Proofs.Ytmcffabfghhpaaa
open Go.RowKit
set_option linter.unusedVariables false

/-- What is asked of a gate: what it is told it keeps; it leaves the stack's two blocks alone, and all below B. -/
structure GateOk (g : Value) (B S N : Nat) (G : World → List (Int × Int) → Prop) : Prop where
  step : ∀ (w : World) (L : List (Int × Int)) (op wd : Int), L.length < 1000000 → G w L → Calls Try.prog 45 #[g, .int .u8 op, .int .i64 wd] w fun e w' =>
    e = .returned (.tuple #[]) ∧ G w' (L ++ [(op, wd)]) ∧ Below B w w' ∧ w'.heap[S]? = w.heap[S]? ∧ w'.heap[N]? = w.heap[N]?
  keep : ∀ (w w' : World) (L : List (Int × Int)), G w L → Sm (fun k => k = S ∨ k = N) w w' → G w' L

def uw (m : List Nat) : Array Value := (m.map fun (x : Nat) => Value.int .u64 (x : Int)).toArray
def hdr (t0 t1 N n : Nat) : Array Value := #[.int .u64 t0, .int .u64 t1, .slice (some ⟨N, 0, none⟩) n n]

theorem uw_get (m : List Nat) (i : Nat) (h : i < m.length) : (uw m)[i]? = some (.int .u64 (m[i] : Nat)) := by
  simp [uw, h]
theorem uw_set (m : List Nat) (i v : Nat) : (uw m).setIfInBounds i (.int .u64 (v : Int)) = uw (m.set i v) := by
  simp [uw, List.map_set]

set_option maxHeartbeats 400000 in
theorem take_none {g : Value} {B S N : Nat} {G : World → List (Int × Int) → Prop} (hG : GateOk g B S N G) (n t : Nat) (top : Nat) (htop : top < 2) (c : Array Value) (hc : c[top]? = some (.int .u64 (t : Int))) (ht : t < 18446744073709551616)
    (h0 : t % 4294967296 = 0) (w : World) (L : List (Int × Int)) (hL : L.length + 20 ≤ 1000000) (hg : G w L) (hr : Row w S c 107) :
    Calls Try.prog 44 #[.pointer (some ⟨S, 0, none⟩), g, .int .i64 top] w fun e w' =>
      e = .returned (.tuple #[.int .u64 0, .bool false]) ∧ G w' (L ++ [(1, (top : Int))]) ∧ Below B w w' ∧ w'.heap[S]? = w.heap[S]? ∧ w'.heap[N]? = w.heap[N]? := by
  go_enter Try.func44, Try.ntmps44
  go_wp2
  go_step3
  go_wp2
  go_step3
  go_wp2
  refine wp_loop_rounds 1 ?_
  rw [rounds_succ]
  have HC := Lib.hid hc
  clear hc
  go_wp2_with (go_at_call 45; refine (hG.step _ _ _ _ (by (try simp only [List.length_append, List.length_cons, List.length_nil]); omega) hg).mono ?_; rintro e w1 ⟨rfl, hg1, hb1, hS1, hN1⟩; have hc1 : w1.cell? ⟨S, top, none⟩ = some (.int .u64 (t : Int)) := ((Row.of_heap hr hS1).cell top).trans HC.out; have HS := Lib.hid hS1; have HN := Lib.hid hN1; clear hS1 hN1)
  refine (aload _ _ _ hc1).mono ?_
  rintro e w1 ⟨rfl, rfl⟩
  have ha := and_low t ht
  rw [h0] at ha
  go_wp2
  rw [Exit.noGoto_ret]
  go_ret2
  exact ⟨rfl, hg1, hb1, HS.out, HN.out⟩

set_option maxHeartbeats 400000 in
theorem take_some {g : Value} {B S N : Nat} {G : World → List (Int × Int) → Prop} (hG : GateOk g B S N G) (hSN : S ≠ N) (hBS : B ≤ S) (n t i x : Nat) (top : Nat) (htop : top < 2) (c : Array Value) (hc : c[top]? = some (.int .u64 (t : Int)))
    (hs : c[2]? = some (.slice (some ⟨N, 0, none⟩) n n)) (hn : n ≤ 1024) (ht : t < 18446744073709551616) (hi : t % 4294967296 = i + 1) (hin : i < n) (d : Array Value) (hd : d[2 * i]? = some (.int .u64 (x : Int))) (hx : x < 4294967296)
    (w : World) (L : List (Int × Int)) (hL : L.length + 20 ≤ 1000000) (hg : G w L) (hr : Row w S c 107) (hrn : Row w N d 113) :
    Calls Try.prog 44 #[.pointer (some ⟨S, 0, none⟩), g, .int .i64 top] w fun e w' =>
      e = .returned (.tuple #[.int .u64 i, .bool true]) ∧ G w' (L ++ [(1, (top : Int)), (1, 2 + 2 * (i : Int)), (5, (top : Int))]) ∧ Below B w w' ∧ Row w' S (c.setIfInBounds top (.int .u64 (fol t x : Nat))) 107 ∧ Row w' N d 113 := by
  go_enter Try.func44, Try.ntmps44
  go_wp2
  go_step3
  go_wp2
  go_step3
  go_wp2
  refine wp_loop_rounds 1 ?_
  rw [rounds_succ]
  have HC := Lib.hid hc
  have HD := Lib.hid hd
  have HX := Lib.hid hs
  have HI := Lib.hid hi
  clear hc hd hs hi
  go_wp2_with fail
  refine (hG.step _ _ _ _ (by (try simp only [List.length_append, List.length_cons, List.length_nil]); omega) hg).mono ?_
  rintro e w1 ⟨rfl, hg1, hb1, hS1, hN1⟩
  have hr1 := Row.of_heap hr hS1
  have hn1 := Row.of_heap hrn hN1
  clear hS1 hN1
  have hc1 : w1.cell? ⟨S, top, none⟩ = some (.int .u64 (t : Int)) := (hr1.cell top).trans HC.out
  go_wp2_with fail
  refine (aload _ _ _ hc1).mono ?_
  rintro e w1 ⟨rfl, rfl⟩
  have ha : bits .and .u64 (t : Int) 4294967295 = (i : Int) + 1 := by
    have := and_low t ht
    rw [HI.out] at this
    simpa using this
  go_wp2_with fail
  refine (nextWord_c i (by omega) _).mono ?_
  rintro e w1 ⟨rfl, rfl⟩
  go_wp2_with fail
  refine (hG.step _ _ _ _ (by (try simp only [List.length_append, List.length_cons, List.length_nil]); omega) hg1).mono ?_
  rintro e w2 ⟨rfl, hg2, hb2, hS2, hN2⟩
  have hr2 := Row.of_heap hr1 hS2
  have hn2 := Row.of_heap hn1 hN2
  clear hS2 hN2
  have hx2 : w2.cell? ⟨S, 2, none⟩ = some (.slice (some ⟨N, 0, none⟩) n n) := (hr2.cell 2).trans HX.out
  have hd2 : w2.cell? ⟨N, i * 2, none⟩ = some (.int .u64 (x : Int)) := by
    rw [Nat.mul_comm]
    exact (hn2.cell (2 * i)).trans HD.out
  go_wp2_with fail
  refine (aload _ _ _ hd2).mono ?_
  rintro e w2 ⟨rfl, rfl⟩
  go_wp2_with fail
  refine (hG.step _ _ _ _ (by (try simp only [List.length_append, List.length_cons, List.length_nil]); omega) hg2).mono ?_
  rintro e w3 ⟨rfl, hg3, hb3, hS3, hN3⟩
  have hr3 := Row.of_heap hr2 hS3
  have hn3 := Row.of_heap hn2 hN3
  clear hS3 hN3
  go_wp2_with fail
  have hc3 : w3.cell? ⟨S, top, none⟩ = some (.int .u64 (t : Int)) := (hr3.cell top).trans HC.out
  have hf3 : w3.frozen? ⟨S, top, none⟩ = false := hr3.free top
  go_region_with (first | (go_at_call 69; refine (follower_c t x ht hx _).mono ?_; rintro e w' ⟨rfl, rfl⟩) | (go_at_call 68; refine (acas_hit _ _ _ w3.drew hc3 hf3).mono ?_; rintro e w' ⟨rfl, rfl⟩))
  all_goals
    go_wp2
    rw [Exit.noGoto_ret]
    go_ret2
    refine ⟨rfl, ?_, ?_, ?_, ?_⟩
    · have e : L ++ [(1, (top : Int)), (1, 2 + 2 * (i : Int)), (5, (top : Int))] = L ++ [(1, (top : Int))] ++ [(1, 2 + 2 * (i : Int))] ++ [(5, (top : Int))] := by simp
      rw [e]
      exact hG.keep _ _ _ hg3 ((Sm.refl _ w3).drew.setCell (.inl rfl) _)
    · exact ((hb1.trans hb2).trans hb3).drew.setCell hBS _
    · exact hr3.drew.set top _
    · exact hn3.drew.set_ne hSN _
end Go.Proofs.Ytmcffabfghhpaaa
/- give, Push and Pop, walked alone, whatever the gate. -/
namespace Go.Proofs.Ytmcffabfghhpaaa
open Go.RowKit
set_option linter.unusedVariables false

set_option maxHeartbeats 400000 in
theorem give_c {g : Value} {B S N : Nat} {G : World → List (Int × Int) → Prop} (hG : GateOk g B S N G) (hSN : S ≠ N) (hBS : B ≤ S) (hBN : B ≤ N) (n t i lo : Nat) (hl : t % 4294967296 = lo) (u : Value) (top : Nat) (htop : top < 2) (c : Array Value) (hc : c[top]? = some (.int .u64 (t : Int)))
    (hs : c[2]? = some (.slice (some ⟨N, 0, none⟩) n n)) (hn : n ≤ 1024) (ht : t < 18446744073709551616) (hin : i < n) (d : Array Value) (hd : d[2 * i]? = some u)
    (w : World) (L : List (Int × Int)) (hL : L.length + 20 ≤ 1000000) (hg : G w L) (hr : Row w S c 107) (hrn : Row w N d 113) :
    Calls Try.prog 47 #[.pointer (some ⟨S, 0, none⟩), g, .int .i64 top, .int .u64 i] w fun e w' =>
      e = .returned (.tuple #[]) ∧ G w' (L ++ [(1, (top : Int)), (2, 2 + 2 * (i : Int)), (5, (top : Int))]) ∧ Below B w w' ∧ Row w' S (c.setIfInBounds top (.int .u64 (fol t (i + 1) : Nat))) 107 ∧ Row w' N (d.setIfInBounds (2 * i) (.int .u64 (lo : Int))) 113 := by
  go_enter Try.func47, Try.ntmps47
  go_wp2
  go_step3
  go_wp2
  go_step3
  go_wp2
  refine wp_loop_rounds 1 ?_
  rw [rounds_succ]
  have HC := Lib.hid hc
  have HD := Lib.hid hd
  have HX := Lib.hid hs
  clear hc hd hs
  go_wp2_with fail
  refine (hG.step _ _ _ _ (by (try simp only [List.length_append, List.length_cons, List.length_nil]); omega) hg).mono ?_
  rintro e w1 ⟨rfl, hg1, hb1, hS1, hN1⟩
  have hr1 := Row.of_heap hr hS1
  have hn1 := Row.of_heap hrn hN1
  clear hS1 hN1
  have hc1 : w1.cell? ⟨S, top, none⟩ = some (.int .u64 (t : Int)) := (hr1.cell top).trans HC.out
  go_wp2_with fail
  refine (aload _ _ _ hc1).mono ?_
  rintro e w1 ⟨rfl, rfl⟩
  have ha : bits .and .u64 (t : Int) 4294967295 = (lo : Int) := by
    rw [and_low t ht, hl]
  clear hl
  go_wp2_with fail
  refine (nextWord_c i (by omega) _).mono ?_
  rintro e w1 ⟨rfl, rfl⟩
  go_wp2_with fail
  refine (hG.step _ _ _ _ (by (try simp only [List.length_append, List.length_cons, List.length_nil]); omega) hg1).mono ?_
  rintro e w2 ⟨rfl, hg2, hb2, hS2, hN2⟩
  have hr2 := Row.of_heap hr1 hS2
  have hn2 := Row.of_heap hn1 hN2
  clear hS2 hN2
  have hx2 : w2.cell? ⟨S, 2, none⟩ = some (.slice (some ⟨N, 0, none⟩) n n) := (hr2.cell 2).trans HX.out
  have hd2 : w2.cell? ⟨N, i * 2, none⟩ = some u := by
    rw [Nat.mul_comm]
    exact (hn2.cell (2 * i)).trans HD.out
  have hf2 : w2.frozen? ⟨N, i * 2, none⟩ = false := hn2.free _
  go_wp2_with fail
  refine (astore _ _ _ _ hd2 hf2).mono ?_
  rintro e wx ⟨rfl, rfl⟩
  obtain ⟨w3, hw3⟩ : ∃ w3 : World, w3 = w2.setCell ⟨N, i * 2, none⟩ (.int .u64 (lo : Int)) := ⟨_, rfl⟩
  rw [← hw3]
  have hr3 : Row w3 S c 107 := by rw [hw3]; exact hr2.set_ne (fun e => hSN e.symm) _
  have hn3 : Row w3 N (d.setIfInBounds (2 * i) (.int .u64 (lo : Int))) 113 := by
    rw [hw3, Nat.mul_comm]
    exact hn2.set _ _
  have hg3 := hG.keep _ w3 _ hg2 (by rw [hw3]; exact (Sm.refl _ w2).setCell (.inr rfl) _)
  have hb3 : Below B w2 w3 := by rw [hw3]; exact (Below.refl _ _).setCell hBN _
  clear hw3 hd2 hf2 hx2
  go_wp2_with fail
  refine (hG.step _ _ _ _ (by (try simp only [List.length_append, List.length_cons, List.length_nil]); omega) hg3).mono ?_
  rintro e w4 ⟨rfl, hg4, hb4, hS4, hN4⟩
  have hr4 := Row.of_heap hr3 hS4
  have hn4 := Row.of_heap hn3 hN4
  clear hS4 hN4
  go_wp2_with fail
  have hc4 : w4.cell? ⟨S, top, none⟩ = some (.int .u64 (t : Int)) := (hr4.cell top).trans HC.out
  have hf4 : w4.frozen? ⟨S, top, none⟩ = false := hr4.free top
  have hi1 : i + 1 < 4294967296 := by omega
  have hw1 : IntKind.u64.wrap ((i : Int) + 1) = (i : Int) + 1 := by
    rw [IntKind.wrap_u64]
    omega
  go_region_with (first | (go_at_call 69; refine (follower_s t i ht hi1 _).mono ?_; rintro e w' ⟨rfl, rfl⟩) | (go_at_call 68; refine (acas_hit _ _ _ w4.drew hc4 hf4).mono ?_; rintro e w' ⟨rfl, rfl⟩))
  all_goals
    go_wp2
    rw [Exit.noGoto_ret]
    refine bodyPost_ret (results_none rfl _ _ _) rfl ?_
    refine ⟨rfl, ?_, ?_, ?_, ?_⟩
    · have e : L ++ [(1, (top : Int)), (2, 2 + 2 * (i : Int)), (5, (top : Int))] = L ++ [(1, (top : Int))] ++ [(2, 2 + 2 * (i : Int))] ++ [(5, (top : Int))] := by simp
      rw [e]
      exact hG.keep _ _ _ hg4 ((Sm.refl _ w4).drew.setCell (.inl rfl) _)
    · exact (((hb1.trans hb2).trans hb3).trans hb4).drew.setCell hBS _
    · exact hr4.drew.set top _
    · exact hn4.drew.set_ne hSN _
theorem none_c (S : Nat) (c : Array Value) (N n : Nat) (hs : c[2]? = some (.slice (some ⟨N, 0, none⟩) n n)) (hn : 0 < n) (w : World) (hr : Row w S c 107) :
    Calls Try.prog 43 #[.pointer (some ⟨S, 0, none⟩)] w fun e w' => e = .returned (.bool false) ∧ w = w' := by
  have h2 : w.cell? ⟨S, 2, none⟩ = some (.slice (some ⟨N, 0, none⟩) n n) := (hr.cell 2).trans hs
  have hz : (((n : Nat) : Int) == 0) = false := by rw [beq_eq_false_iff_ne]; omega
  clear hs
  go_enter Try.func43, Try.ntmps43
  go_wp2
  go_ret
  exact ⟨rfl, rfl⟩

theorem slots_c (S : Nat) (c : Array Value) (N n : Nat) (hs : c[2]? = some (.slice (some ⟨N, 0, none⟩) n n)) (hn : 0 < n) (w : World) (hr : Row w S c 107) :
    Calls Try.prog 15 #[.pointer (some ⟨S, 0, none⟩)] w fun e w' => e = .returned (.int .i64 n) ∧ w = w' := by
  have h2 : w.cell? ⟨S, 2, none⟩ = some (.slice (some ⟨N, 0, none⟩) n n) := (hr.cell 2).trans hs
  have h := none_c S c N n hs hn w hr
  clear hs
  go_enter Try.func15, Try.ntmps15
  go_wp2_with fail
  refine h.mono ?_
  rintro e w' ⟨rfl, rfl⟩
  go_wp2
  go_ret
  exact ⟨rfl, rfl⟩
end Go.Proofs.Ytmcffabfghhpaaa
/- Push and Pop, walked alone, whatever the gate. -/
namespace Go.Proofs.Ytmcffabfghhpaaa
open Go.RowKit
set_option linter.unusedVariables false

/-- A stack in memory: its two tops, its nodes' words. -/
structure Stk (S N n t0 t1 : Nat) (m : List Nat) (w : World) : Prop where
  rS : Row w S (hdr t0 t1 N n) 107
  rN : Row w N (uw m) 113
  ne : S ≠ N
  len : m.length = 2 * n
  pos : 0 < n
  le : n ≤ 1024
  l0 : t0 < 18446744073709551616
  l1 : t1 < 18446744073709551616
  nx : ∀ i (h : 2 * i < m.length), m[2 * i] < 4294967296

theorem hdr_set0 (t0 t1 N n v : Nat) : (hdr t0 t1 N n).setIfInBounds 0 (.int .u64 (v : Int)) = hdr v t1 N n := rfl
theorem hdr_set1 (t0 t1 N n v : Nat) : (hdr t0 t1 N n).setIfInBounds 1 (.int .u64 (v : Int)) = hdr t0 v N n := rfl

theorem push_full {g : Value} {B S N : Nat} {G : World → List (Int × Int) → Prop} (hG : GateOk g B S N G) (n t0 t1 : Nat) (m : List Nat) (v : Int) (w : World) (L : List (Int × Int)) (hL : L.length + 40 ≤ 1000000) (hg : G w L) (hs : Stk S N n t0 t1 m w)
    (h0 : t1 % 4294967296 = 0) :
    Calls Try.prog 13 #[.pointer (some ⟨S, 0, none⟩), g, .int .u64 v] w fun e w' =>
      e = .returned (.tuple #[.bool false, .int .i64 0]) ∧ G w' (L ++ [(1, 1)]) ∧ Below B w w' ∧ Stk S N n t0 t1 m w' := by
  have h1 := none_c S (hdr t0 t1 N n) N n rfl hs.pos w hs.rS
  have h2 := take_none hG n t1 1 (by decide) (hdr t0 t1 N n) rfl hs.l1 h0 w L (by omega) hg hs.rS
  have H1 := Lib.hid h1
  have H2 := Lib.hid h2
  clear h1 h2 h0
  go_enter Try.func13, Try.ntmps13
  go_wp2_with fail
  refine H1.out.mono ?_
  rintro e w' ⟨rfl, rfl⟩
  go_wp2_with fail
  refine H2.out.mono ?_
  rintro e w1 ⟨rfl, hg1, hb1, hS1, hN1⟩
  have hs1 : Stk S N n t0 t1 m w1 := { hs with rS := Row.of_heap hs.rS hS1, rN := Row.of_heap hs.rN hN1 }
  clear hS1 hN1
  go_wp2
  go_ret2
  exact ⟨rfl, hg1, hb1, hs1⟩

theorem uw_get' (m : List Nat) (i : Nat) (h : i < m.length) (x : Nat) (hx : m[i] = x) : (uw m)[i]? = some (.int .u64 (x : Int)) := by rw [uw_get m i h, hx]

set_option maxHeartbeats 400000 in
theorem push_ok {g : Value} {B S N : Nat} {G : World → List (Int × Int) → Prop} (hG : GateOk g B S N G) (hBS : B ≤ S) (hBN : B ≤ N) (n t0 t1 i x lo : Nat) (m : List Nat) (v : Nat) (hv : v < 18446744073709551616) (w : World) (L : List (Int × Int)) (hL : L.length + 40 ≤ 1000000) (hg : G w L) (hs : Stk S N n t0 t1 m w)
    (hi : t1 % 4294967296 = i + 1) (hin : i < n) (hx : ∀ h, m[2 * i]'h = x) (hlo : t0 % 4294967296 = lo) :
    Calls Try.prog 13 #[.pointer (some ⟨S, 0, none⟩), g, .int .u64 v] w fun e w' =>
      e = .returned (.tuple #[.bool true, .int .i64 0]) ∧ G w' (L ++ [(1, 1), (1, 2 + 2 * (i : Int)), (5, 1), (2, 3 + 2 * (i : Int)), (1, 0), (2, 2 + 2 * (i : Int)), (5, 0)]) ∧ Below B w w' ∧
      Stk S N n (fol t0 (i + 1)) (fol t1 x) ((m.set (2 * i + 1) v).set (2 * i) lo) w' := by
  have hl := hs.len
  have hx' : x < 4294967296 := by rw [← hx (by omega)]; exact hs.nx i (by omega)
  have hle := hs.le
  have hl0 := hs.l0
  have hne := hs.ne
  have H1 := Lib.hid (none_c S (hdr t0 t1 N n) N n rfl hs.pos w hs.rS)
  have H2 := Lib.hid (take_some hG hs.ne hBS n t1 i x 1 (by decide) (hdr t0 t1 N n) rfl rfl hs.le hs.l1 hi hin (uw m) (uw_get' m (2 * i) (by omega) x (hx _)) hx' w L (by omega) hg hs.rS hs.rN)
  have HX := Lib.hid hx
  have HI := Lib.hid hi
  have HLO := Lib.hid hlo
  clear hx hi hlo
  go_enter Try.func13, Try.ntmps13
  go_wp2_with fail
  refine H1.out.mono ?_
  rintro e w' ⟨rfl, rfl⟩
  go_wp2_with fail
  refine H2.out.mono ?_
  rintro e w1 ⟨rfl, hg1, hb1, hS1, hN1⟩
  rw [hdr_set1] at hS1
  go_wp2_with fail
  refine (valueWord_c i (by omega) _).mono ?_
  rintro e w1 ⟨rfl, rfl⟩
  go_wp2_with fail
  refine (hG.step _ _ _ _ (by (try simp only [List.length_append, List.length_cons, List.length_nil]); omega) hg1).mono ?_
  rintro e w2 ⟨rfl, hg2, hb2, hS2, hN2⟩
  have hr2 := Row.of_heap hS1 hS2
  have hn2 := Row.of_heap hN1 hN2
  clear hS1 hN1 hS2 hN2
  have hx2 : w2.cell? ⟨S, 2, none⟩ = some (.slice (some ⟨N, 0, none⟩) n n) := hr2.cell 2
  have hd2 : ∃ u, w2.cell? ⟨N, i * 2 + 1, none⟩ = some u := by
    rw [Nat.mul_comm]
    exact ⟨_, (hn2.cell (2 * i + 1)).trans (uw_get m (2 * i + 1) (by omega))⟩
  obtain ⟨u, hd2⟩ := hd2
  have hf2 : w2.frozen? ⟨N, i * 2 + 1, none⟩ = false := hn2.free _
  go_wp2_with fail
  refine (astore _ _ _ _ hd2 hf2).mono ?_
  rintro e wx ⟨rfl, rfl⟩
  obtain ⟨w3, hw3⟩ : ∃ w3 : World, w3 = w2.setCell ⟨N, i * 2 + 1, none⟩ (.int .u64 (v : Int)) := ⟨_, rfl⟩
  rw [← hw3]
  have hr3 : Row w3 S (hdr t0 (fol t1 x) N n) 107 := by rw [hw3]; exact hr2.set_ne (fun e => hne e.symm) _
  have hn3 : Row w3 N (uw (m.set (2 * i + 1) v)) 113 := by
    rw [hw3, Nat.mul_comm, ← uw_set]
    exact hn2.set _ _
  have hg3 := hG.keep _ w3 _ hg2 (by rw [hw3]; exact (Sm.refl _ w2).setCell (.inr rfl) _)
  have hb3 : Below B w2 w3 := by rw [hw3]; exact (Below.refl _ _).setCell hBN _
  clear hw3 hd2 hf2 hx2
  have H4 := Lib.hid (give_c hG hne hBS hBN n t0 i lo HLO.out _ 0 (by decide) (hdr t0 (fol t1 x) N n) rfl rfl hle hl0 hin (uw (m.set (2 * i + 1) v)) (uw_get _ (2 * i) (by simp; omega)) w3 _ (by (try simp only [List.length_append, List.length_cons, List.length_nil]); omega) hg3 hr3 hn3)
  go_wp2_with fail
  refine H4.out.mono ?_
  rintro e w4 ⟨rfl, hg4, hb4, hS4, hN4⟩
  rw [hdr_set0] at hS4
  rw [uw_set] at hN4
  go_wp2
  go_ret2
  refine ⟨rfl, ?_, ((hb1.trans hb2).trans hb3).trans hb4, hS4, hN4, hne, by simp [hl], hs.pos, hle, fol_lt _ _ (by omega), fol_lt _ _ hx', ?_⟩
  · simpa using hg4
  · intro j hj
    have hlo : lo < 4294967296 := by rw [← HLO.out]; exact Nat.mod_lt _ (by decide)
    have hj' : 2 * j < m.length := by simpa using hj
    rw [List.getElem_set]
    split
    · exact hlo
    · rw [List.getElem_set, if_neg (by omega)]
      exact hs.nx j hj'
theorem pop_empty {g : Value} {B S N : Nat} {G : World → List (Int × Int) → Prop} (hG : GateOk g B S N G) (n t0 t1 : Nat) (m : List Nat) (w : World) (L : List (Int × Int)) (hL : L.length + 40 ≤ 1000000) (hg : G w L) (hs : Stk S N n t0 t1 m w)
    (h0 : t0 % 4294967296 = 0) :
    Calls Try.prog 14 #[.pointer (some ⟨S, 0, none⟩), g] w fun e w' =>
      e = .returned (.tuple #[.int .u64 0, .bool false, .int .i64 0]) ∧ G w' (L ++ [(1, 0)]) ∧ Below B w w' ∧ Stk S N n t0 t1 m w' := by
  have h1 := none_c S (hdr t0 t1 N n) N n rfl hs.pos w hs.rS
  have h2 := take_none hG n t0 0 (by decide) (hdr t0 t1 N n) rfl hs.l0 h0 w L (by omega) hg hs.rS
  have H1 := Lib.hid h1
  have H2 := Lib.hid h2
  clear h1 h2 h0
  go_enter Try.func14, Try.ntmps14
  go_wp2_with fail
  refine H1.out.mono ?_
  rintro e w' ⟨rfl, rfl⟩
  go_wp2_with fail
  refine H2.out.mono ?_
  rintro e w1 ⟨rfl, hg1, hb1, hS1, hN1⟩
  have hs1 : Stk S N n t0 t1 m w1 := { hs with rS := Row.of_heap hs.rS hS1, rN := Row.of_heap hs.rN hN1 }
  clear hS1 hN1
  go_wp2
  go_ret3
  exact ⟨rfl, hg1, hb1, hs1⟩

set_option maxHeartbeats 400000 in
theorem pop_ok {g : Value} {B S N : Nat} {G : World → List (Int × Int) → Prop} (hG : GateOk g B S N G) (hBS : B ≤ S) (hBN : B ≤ N) (n t0 t1 i x lo v : Nat) (m : List Nat) (w : World) (L : List (Int × Int)) (hL : L.length + 40 ≤ 1000000) (hg : G w L) (hs : Stk S N n t0 t1 m w)
    (hi : t0 % 4294967296 = i + 1) (hin : i < n) (hx : ∀ h, m[2 * i]'h = x) (hv : ∀ h, m[2 * i + 1]'h = v) (hlo : t1 % 4294967296 = lo) :
    Calls Try.prog 14 #[.pointer (some ⟨S, 0, none⟩), g] w fun e w' =>
      e = .returned (.tuple #[.int .u64 v, .bool true, .int .i64 0]) ∧ G w' (L ++ [(1, 0), (1, 2 + 2 * (i : Int)), (5, 0), (1, 3 + 2 * (i : Int)), (1, 1), (2, 2 + 2 * (i : Int)), (5, 1)]) ∧ Below B w w' ∧
      Stk S N n (fol t0 x) (fol t1 (i + 1)) (m.set (2 * i) lo) w' := by
  have hl := hs.len
  have hx' : x < 4294967296 := by rw [← hx (by omega)]; exact hs.nx i (by omega)
  have hle := hs.le
  have hl1 := hs.l1
  have hne := hs.ne
  have H1 := Lib.hid (none_c S (hdr t0 t1 N n) N n rfl hs.pos w hs.rS)
  have H2 := Lib.hid (take_some hG hs.ne hBS n t0 i x 0 (by decide) (hdr t0 t1 N n) rfl rfl hs.le hs.l0 hi hin (uw m) (uw_get' m (2 * i) (by omega) x (hx _)) hx' w L (by omega) hg hs.rS hs.rN)
  have HX := Lib.hid hx
  have HV := Lib.hid hv
  have HI := Lib.hid hi
  have HLO := Lib.hid hlo
  clear hx hi hlo hv
  go_enter Try.func14, Try.ntmps14
  go_wp2_with fail
  refine H1.out.mono ?_
  rintro e w' ⟨rfl, rfl⟩
  go_wp2_with fail
  refine H2.out.mono ?_
  rintro e w1 ⟨rfl, hg1, hb1, hS1, hN1⟩
  rw [hdr_set0] at hS1
  go_wp2_with fail
  refine (valueWord_c i (by omega) _).mono ?_
  rintro e w1 ⟨rfl, rfl⟩
  go_wp2_with fail
  refine (hG.step _ _ _ _ (by (try simp only [List.length_append, List.length_cons, List.length_nil]); omega) hg1).mono ?_
  rintro e w2 ⟨rfl, hg2, hb2, hS2, hN2⟩
  have hr2 := Row.of_heap hS1 hS2
  have hn2 := Row.of_heap hN1 hN2
  clear hS1 hN1 hS2 hN2
  have hx2 : w2.cell? ⟨S, 2, none⟩ = some (.slice (some ⟨N, 0, none⟩) n n) := hr2.cell 2
  have hd2 : w2.cell? ⟨N, i * 2 + 1, none⟩ = some (.int .u64 (v : Int)) := by
    rw [Nat.mul_comm]
    exact (hn2.cell (2 * i + 1)).trans (uw_get' m (2 * i + 1) (by omega) v (HV.out _))
  go_wp2_with fail
  refine (aload _ _ _ hd2).mono ?_
  rintro e w2 ⟨rfl, rfl⟩
  clear hx2 hd2
  have H4 := Lib.hid (give_c hG hne hBS hBN n t1 i lo HLO.out _ 1 (by decide) (hdr (fol t0 x) t1 N n) rfl rfl hle hl1 hin (uw m) (uw_get _ (2 * i) (by omega)) w2 _ (by (try simp only [List.length_append, List.length_cons, List.length_nil]); omega) hg2 hr2 hn2)
  go_wp2_with fail
  refine H4.out.mono ?_
  rintro e w4 ⟨rfl, hg4, hb4, hS4, hN4⟩
  rw [hdr_set1] at hS4
  rw [uw_set] at hN4
  go_wp2
  go_ret3
  refine ⟨rfl, ?_, (hb1.trans hb2).trans hb4, hS4, hN4, hne, by simp [hl], hs.pos, hle, fol_lt _ _ hx', fol_lt _ _ (by omega), ?_⟩
  · simpa using hg4
  · intro j hj
    have hlo : lo < 4294967296 := by rw [← HLO.out]; exact Nat.mod_lt _ (by decide)
    have hj' : 2 * j < m.length := by simpa using hj
    rw [List.getElem_set]
    split
    · exact hlo
    · exact hs.nx j hj'
end Go.Proofs.Ytmcffabfghhpaaa
/- Plain words: what a stack's calls do between two turns, told apart from memory. No condition. -/
namespace Go.Proofs.Ytmcffabfghhpaaa
open Go.Conc Go.RowKit
/-- A stack: its two tops, its nodes' words. -/
structure SSt where
  t0 : Nat
  t1 : Nat
  m : List Nat
def SSt.top (a : SSt) (i : Nat) : Nat := if i = 0 then a.t0 else a.t1
def SSt.setTop (a : SSt) (i v : Nat) : SSt := if i = 0 then { a with t0 := v } else { a with t1 := v }
/-- Which call takes, which one gives. -/
inductive SKd
  | push (v : Nat)
  | pop
inductive SRd
  | push
  | pop (v : Nat)
/-- Where a call waits. -/
inductive SPos
  | t1 (i : Nat) (k : SKd)
  | t2 (i h : Nat) (k : SKd)
  | t3 (i h x : Nat) (k : SKd)
  | vst (j v : Nat)
  | vld (j : Nat)
  | g1 (i j : Nat) (r : SRd)
  | g2 (i j h : Nat) (r : SRd)
  | g3 (i j h : Nat) (r : SRd)
/-- What it answers. -/
inductive SRes
  | none (k : SKd)
  | done (r : SRd)
def SPos.mark : SPos → Int × Int
  | .t1 i _ => (1, i)
  | .t2 _ h _ => (1, 2 + 2 * ((h % 4294967296 - 1 : Nat) : Int))
  | .t3 i _ _ _ => (5, i)
  | .vst j _ => (2, 3 + 2 * (j : Int))
  | .vld j => (1, 3 + 2 * (j : Int))
  | .g1 i _ _ => (1, i)
  | .g2 _ j _ _ => (2, 2 + 2 * (j : Int))
  | .g3 i _ _ _ => (5, i)
/-- Behind a take. -/
def SKd.after : SKd → Nat → SPos
  | .push v, j => .vst j v
  | .pop, j => .vld j
def SPos.exec : SPos → SSt → SSt × (SPos ⊕ SRes)
  | .t1 i k, a => if a.top i % 4294967296 = 0 then (a, .inr (.none k)) else (a, .inl (.t2 i (a.top i) k))
  | .t2 i h k, a => (a, .inl (.t3 i h (a.m.getD (2 * (h % 4294967296 - 1)) 0) k))
  | .t3 i h x k, a => if a.top i = h then (a.setTop i (fol h x), .inl (k.after (h % 4294967296 - 1))) else (a, .inl (.t1 i k))
  | .vst j v, a => ({ a with m := a.m.set (2 * j + 1) v }, .inl (.g1 0 j .push))
  | .vld j, a => (a, .inl (.g1 1 j (.pop (a.m.getD (2 * j + 1) 0))))
  | .g1 i j r, a => (a, .inl (.g2 i j (a.top i) r))
  | .g2 i j h r, a => ({ a with m := a.m.set (2 * j) (h % 4294967296) }, .inl (.g3 i j h r))
  | .g3 i j h r, a => if a.top i = h then (a.setTop i (fol h (j + 1)), .inr (.done r)) else (a, .inl (.g1 i j r))
/-- A stack in memory, whole. -/
structure SRep (S N n : Nat) (a : SSt) (w : World) : Prop where
  stk : Stk S N n a.t0 a.t1 a.m w
  b0 : a.t0 % 4294967296 ≤ n
  b1 : a.t1 % 4294967296 ≤ n
  bn : ∀ i (h : 2 * i < a.m.length), a.m[2 * i] ≤ n
  bv : ∀ i (h : 2 * i + 1 < a.m.length), a.m[2 * i + 1] < 18446744073709551616
theorem Stk.of_same {S N n t0 t1 : Nat} {m : List Nat} {w w' : World} (h : Stk S N n t0 t1 m w) (hS : w'.heap[S]? = w.heap[S]?) (hN : w'.heap[N]? = w.heap[N]?) : Stk S N n t0 t1 m w' :=
  { h with rS := by unfold Row at *; rw [hS]; exact h.rS, rN := by unfold Row at *; rw [hN]; exact h.rN }
/-- The stack's calls. -/
def stkJob (S N n : Nat) : Job where
  St := SSt
  Pos := SPos
  Res := SRes
  mark := SPos.mark
  exec := SPos.exec
  foot := fun _ b => b = S ∨ b = N
  Rep := SRep S N n
  frame := fun a u u' h hr => ⟨hr.stk.of_same (h S (.inl rfl)) (h N (.inr rfl)), hr.b0, hr.b1, hr.bn, hr.bv⟩
  real := fun a u b hr hb => by
    rcases hb with rfl | rfl
    · exact ⟨_, hr.stk.rS, fun _ _ _ _ _ _ e => (by cases e), fun T e => (by have := congrArg (fun o => match o with | Obj.cells c _ _ => c.size | _ => 0) e; simp [hdr] at this)⟩
    · refine ⟨_, hr.stk.rN, fun _ _ _ _ _ _ e => (by cases e), fun T e => ?_⟩
      have := congrArg (fun o => match o with | Obj.cells c _ _ => c.size | _ => 0) e
      have hl := hr.stk.len
      have hp := hr.stk.pos
      simp [uw] at this
      rw [this] at hl
      simp at hl
      omega
theorem SRep.top {S N n : Nat} {a : SSt} {w : World} (h : SRep S N n a w) (i : Nat) : a.top i < 18446744073709551616 ∧ a.top i % 4294967296 ≤ n := by
  unfold SSt.top
  split
  · exact ⟨h.stk.l0, h.b0⟩
  · exact ⟨h.stk.l1, h.b1⟩
/-- The cells. -/
theorem SRep.topCell {S N n : Nat} {a : SSt} {w : World} (h : SRep S N n a w) {i : Nat} (hi : i < 2) : w.cell? ⟨S, i, none⟩ = some (.int .u64 (a.top i : Int)) := by
  rw [h.stk.rS.cell]
  unfold SSt.top
  rcases i with _ | _ | i
  · rfl
  · rfl
  · omega
theorem SRep.nodes {S N n : Nat} {a : SSt} {w : World} (h : SRep S N n a w) : w.cell? ⟨S, 2, none⟩ = some (.slice (some ⟨N, 0, none⟩) n n) := by
  rw [h.stk.rS.cell]; rfl
theorem SRep.word {S N n : Nat} {a : SSt} {w : World} (h : SRep S N n a w) {j : Nat} (hj : j < 2 * n) : w.cell? ⟨N, j, none⟩ = some (.int .u64 (a.m.getD j 0 : Int)) := by
  rw [h.stk.rN.cell, uw_get _ _ (by rw [h.stk.len]; exact hj)]
  simp [h.stk.len, hj]
end Go.Proofs.Ytmcffabfghhpaaa
/- stack.New, walked alone. -/
namespace Go.Proofs.Ytmcffabfghhpaaa
open Go.RowKit
set_option linter.unusedVariables false

def memK (n k : Nat) : List Nat := (List.range (2 * n)).map fun j => if j % 2 = 0 ∧ j / 2 < k then j / 2 + 2 else 0
theorem memK_len (n k : Nat) : (memK n k).length = 2 * n := by simp [memK]
theorem memK_zero (n : Nat) : memK n 0 = List.replicate (2 * n) 0 := by
  apply List.ext_getElem <;> simp [memK]
theorem memK_get (n k j : Nat) (h : j < (memK n k).length) : (memK n k)[j] = if j % 2 = 0 ∧ j / 2 < k then j / 2 + 2 else 0 := by simp [memK]
theorem memK_succ (n k : Nat) : (memK n k).set (2 * k) (k + 2) = memK n (k + 1) := by
  apply List.ext_getElem
  · simp [memK]
  · intro j h1 h2
    rw [List.getElem_set, memK_get, memK_get]
    split
    · rw [if_pos (by omega)]; omega
    · split
      · rw [if_pos (by omega)]
      · rw [if_neg (by omega)]

theorem info_node : (Try.prog.info? 113).map (fun i => (i.zero, i.size, i.bytes)) = some (some (.agg #[.int .u64 0, .int .u64 0]), 2, 16) := by kernel_rfl

theorem made_nodes (n : Nat) : madeCells (Value.agg #[.int .u64 0, .int .u64 0]).cells (n * 2) = uw (List.replicate (2 * n) 0) := by
  apply Array.ext
  · simp [size_madeCells, uw]; omega
  · intro j h1 h2
    have : j % 2 = 0 ∨ j % 2 = 1 := by omega
    rcases this with h | h <;> simp [madeCells, uw, Value.cells, h]

theorem make_nodes (n : Nat) (hn : n ≤ 1024) (w : World) :
    (Instr.makeSlice 105 (.int .i64 n) (.int .i64 n)).run Try.prog w = .ok (.slice (some ⟨w.heap.size, 0, none⟩) n n) (w.alloc (.cells (uw (List.replicate (2 * n) 0)) 113)) := by
  obtain ⟨i0, hi, hz0, hz1, hz2⟩ := info_parts info_node
  have h := run_makeSlice (P := Try.prog) w 105 113 i0 _ Try.underlying105 hi hz0 .i64 .i64 n n (by omega) (by omega) (by rw [hz1]; omega) (by rw [hz2]; omega) (by omega)
  rw [hz1] at h
  simp only [Int.toNat_natCast, made_nodes] at h
  exact h

set_option maxRecDepth 100000 in
set_option maxHeartbeats 400000 in
theorem new_ok (n : Nat) (hn0 : 0 < n) (hn : n ≤ 1024) (hb : bits .and .i64 (n : Int) ((n : Int) - 1) = 0) (w : World) :
    Calls Try.prog 12 #[.int .i64 n] w fun e w' =>
      e = .returned (.tuple #[.pointer (some ⟨w.heap.size + 1, 0, none⟩), .int .i64 0]) ∧ Below w.heap.size w w' ∧ Stk (w.heap.size + 1) w.heap.size n 0 1 (memK n (n - 1)) w' := by
  have hm := Lib.hid (make_nodes n hn w)
  have HB := Lib.hid hb
  clear hb
  go_enter Try.func12, Try.ntmps12
  have hb := HB.out
  have hm' := hm.out
  go_wp2_with fail
  clear hb hm'
  obtain ⟨N, hN⟩ : ∃ N, N = w.heap.size := ⟨_, rfl⟩
  have hS0 : Row ((w.alloc (Obj.cells (uw (List.replicate (2 * n) 0)) 113)).alloc (Obj.cells #[Value.int IntKind.u64 0, Value.int IntKind.u64 0, Value.slice (some { block := w.heap.size, off := 0 }) n n] 107)) (N + 1) (hdr 0 0 N n) 107 := by
    have := Row.new (w.alloc (Obj.cells (uw (List.replicate (2 * n) 0)) 113)) #[Value.int IntKind.u64 0, Value.int IntKind.u64 0, Value.slice (some { block := w.heap.size, off := 0 }) n n] 107
    rw [World.size_alloc] at this
    rw [hN]
    exact this
  have hN0 : Row ((w.alloc (Obj.cells (uw (List.replicate (2 * n) 0)) 113)).alloc (Obj.cells #[Value.int IntKind.u64 0, Value.int IntKind.u64 0, Value.slice (some { block := w.heap.size, off := 0 }) n n] 107)) N (uw (memK n 0)) 113 := by
    rw [hN, memK_zero]
    exact (Row.new w _ _).alloc _
  have hB0 : Below N w ((w.alloc (Obj.cells (uw (List.replicate (2 * n) 0)) 113)).alloc (Obj.cells #[Value.int IntKind.u64 0, Value.int IntKind.u64 0, Value.slice (some { block := w.heap.size, off := 0 }) n n] 107)) := by
    rw [hN]
    exact ((Below.refl _ _).alloc (Nat.le_refl _) _).alloc (by simp) _
  generalize (w.alloc (Obj.cells (uw (List.replicate (2 * n) 0)) 113)).alloc (Obj.cells #[Value.int IntKind.u64 0, Value.int IntKind.u64 0, Value.slice (some { block := w.heap.size, off := 0 }) n n] 107) = w1 at *
  rw [← hN]
  have HN := Lib.hid hN
  clear hN
  refine (astore _ _ _ _ (hS0.cell 1) (hS0.free 1)).mono ?_
  rintro e wx ⟨rfl, rfl⟩
  have hS1 : Row (w1.setCell ⟨N + 1, 1, none⟩ (.int .u64 1)) (N + 1) (hdr 0 1 N n) 107 := hS0.set 1 _
  have hN1 : Row (w1.setCell ⟨N + 1, 1, none⟩ (.int .u64 1)) N (uw (memK n 0)) 113 := hN0.set_ne (by simp) _
  have hB1 : Below N w (w1.setCell ⟨N + 1, 1, none⟩ (.int .u64 1)) := hB0.setCell (by simp) _
  generalize w1.setCell ⟨N + 1, 1, none⟩ (.int .u64 1) = w2 at *
  clear hS0 hN0 hB0
  have HS1 := Lib.hid hS1
  go_wp2
  go_loopw [30] (fun s30 wr => ∃ k : Nat, k ≤ n - 1 ∧ s30 = .int .i64 k ∧ Row wr (N + 1) (hdr 0 1 N n) 107 ∧ Row wr N (uw (memK n k)) 113 ∧ Below N w wr) (fun s30 _ => n - (intOf s30).toNat)
  case atStart => exact ⟨0, by omega, rfl, hS1, hN1, hB1⟩
  case round =>
    obtain ⟨k, hk, rfl, hSr, hNr, hBr⟩ := hrel
    have hx : wr.cell? ⟨N + 1, 2, none⟩ = some (.slice (some ⟨N, 0, none⟩) n n) := hSr.cell 2
    by_cases hlt : k < n - 1
    · have hd : wr.cell? ⟨N, k * 2, none⟩ = some (.int .u64 ((memK n k)[2 * k]'(by rw [memK_len]; omega) : Nat)) := by
        rw [Nat.mul_comm]
        exact (hNr.cell (2 * k)).trans (uw_get _ _ _)
      have hf : wr.frozen? ⟨N, k * 2, none⟩ = false := hNr.free _
      have Hd := Lib.hid hd
      clear hd
      go_wp2_with fail
      refine (astore _ _ _ _ Hd.out hf).mono ?_
      rintro e wx ⟨rfl, rfl⟩
      have hS2 : Row (wr.setCell ⟨N, k * 2, none⟩ (.int .u64 ((k : Int) + 2))) (N + 1) (hdr 0 1 N n) 107 := hSr.set_ne (by simp) _
      have hN2 : Row (wr.setCell ⟨N, k * 2, none⟩ (.int .u64 ((k : Int) + 2))) N (uw (memK n (k + 1))) 113 := by
        have := hNr.set (2 * k) (.int .u64 ((k + 2 : Nat) : Int))
        rw [uw_set, memK_succ, Nat.mul_comm] at this
        exact this
      have hB2 : Below N w (wr.setCell ⟨N, k * 2, none⟩ (.int .u64 ((k : Int) + 2))) := hBr.setCell (by simp) _
      generalize wr.setCell ⟨N, k * 2, none⟩ (.int .u64 ((k : Int) + 2)) = w3 at *
      clear hSr hNr hBr hx Hd hf
      have HS2 := Lib.hid hS2
      have HN2 := Lib.hid hN2
      clear hS2 hN2
      go_wp2
      go_roundw
      case rel => exact ⟨k + 1, by omega, by go_num, HS2.out, HN2.out, hB2⟩
      case measure => simp [intOf]; omega
    · have hk1 : k = n - 1 := by omega
      have HK := Lib.hid hk1
      have hge : ¬ ((k : Int) < (n : Int) - 1) := by omega
      clear hk1 hlt
      have HSr := Lib.hid hSr
      have HNr := Lib.hid hNr
      clear hSr hNr hx
      go_wp2
      go_ret2
      rw [HN.out] at *
      have h1 := HNr.out
      rw [HK.out] at h1
      refine ⟨rfl, hBr, HSr.out, h1, by simp, memK_len _ _, hn0, hn, by decide, by decide, ?_⟩
      intro j hj
      rw [memK_get]
      split <;> omega
end Go.Proofs.Ytmcffabfghhpaaa
/- stack.step at the gate that writes down; the gates of package stack's walks. -/
namespace Go.Proofs.Ytmcffabfghhpaaa
open Go.RowKit
set_option linter.unusedVariables false

theorem gate_nil (B S N : Nat) : GateOk .nilIface B S N (fun _ _ => True) where
  step := fun w L op wd _ _ => (step_nil op wd w).mono fun e w' ⟨h1, h2⟩ => by
    subst h2
    exact ⟨h1, trivial, Below.refl _ _, rfl, rfl⟩
  keep := fun _ _ _ _ _ => trivial

theorem gate_nilX (B S N : Nat) (X : World → Prop) (hX : ∀ w w', X w → Sm (fun k => k = S ∨ k = N) w w' → X w') : GateOk .nilIface B S N (fun w _ => X w) where
  step := fun w L op wd _ hg => (step_nil op wd w).mono fun e w' ⟨h1, h2⟩ => by
    subst h2
    exact ⟨h1, hg, Below.refl _ _, rfl, rfl⟩
  keep := fun w w' _ h k => hX w w' h k

theorem stepNote_c (nb : Nat) (op wd : Int) (w : World) (L : List (Int × Int)) (hL : L.length < 1000000) (h : Noted nb w L) :
    Calls Try.prog 45 #[.iface 90 (.pointer (some ⟨nb, 0, none⟩)), .int .u8 op, .int .i64 wd] w fun e w' =>
      e = .returned (.tuple #[]) ∧ Noted nb w' (L ++ [(op, wd)]) ∧ Sm (fun b => nb ≤ b) w w' := by
  have H := Lib.hid (noteStep_c nb op wd w L hL h)
  clear h
  go_enter Try.func45, Try.ntmps45
  go_wp2_with fail
  refine H.out.mono ?_
  rintro e w' ⟨rfl, h1, h2⟩
  have H2 := Lib.hid h2
  clear h2
  go_wp2
  refine bodyPost_end (results_none rfl _ _ _) rfl ?_
  exact ⟨rfl, h1, H2.out⟩

theorem gate_note (B S N nb : Nat) (hS : S < nb) (hN : N < nb) (hB : B ≤ nb) : GateOk (.iface 90 (.pointer (some ⟨nb, 0, none⟩))) B S N (fun w L => nb < w.heap.size ∧ Noted nb w L) where
  step := fun w L op wd hL hg => (stepNote_c nb op wd w L hL hg.2).mono fun e w' ⟨h1, h2, h3⟩ =>
    ⟨h1, ⟨Nat.lt_of_lt_of_le hg.1 h3.size, h2⟩, h3.below (by omega) (fun k hk => by omega), h3.block S (by omega) (by omega), h3.block N (by omega) (by omega)⟩
  keep := fun w w' L hg k => ⟨Nat.lt_of_lt_of_le hg.1 k.size, hg.2.sm k (fun b hb => by omega)⟩
end Go.Proofs.Ytmcffabfghhpaaa
/- A stack as a list: the chain of nodes, and Push and Pop with no gate. -/
namespace Go.Proofs.Ytmcffabfghhpaaa
open Go.RowKit
set_option linter.unusedVariables false

/-- From the top t one comes through the nodes l, one by one, to the end. -/
def Ch (m : List Nat) : Nat → List Nat → Prop
  | t, [] => t % 4294967296 = 0
  | t, i :: l => t % 4294967296 = i + 1 ∧ ∃ h : 2 * i < m.length, Ch m m[2 * i] l

theorem Ch.set_even {m : List Nat} {t : Nat} {l : List Nat} (h : Ch m t l) (j x : Nat) (hj : j ∉ l) : Ch (m.set (2 * j) x) t l := by
  induction l generalizing t with
  | nil => exact h
  | cons i l ih =>
    obtain ⟨h1, h2, h3⟩ := h
    simp only [List.mem_cons, not_or] at hj
    refine ⟨h1, by simpa using h2, ?_⟩
    have : (m.set (2 * j) x)[2 * i]'(by simpa using h2) = m[2 * i] := by rw [List.getElem_set, if_neg (by omega)]
    rw [this]
    exact ih h3 hj.2
theorem Ch.set_odd {m : List Nat} {t : Nat} {l : List Nat} (h : Ch m t l) (j x : Nat) : Ch (m.set (2 * j + 1) x) t l := by
  induction l generalizing t with
  | nil => exact h
  | cons i l ih =>
    obtain ⟨h1, h2, h3⟩ := h
    refine ⟨h1, by simpa using h2, ?_⟩
    have : (m.set (2 * j + 1) x)[2 * i]'(by simpa using h2) = m[2 * i] := by rw [List.getElem_set, if_neg (by omega)]
    rw [this]
    exact ih h3
theorem Ch.low {m : List Nat} {t t' : Nat} {l : List Nat} (h : Ch m t l) (e : t' % 4294967296 = t % 4294967296) : Ch m t' l := by
  cases l with
  | nil => exact e.trans h
  | cons i l => exact ⟨e.trans h.1, h.2⟩

/-- What lies on a stack: vals, the last one first. -/
structure StkInv (n t0 t1 : Nat) (m : List Nat) (l f vals : List Nat) : Prop where
  c0 : Ch m t0 l
  c1 : Ch m t1 f
  nd : (l ++ f).Nodup
  lt : ∀ i ∈ l ++ f, i < n
  len : (l ++ f).length = n
  vat : ∀ k (h : k < l.length), ∃ (h' : 2 * l[k] + 1 < m.length) (h'' : k < vals.length), m[2 * l[k] + 1] = vals[k]
  vlen : vals.length = l.length
  vlt : ∀ v ∈ vals, v < 18446744073709551616

def AS (S N n : Nat) (vals : List Nat) (w : World) : Prop := ∃ t0 t1 m l f, Stk S N n t0 t1 m w ∧ StkInv n t0 t1 m l f vals

theorem AS.sm {S N n : Nat} {vals : List Nat} {w w' : World} {F : Nat → Prop} (h : AS S N n vals w) (k : Sm F w w') (hS : ¬ F S) (hN : ¬ F N) : AS S N n vals w' := by
  obtain ⟨t0, t1, m, l, f, h1, h2⟩ := h
  exact ⟨t0, t1, m, l, f, { h1 with rS := h1.rS.sm k hS, rN := h1.rN.sm k hN }, h2⟩

theorem AS.le {S N n : Nat} {vals : List Nat} {w : World} (h : AS S N n vals w) : vals.length ≤ n := by
  obtain ⟨t0, t1, m, l, f, h1, h2⟩ := h
  have hl := h2.len
  have hv := h2.vlen
  simp only [List.length_append] at hl
  omega

abbrev two (S N : Nat) : Nat → Prop := fun k => k = S ∨ k = N

theorem push_a {S N n : Nat} (vals : List Nat) (v : Nat) (hv : v < 18446744073709551616) (w : World) (h : AS S N n vals w) (hlt : vals.length < n) :
    Calls Try.prog 13 #[.pointer (some ⟨S, 0, none⟩), .nilIface, .int .u64 v] w fun e w' =>
      e = .returned (.tuple #[.bool true, .int .i64 0]) ∧ AS S N n (v :: vals) w' ∧ Sm (two S N) w w' := by
  obtain ⟨t0, t1, m, l, f, hs, hi⟩ := h
  have hfl := hi.len
  have hvl := hi.vlen
  simp only [List.length_append] at hfl
  match f, hi, hfl with
  | [], hi, hfl => exact absurd hfl (by simp; omega)
  | i :: f, hi, hfl =>
    obtain ⟨h1, h2, h3⟩ := hi.c1
    have hin : i < n := hi.lt i (by simp)
    have hnd := hi.nd
    have hil : i ∉ l := by
      intro hm
      rw [List.nodup_append] at hnd
      exact hnd.2.2 i hm i (by simp) rfl
    have hif : i ∉ f := by
      rw [List.nodup_append] at hnd
      exact (List.nodup_cons.1 hnd.2.1).1
    have hml := hs.len
    have hG := gate_nilX 0 S N (fun w' => Sm (two S N) w w') (fun a b ha hb => ha.trans hb)
    refine (push_ok hG (Nat.zero_le _) (Nat.zero_le _) n t0 t1 i m[2 * i] (t0 % 4294967296) m v hv w [] (by simp) (Sm.refl _ _) hs h1 hin (fun _ => rfl) rfl).mono ?_
    rintro e w' ⟨rfl, hk, -, hs'⟩
    refine ⟨rfl, ⟨_, _, _, i :: l, f, hs', ?_, ?_, ?_, ?_, ?_, ?_, ?_, ?_⟩, hk⟩
    · have e0 : fol t0 (i + 1) % 4294967296 = i + 1 := fol_low t0 (i + 1) (by have := hs.le; omega)
      refine ⟨e0, by simpa using h2, ?_⟩
      have : ((m.set (2 * i + 1) v).set (2 * i) (t0 % 4294967296))[2 * i]'(by simpa using h2) = t0 % 4294967296 := by simp
      rw [this]
      exact ((hi.c0.set_odd i v).set_even i _ hil).low (by omega)
    · have e1 : fol t1 m[2 * i] % 4294967296 = m[2 * i] % 4294967296 := by
        rw [fol_low t1 _ (hs.nx i h2)]
        exact (Nat.mod_eq_of_lt (hs.nx i h2)).symm
      exact ((h3.set_odd i v).set_even i _ hif).low e1
    · have : (l ++ i :: f).Perm (i :: l ++ f) := List.perm_middle
      exact this.nodup hnd
    · intro j hj
      exact hi.lt j (by simp only [List.mem_append, List.mem_cons, List.cons_append] at hj ⊢; rcases hj with h | h | h <;> simp [h])
    · simp; simp at hfl; omega
    · intro k hk
      cases k with
      | zero =>
        refine ⟨by simp; omega, by simp, ?_⟩
        simp only [List.getElem_cons_zero]
        rw [List.getElem_set, if_neg (by omega), List.getElem_set, if_pos rfl]
      | succ k =>
        obtain ⟨g1, g2, g3⟩ := hi.vat k (by simpa using hk)
        refine ⟨by simpa using g1, by simpa using g2, ?_⟩
        simp only [List.getElem_cons_succ]
        have hne : l[k]'(by simpa using hk) ≠ i := fun e => hil (e ▸ List.getElem_mem _)
        rw [List.getElem_set, if_neg (by omega), List.getElem_set, if_neg (by omega), g3]
    · simp [hvl]
    · intro x hx
      simp only [List.mem_cons] at hx
      rcases hx with rfl | hx
      · exact hv
      · exact hi.vlt x hx

theorem push_b {S N n : Nat} (vals : List Nat) (v : Int) (w : World) (h : AS S N n vals w) (hlt : vals.length = n) :
    Calls Try.prog 13 #[.pointer (some ⟨S, 0, none⟩), .nilIface, .int .u64 v] w fun e w' =>
      e = .returned (.tuple #[.bool false, .int .i64 0]) ∧ AS S N n vals w' ∧ Sm (two S N) w w' := by
  obtain ⟨t0, t1, m, l, f, hs, hi⟩ := h
  have hfl := hi.len
  have hvl := hi.vlen
  simp only [List.length_append] at hfl
  have hf : f = [] := List.eq_nil_of_length_eq_zero (by omega)
  subst hf
  have hG := gate_nilX 0 S N (fun w' => Sm (two S N) w w') (fun a b ha hb => ha.trans hb)
  refine (push_full hG n t0 t1 m v w [] (by simp) (Sm.refl _ _) hs hi.c1).mono ?_
  rintro e w' ⟨rfl, hk, -, hs'⟩
  exact ⟨rfl, ⟨_, _, _, l, [], hs', hi⟩, hk⟩

theorem pop_a {S N n : Nat} (vals : List Nat) (v : Nat) (w : World) (h : AS S N n (v :: vals) w) :
    Calls Try.prog 14 #[.pointer (some ⟨S, 0, none⟩), .nilIface] w fun e w' =>
      e = .returned (.tuple #[.int .u64 v, .bool true, .int .i64 0]) ∧ AS S N n vals w' ∧ Sm (two S N) w w' := by
  obtain ⟨t0, t1, m, l, f, hs, hi⟩ := h
  have hfl := hi.len
  have hvl := hi.vlen
  simp only [List.length_append, List.length_cons] at hfl hvl
  match l, hi, hfl, hvl with
  | [], hi, hfl, hvl => exact absurd hvl (by simp)
  | i :: l, hi, hfl, hvl =>
    obtain ⟨h1, h2, h3⟩ := hi.c0
    have hin : i < n := hi.lt i (by simp)
    have hnd := hi.nd
    simp only [List.cons_append, List.nodup_cons, List.mem_append, not_or] at hnd
    obtain ⟨⟨hil, hif⟩, hnd⟩ := hnd
    have hml := hs.len
    obtain ⟨g1, g2, g3⟩ := hi.vat 0 (by simp)
    simp only [List.getElem_cons_zero] at g1 g3
    have hG := gate_nilX 0 S N (fun w' => Sm (two S N) w w') (fun a b ha hb => ha.trans hb)
    refine (pop_ok hG (Nat.zero_le _) (Nat.zero_le _) n t0 t1 i m[2 * i] (t1 % 4294967296) v m w [] (by simp) (Sm.refl _ _) hs h1 hin (fun _ => rfl) (fun _ => g3) rfl).mono ?_
    rintro e w' ⟨rfl, hk, -, hs'⟩
    refine ⟨rfl, ⟨_, _, _, l, i :: f, hs', ?_, ?_, ?_, ?_, ?_, ?_, ?_, ?_⟩, hk⟩
    · have e1 : fol t0 m[2 * i] % 4294967296 = m[2 * i] % 4294967296 := by
        rw [fol_low t0 _ (hs.nx i h2)]
        exact (Nat.mod_eq_of_lt (hs.nx i h2)).symm
      exact (h3.set_even i _ hil).low e1
    · have e0 : fol t1 (i + 1) % 4294967296 = i + 1 := fol_low t1 (i + 1) (by have := hs.le; omega)
      refine ⟨e0, by simpa using h2, ?_⟩
      have : (m.set (2 * i) (t1 % 4294967296))[2 * i]'(by simpa using h2) = t1 % 4294967296 := by simp
      rw [this]
      exact (hi.c1.set_even i _ hif).low (by omega)
    · have : (i :: (l ++ f)).Perm (l ++ i :: f) := List.perm_middle.symm
      exact this.nodup (List.nodup_cons.2 ⟨by simp [hil, hif], hnd⟩)
    · intro j hj
      exact hi.lt j (by simp only [List.mem_append, List.mem_cons, List.cons_append] at hj ⊢; rcases hj with h | h | h <;> simp [h])
    · simp; simp at hfl; omega
    · intro k hk
      obtain ⟨q1, q2, q3⟩ := hi.vat (k + 1) (by simpa using hk)
      simp only [List.getElem_cons_succ] at q1 q2 q3
      refine ⟨by simpa using q1, by simpa using q2, ?_⟩
      rw [List.getElem_set, if_neg (by omega), q3]
    · simpa using hvl
    · exact fun x hx => hi.vlt x (by simp [hx])

theorem pop_b {S N n : Nat} (w : World) (h : AS S N n [] w) :
    Calls Try.prog 14 #[.pointer (some ⟨S, 0, none⟩), .nilIface] w fun e w' =>
      e = .returned (.tuple #[.int .u64 0, .bool false, .int .i64 0]) ∧ AS S N n [] w' ∧ Sm (two S N) w w' := by
  obtain ⟨t0, t1, m, l, f, hs, hi⟩ := h
  have hvl := hi.vlen
  have hl : l = [] := List.eq_nil_of_length_eq_zero (by simpa using hvl.symm)
  subst hl
  have hG := gate_nilX 0 S N (fun w' => Sm (two S N) w w') (fun a b ha hb => ha.trans hb)
  refine (pop_empty hG n t0 t1 m w [] (by simp) (Sm.refl _ _) hs hi.c0).mono ?_
  rintro e w' ⟨rfl, hk, -, hs'⟩
  exact ⟨rfl, ⟨_, _, _, [], f, hs', hi⟩, hk⟩

theorem new_a (n : Nat) (hn0 : 0 < n) (hn : n ≤ 1024) (hb : bits .and .i64 (n : Int) ((n : Int) - 1) = 0) (w : World) :
    Calls Try.prog 12 #[.int .i64 n] w fun e w' =>
      e = .returned (.tuple #[.pointer (some ⟨w.heap.size + 1, 0, none⟩), .int .i64 0]) ∧ Sm (fun _ => False) w w' ∧ AS (w.heap.size + 1) w.heap.size n [] w' := by
  refine (new_ok n hn0 hn hb w).mono ?_
  rintro e w' ⟨rfl, hb, hs⟩
  refine ⟨rfl, ⟨hb.os, hb.tape, hb.output, hb.size, fun k hk _ => hb.block k hk⟩, _, _, _, [], List.range n, hs, ?_, ?_, ?_, ?_, ?_, ?_, ?_, ?_⟩
  · rfl
  · have key : ∀ d k, k + d = n → ∀ t, t % 4294967296 = (if k < n then k + 1 else 0) → Ch (memK n (n - 1)) t ((List.range n).drop k) := by
      intro d
      induction d with
      | zero =>
        intro k hk t ht
        rw [List.drop_of_length_le (by simp; omega)]
        rw [if_neg (by omega)] at ht
        exact ht
      | succ d ih =>
        intro k hk t ht
        rw [if_pos (by omega)] at ht
        rw [List.drop_eq_getElem_cons (by simp; omega)]
        simp only [List.getElem_range]
        refine ⟨ht, by rw [memK_len]; omega, ih (k + 1) (by omega) _ ?_⟩
        rw [memK_get]
        split <;> split <;> omega
    have := key n 0 (by omega) 1 (by rw [if_pos hn0])
    simpa using this
  · simpa using List.nodup_range
  · simp
  · simp
  · intro k h; exact absurd h (by simp)
  · rfl
  · simp
end Go.Proofs.Ytmcffabfghhpaaa
/- Plain words: a stack in many hands: which node lies where. No condition. -/
namespace Go.Proofs.Ytmcffabfghhpaaa
open Go.ConcN (sumTo upd sumTo_upd upd_ne upd_same le_sumTo)
/-- The node that a call has in hand. -/
def holdP : SPos → Option Nat
  | .vst j _ => some j
  | .vld j => some j
  | .g1 _ j _ => some j
  | .g2 _ j _ _ => some j
  | .g3 _ j _ _ => some j
  | _ => none
def holdN (q : Option SPos) (j : Nat) : Nat := if q.bind holdP = some j then 1 else 0
/-- A word seen on a top: it is there still, or its tag is past. -/
def Seen (a : SSt) (i h : Nat) : Prop := h / 4294967296 < a.top i / 4294967296 ∨ h = a.top i
/-- What holds where a call waits. -/
def POk (n : Nat) (a : SSt) : SPos → Prop
  | .t1 i _ => i < 2
  | .t2 i h _ => i < 2 ∧ h % 4294967296 ≠ 0 ∧ Seen a i h
  | .t3 i h x _ => i < 2 ∧ h % 4294967296 ≠ 0 ∧ Seen a i h ∧ (a.top i = h → x = a.m.getD (2 * (h % 4294967296 - 1)) 0)
  | .vst j _ => j < n
  | .vld j => j < n
  | .g1 i j _ => i < 2 ∧ j < n
  | .g2 i j h _ => i < 2 ∧ j < n ∧ Seen a i h ∧ h % 4294967296 ≤ n
  | .g3 i j h _ => i < 2 ∧ j < n ∧ Seen a i h ∧ a.m.getD (2 * j) 0 = h % 4294967296
/-- Each node lies on one of the tops' lists, or is in one hand. -/
structure SInv (n m : Nat) (a : SSt) (pos : Nat → Option SPos) (L0 L1 : List Nat) : Prop where
  n24 : n ≤ 1024
  len : a.m.length = 2 * n
  c0 : Ch a.m a.t0 L0
  c1 : Ch a.m a.t1 L1
  cnt : ∀ j, j < n → L0.count j + L1.count j + sumTo m (fun k => holdN (pos k) j) = 1
  lt0 : ∀ j ∈ L0, j < n
  lt1 : ∀ j ∈ L1, j < n
  bn : ∀ j, a.m.getD (2 * j) 0 ≤ n
  ok : ∀ k, k < m → ∀ p, pos k = some p → POk n a p
theorem two_sum {f : Nat → Nat} {i i' m : Nat} (hi : i < m) (hi' : i' < m) (hne : i ≠ i') : f i + f i' ≤ sumTo m f := by
  have h1 := sumTo_upd f 0 id (i := i) hi
  have h2 := le_sumTo (f := fun a => id (upd f i 0 a)) (i := i') hi'
  simp only [id] at h1 h2
  rw [upd_ne _ _ (Ne.symm hne)] at h2
  have e : sumTo m (fun a => f a) = sumTo m f := rfl
  omega
section
variable {n m : Nat} {a : SSt} {pos : Nat → Option SPos} {L0 L1 : List Nat} {k : Nat} {p : SPos}
theorem hold_one {j : Nat} (h : holdP p = some j) : holdN (some p) j = 1 := by simp [holdN, h]
theorem hold_zero {q : Option SPos} {j : Nat} (h : q.bind holdP ≠ some j) : holdN q j = 0 := by simp [holdN, h]
theorem SInv.held_lt (h : SInv n m a pos L0 L1) (hk : k < m) (hp : pos k = some p) {j : Nat} (hj : holdP p = some j) : j < n := by
  have := h.ok k hk p hp
  cases p <;> simp only [holdP, Option.some.injEq, reduceCtorEq] at hj <;> subst hj <;> simp only [POk] at this <;> first | exact this | exact this.2 | exact this.2.1
theorem SInv.held_out (h : SInv n m a pos L0 L1) (hk : k < m) (hp : pos k = some p) {j : Nat} (hj : holdP p = some j) : j ∉ L0 ∧ j ∉ L1 := by
  have h1 := h.cnt j (h.held_lt hk hp hj)
  have h2 := le_sumTo (f := fun k => holdN (pos k) j) hk
  have h3 : holdN (pos k) j = 1 := by rw [hp]; exact hold_one hj
  simp only [h3] at h2
  refine ⟨fun hm => ?_, fun hm => ?_⟩ <;> (have := List.count_pos_iff.2 hm; omega)
theorem SInv.held_two (h : SInv n m a pos L0 L1) (hk : k < m) (hp : pos k = some p) {j : Nat} (hj : holdP p = some j) {k' : Nat} {p' : SPos} (hk' : k' < m) (hne : k' ≠ k) (hp' : pos k' = some p') : holdP p' ≠ some j := fun hj' => by
  have h1 := h.cnt j (h.held_lt hk hp hj)
  have h2 := two_sum (f := fun k => holdN (pos k) j) hk' hk hne
  have h3 : holdN (pos k) j = 1 := by rw [hp]; exact hold_one hj
  have h4 : holdN (pos k') j = 1 := by rw [hp']; exact hold_one hj'
  simp only [h3, h4] at h2
  omega
/-- Hands change. -/
theorem hold_upd {q : Option SPos} (hk : k < m) (j : Nat) : sumTo m (fun i => holdN (upd pos k q i) j) + holdN (pos k) j = sumTo m (fun i => holdN (pos i) j) + holdN q j := sumTo_upd pos q (fun x => holdN x j) hk
theorem upd_cases {q : Option SPos} {i : Nat} {p' : SPos} (h : upd pos k q i = some p') : (i = k ∧ q = some p') ∨ (i ≠ k ∧ pos i = some p') := by
  by_cases e : i = k
  · subst e
    rw [upd_same] at h
    exact .inl ⟨rfl, h⟩
  · rw [upd_ne _ _ e] at h
    exact .inr ⟨e, h⟩
/-- Nothing but a hand's place changes. -/
theorem SInv.move (h : SInv n m a pos L0 L1) (hk : k < m) (hp : pos k = some p) {q : Option SPos} (hq : q.bind holdP = holdP p) (hok : ∀ p', q = some p' → POk n a p') : SInv n m a (upd pos k q) L0 L1 :=
  { h with
    cnt := fun j hj => by
      have h1 := h.cnt j hj
      have h2 := hold_upd (pos := pos) (q := q) hk j
      have h3 : holdN (pos k) j = holdN q j := by rw [hp]; simp only [holdN, hq, Option.bind_some]
      omega
    ok := fun i hi p' hp' => by
      rcases upd_cases hp' with ⟨_, e⟩ | ⟨_, e⟩
      · exact hok p' e
      · exact h.ok i hi p' e }
theorem top_cases (i : Nat) (hi : i < 2) : i = 0 ∨ i = 1 := by omega
theorem SInv.top_le (h : SInv n m a pos L0 L1) (i : Nat) : a.top i % 4294967296 ≤ n := by
  have key : ∀ {t : Nat} {L : List Nat}, Ch a.m t L → (∀ j ∈ L, j < n) → t % 4294967296 ≤ n := fun {t L} hc hl => by
    cases L with
    | nil => have : t % 4294967296 = 0 := hc; omega
    | cons j L => have := hc.1; have := hl j (by simp); omega
  unfold SSt.top
  split
  · exact key h.c0 h.lt0
  · exact key h.c1 h.lt1
/-- A top's word changes: what was seen of it is past. -/
theorem seen_new {i i' h' t : Nat} (hi : i < 2) (hi' : i' < 2) (ht : a.top i / 4294967296 < t / 4294967296) (hs : Seen a i' h') : Seen (a.setTop i t) i' h' ∧ ((a.setTop i t).top i' = h' → a.top i' = h' ∧ i' ≠ i) := by
  unfold Seen SSt.setTop SSt.top at *
  rcases top_cases i hi with rfl | rfl <;> rcases top_cases i' hi' with rfl | rfl <;> simp at * <;> omega
theorem POk.setTop {i t : Nat} {p' : SPos} (hi : i < 2) (ht : a.top i / 4294967296 < t / 4294967296) (h : POk n a p') : POk n (a.setTop i t) p' := by
  have hm : (a.setTop i t).m = a.m := by unfold SSt.setTop; split <;> rfl
  cases p' <;> simp only [POk, hm] at h ⊢
  · exact h
  · exact ⟨h.1, h.2.1, (seen_new hi h.1 ht h.2.2).1⟩
  · obtain ⟨h1, h2, h3, h4⟩ := h
    obtain ⟨s1, s2⟩ := seen_new hi h1 ht h3
    exact ⟨h1, h2, s1, fun e => h4 (s2 e).1⟩
  · exact h
  · exact h
  · exact h
  · exact ⟨h.1, h.2.1, (seen_new hi h.1 ht h.2.2.1).1, h.2.2.2⟩
  · exact ⟨h.1, h.2.1, (seen_new hi h.1 ht h.2.2.1).1, h.2.2.2⟩
theorem fol_tag {t x : Nat} (ht : t / 4294967296 < 4294967295) (hx : x < 4294967296) : t / 4294967296 < fol t x / 4294967296 := by
  unfold fol
  have : (t / 4294967296 + 1) % 4294967296 = t / 4294967296 + 1 := Nat.mod_eq_of_lt (by omega)
  rw [this]
  omega
theorem getD_even_odd {l : List Nat} {j j' v : Nat} : (l.set (2 * j + 1) v).getD (2 * j') 0 = l.getD (2 * j') 0 := by
  rw [List.getD_eq_getElem?_getD, List.getD_eq_getElem?_getD, List.getElem?_set_ne (by omega)]
theorem getD_even_ne {l : List Nat} {j j' v : Nat} (h : j ≠ j') : (l.set (2 * j) v).getD (2 * j') 0 = l.getD (2 * j') 0 := by
  rw [List.getD_eq_getElem?_getD, List.getD_eq_getElem?_getD, List.getElem?_set_ne (by omega)]
theorem getD_even_eq {l : List Nat} {j v : Nat} (h : 2 * j < l.length) : (l.set (2 * j) v).getD (2 * j) 0 = v := by
  rw [List.getD_eq_getElem?_getD, List.getElem?_set_self h]; rfl
theorem getD_odd_even {l : List Nat} {j j' v : Nat} : (l.set (2 * j) v).getD (2 * j' + 1) 0 = l.getD (2 * j' + 1) 0 := by
  rw [List.getD_eq_getElem?_getD, List.getD_eq_getElem?_getD, List.getElem?_set_ne (by omega)]
theorem getD_odd_ne {l : List Nat} {j j' v : Nat} (h : j ≠ j') : (l.set (2 * j + 1) v).getD (2 * j' + 1) 0 = l.getD (2 * j' + 1) 0 := by
  rw [List.getD_eq_getElem?_getD, List.getD_eq_getElem?_getD, List.getElem?_set_ne (by omega)]
theorem getD_odd_eq {l : List Nat} {j v : Nat} (h : 2 * j + 1 < l.length) : (l.set (2 * j + 1) v).getD (2 * j + 1) 0 = v := by
  rw [List.getD_eq_getElem?_getD, List.getElem?_set_self h]; rfl
/-- The lists of a top. -/
def pick2 (i : Nat) (L0 L1 : List Nat) : List Nat := if i = 0 then L0 else L1
def put2 (i : Nat) (L : List Nat) (L0 L1 : List Nat) : List Nat × List Nat := if i = 0 then (L, L1) else (L0, L)
theorem SInv.chain (h : SInv n m a pos L0 L1) (i : Nat) : Ch a.m (a.top i) (pick2 i L0 L1) ∧ (∀ j ∈ pick2 i L0 L1, j < n) := by
  unfold SSt.top pick2
  split
  · exact ⟨h.c0, h.lt0⟩
  · exact ⟨h.c1, h.lt1⟩
/-- A top gets another word and another list. -/
theorem SInv.newTop (h : SInv n m a pos L0 L1) (hk : k < m) {i t : Nat} (hi : i < 2) (ht : a.top i / 4294967296 < t / 4294967296) {L : List Nat} (hc : Ch a.m t L) (hl : ∀ j ∈ L, j < n) {q : Option SPos}
    (hcnt : ∀ j, L.count j + holdN q j = (pick2 i L0 L1).count j + holdN (pos k) j) (hok : ∀ p', q = some p' → POk n (a.setTop i t) p') : SInv n m (a.setTop i t) (upd pos k q) (put2 i L L0 L1).1 (put2 i L L0 L1).2 := by
  have hm : (a.setTop i t).m = a.m := by unfold SSt.setTop; split <;> rfl
  have hok' : ∀ i', i' < m → ∀ p', upd pos k q i' = some p' → POk n (a.setTop i t) p' := fun i' hi' p' hp' => by
    rcases upd_cases hp' with ⟨_, e⟩ | ⟨_, e⟩
    · exact hok p' e
    · exact (h.ok i' hi' p' e).setTop hi ht
  rcases top_cases i hi with rfl | rfl
  · refine ⟨h.n24, by rw [hm]; exact h.len, by rw [hm]; exact hc, by rw [hm]; exact h.c1, fun j hj => ?_, hl, h.lt1, by rw [hm]; exact h.bn, hok'⟩
    have h1 := h.cnt j hj
    have h2 := hold_upd (pos := pos) (q := q) hk j
    have h3 := hcnt j
    simp only [pick2, put2, if_true] at h3 ⊢
    omega
  · refine ⟨h.n24, by rw [hm]; exact h.len, by rw [hm]; exact h.c0, by rw [hm]; exact hc, fun j hj => ?_, h.lt0, hl, by rw [hm]; exact h.bn, hok'⟩
    have h1 := h.cnt j hj
    have h2 := hold_upd (pos := pos) (q := q) hk j
    have h3 := hcnt j
    simp only [pick2, put2, if_neg (show ¬ (1 = 0) by decide)] at h3 ⊢
    omega
/-- How the list of the numbers' top changes in a step. -/
def Chg (p : SPos) (a : SSt) (L0 L0' : List Nat) : Prop := match p with
  | .t3 i h _ _ => if i = 0 ∧ a.top i = h then L0 = (h % 4294967296 - 1) :: L0' else L0' = L0
  | .g3 i j h _ => if i = 0 ∧ a.top i = h then L0' = j :: L0 else L0' = L0
  | _ => L0' = L0
/-- ████ A STEP. ████ -/
theorem SInv.step (h : SInv n m a pos L0 L1) (hk : k < m) (hp : pos k = some p) (ht : ∀ i, a.top i / 4294967296 < 4294967295) {q : Option SPos}
    (hq : match (p.exec a).2 with | .inl p' => q = some p' | .inr _ => q.bind holdP = none ∧ ∀ p', q = some p' → ∃ i kd, p' = .t1 i kd ∧ i < 2) :
    ∃ L0' L1', SInv n m (p.exec a).1 (upd pos k q) L0' L1' ∧ Chg p a L0 L0' := by
  have hpok := h.ok k hk p hp
  have hn := h.n24
  cases p with
  | t1 i kd =>
    simp only [SPos.exec] at hq ⊢
    by_cases e : a.top i % 4294967296 = 0
    · simp only [e, if_true] at hq ⊢
      exact ⟨L0, L1, h.move hk hp hq.1 fun p' e' => by obtain ⟨i', kd', rfl, hi'⟩ := hq.2 p' e'; exact hi', rfl⟩
    · simp only [e, if_false] at hq ⊢
      subst hq
      exact ⟨L0, L1, h.move hk hp rfl fun p' e' => by obtain rfl := Option.some.inj e'; exact ⟨hpok, e, .inr rfl⟩, rfl⟩
  | t2 i hh kd =>
    simp only [SPos.exec] at hq ⊢
    subst hq
    exact ⟨L0, L1, h.move hk hp rfl fun p' e' => by obtain rfl := Option.some.inj e'; exact ⟨hpok.1, hpok.2.1, hpok.2.2, fun _ => rfl⟩, rfl⟩
  | t3 i hh x kd =>
    obtain ⟨hi, hz, hs, hx⟩ := hpok
    simp only [SPos.exec] at hq ⊢
    by_cases e : a.top i = hh
    · simp only [e, if_true] at hq ⊢
      subst hq
      obtain ⟨hc, hl⟩ := h.chain i
      have hx := hx e
      rw [e] at hc
      cases hL : pick2 i L0 L1 with
      | nil => rw [hL] at hc; exact absurd hc hz
      | cons j L =>
        rw [hL] at hc hl
        obtain ⟨c1, c2, c3⟩ := hc
        have hj : hh % 4294967296 - 1 = j := by omega
        rw [hj] at hx ⊢
        have hxm : x = a.m[2 * j] := by rw [hx, List.getD_eq_getElem?_getD, List.getElem?_eq_getElem c2]; rfl
        have hxn : x ≤ n := by rw [hx]; exact h.bn j
        have hjn := hl j (by simp)
        have hch : Ch a.m (fol hh x) L := by
          rw [← hxm] at c3
          refine c3.low ?_
          rw [fol_low _ _ (by omega), Nat.mod_eq_of_lt (by omega)]
        have h' := h.newTop hk hi (t := fol hh x) (by rw [e]; exact fol_tag (by rw [← e]; exact ht i) (by omega)) hch (fun y hy => hl y (by simp [hy])) (q := some (kd.after j)) (fun y => ?_) (fun p' e' => ?_)
        · refine ⟨_, _, h', ?_⟩
          unfold Chg
          rcases top_cases i hi with rfl | rfl
          · simp only [true_and, e, if_true, put2]
            rw [hj]
            simpa [pick2] using hL
          · simp [put2]
        · rw [hL, hp]
          have e1 : holdN (some (kd.after j)) y = if y = j then 1 else 0 := by
            cases kd <;> simp only [SKd.after, holdN, holdP, Option.bind_some, Option.some.injEq] <;> (by_cases e : y = j <;> first | (subst e; simp; done) | simp [e, show ¬ j = y from fun h => e h.symm])
          have e2 : holdN (some (SPos.t3 i hh x kd)) y = 0 := rfl
          rw [e1, e2, List.count_cons]
          by_cases ey : y = j
          · subst ey; simp
          · have : (j == y) = false := by simpa using fun e => ey e.symm
            simp [ey, this]
        · obtain rfl := Option.some.inj e'
          cases kd <;> exact hjn
    · simp only [e, if_false] at hq ⊢
      subst hq
      refine ⟨L0, L1, h.move hk hp rfl fun p' e' => by obtain rfl := Option.some.inj e'; exact hi, ?_⟩
      simp [Chg, e]
  | vst j v =>
    simp only [SPos.exec] at hq ⊢
    subst hq
    refine ⟨L0, L1, ?_, rfl⟩
    have h' := h.move hk hp (q := some (.g1 0 j .push)) rfl fun p' e' => by obtain rfl := Option.some.inj e'; exact ⟨by omega, hpok⟩
    refine { h' with len := by simpa using h.len, c0 := h.c0.set_odd j v, c1 := h.c1.set_odd j v, bn := fun j' => by show (a.m.set _ _).getD _ _ ≤ n; rw [getD_even_odd]; exact h.bn j', ok := fun i' hi' p' hp' => ?_ }
    have := h'.ok i' hi' p' hp'
    cases p' <;> simp only [POk, getD_even_odd, Seen] at this ⊢ <;> exact this
  | vld j =>
    simp only [SPos.exec] at hq ⊢
    subst hq
    exact ⟨L0, L1, h.move hk hp rfl fun p' e' => by obtain rfl := Option.some.inj e'; exact ⟨by omega, hpok⟩, rfl⟩
  | g1 i j r =>
    simp only [SPos.exec] at hq ⊢
    subst hq
    exact ⟨L0, L1, h.move hk hp rfl fun p' e' => by obtain rfl := Option.some.inj e'; exact ⟨hpok.1, hpok.2, .inr rfl, h.top_le i⟩, rfl⟩
  | g2 i j hh r =>
    obtain ⟨hi, hj, hs, hb⟩ := hpok
    simp only [SPos.exec] at hq ⊢
    subst hq
    refine ⟨L0, L1, ?_, rfl⟩
    obtain ⟨o0, o1⟩ := h.held_out hk hp (j := j) rfl
    have hlen : 2 * j < a.m.length := by rw [h.len]; omega
    refine ⟨h.n24, by simpa using h.len, h.c0.set_even j _ o0, h.c1.set_even j _ o1, fun y hy => ?_, h.lt0, h.lt1, fun j' => ?_, fun i' hi' p' hp' => ?_⟩
    · have h1 := h.cnt y hy
      have h2 := hold_upd (pos := pos) (q := some (.g3 i j hh r)) hk y
      have h3 : holdN (pos k) y = holdN (some (.g3 i j hh r)) y := by rw [hp]; rfl
      omega
    · show (a.m.set _ _).getD _ _ ≤ n
      by_cases e : j = j'
      · subst e; rw [getD_even_eq hlen]; exact hb
      · rw [getD_even_ne e]; exact h.bn j'
    · rcases upd_cases hp' with ⟨_, e⟩ | ⟨hne, e⟩
      · obtain rfl := Option.some.inj e
        exact ⟨hi, hj, hs, getD_even_eq hlen⟩
      · have h1 := h.ok i' hi' p' e
        have h2 := h.held_two hk hp (j := j) rfl hi' hne e
        cases p' with
        | t3 i2 h2' x kd =>
          obtain ⟨q1, q2, q3, q4⟩ := h1
          refine ⟨q1, q2, q3, fun e2 => ?_⟩
          have e2 : a.top i2 = h2' := e2
          have q4 := q4 e2
          show x = (a.m.set (2 * j) (hh % 4294967296)).getD _ 0
          rw [getD_even_ne]
          · exact q4
          · intro ej
            obtain ⟨hc, hl⟩ := h.chain i2
            rw [e2] at hc
            cases hL : pick2 i2 L0 L1 with
            | nil => rw [hL] at hc; exact absurd hc q2
            | cons y L =>
              rw [hL] at hc
              have hy : y = j := by have := hc.1; omega
              subst hy
              have : y ∈ pick2 i2 L0 L1 := by rw [hL]; simp
              unfold pick2 at this
              split at this
              · exact o0 this
              · exact o1 this
        | g3 i2 j2 h2' r2 =>
          obtain ⟨q1, q2, q3, q4⟩ := h1
          refine ⟨q1, q2, q3, ?_⟩
          show (a.m.set (2 * j) (hh % 4294967296)).getD _ 0 = _
          rw [getD_even_ne fun e => h2 (by rw [← e]; rfl)]
          exact q4
        | _ => exact h1
  | g3 i j hh r =>
    obtain ⟨hi, hj, hs, hb⟩ := hpok
    simp only [SPos.exec] at hq ⊢
    by_cases e : a.top i = hh
    · simp only [e, if_true] at hq ⊢
      obtain ⟨hc, hl⟩ := h.chain i
      obtain ⟨o0, o1⟩ := h.held_out hk hp (j := j) rfl
      have hlen : 2 * j < a.m.length := by rw [h.len]; omega
      have hm : a.m[2 * j] = hh % 4294967296 := by rw [← hb, List.getD_eq_getElem?_getD, List.getElem?_eq_getElem hlen]; rfl
      have hch : Ch a.m (fol hh (j + 1)) (j :: pick2 i L0 L1) := by
        refine ⟨fol_low _ _ (by omega), hlen, ?_⟩
        rw [hm]
        refine hc.low ?_
        rw [e, Nat.mod_mod]
      have h' := h.newTop hk hi (t := fol hh (j + 1)) (by rw [e]; exact fol_tag (by rw [← e]; exact ht i) (by omega)) hch (fun y hy => by
        rcases List.mem_cons.1 hy with rfl | hy
        · exact hj
        · exact hl y hy) (q := q) (fun y => ?_) (fun p' e' => by obtain ⟨i', kd', rfl, hi'⟩ := hq.2 p' e'; exact hi')
      · refine ⟨_, _, h', ?_⟩
        unfold Chg
        rcases top_cases i hi with rfl | rfl
        · simp [put2, pick2, e]
        · simp [put2]
      · rw [hp, hold_zero (q := q) (by rw [hq.1]; simp), List.count_cons]
        have e1 : holdN (some (SPos.g3 i j hh r)) y = if y = j then 1 else 0 := by
          simp only [holdN, holdP, Option.bind_some, Option.some.injEq]
          by_cases e : y = j <;> first | (subst e; simp; done) | simp [e, show ¬ j = y from fun h => e h.symm]
        rw [e1]
        by_cases ey : y = j
        · subst ey; simp
        · have : (j == y) = false := by simpa using fun e => ey e.symm
          simp [ey, this]
    · simp only [e, if_false] at hq ⊢
      subst hq
      refine ⟨L0, L1, h.move hk hp rfl fun p' e' => by obtain rfl := Option.some.inj e'; exact ⟨hi, hj⟩, ?_⟩
      simp [Chg, e]
end
end Go.Proofs.Ytmcffabfghhpaaa
/- Plain words: what a thread knows of its own memory between two calls; its words. No condition. -/
namespace Go.Proofs.Ytmcffabfghhpaaa
open Go.Conc Go.RowKit
section
variable {J : Job} {K : Client J} {Wg ti : Nat} {s : SV}
abbrev TIx (K : Client J) : Type := K.Ix
/-- What the threads keep, with each one's own memory. -/
abbrev Client.All (K : Client J) := K.B × (Nat → K.Pg)
/-- Thread ti between two calls: the state now, the state to be reached. -/
structure TK (K : Client J) (Wg : Nat) (s : SV) (ti : Nat) (n : TIx K) (a : J.St) (b : K.All) (F : (J.St × K.B) × Option (J.Pos × K.C)) (w : World) : Prop where
  mem : s ∈ n.2.2
  off : Off Wg n.2.2
  sh : ShOk (WgL Wg) Wg n.2.2
  wd : Wd Wg n.2.2 w
  rep : ∃ o : Own, RepT K.core.spec Wg n.2.2 (((a, b.1), b.2), o) w ∧ ∀ z, K.core.Leads ti b.2 o F z → n.2.1 z
variable {n : TIx K} {a a' : J.St} {b b' : K.All} {F : (J.St × K.B) × Option (J.Pos × K.C)} {w : World}
theorem TK.call {p : J.Pos} {c : K.C} (h : TK K Wg s ti n a b ((a, b.1), some (p, c)) w) (hc : K.tid c = ti) : AtT K Wg s c (b.2 ti) n n.1 a (a, .inl p) w := by
  obtain ⟨o, h1, h2⟩ := h.rep
  exact ⟨rfl, h.mem, h.off, h.sh, h.wd, b.1, b.2, o, h1, by rw [hc], fun z hz => h2 z (by rw [← hc]; exact hz)⟩
theorem AtT.answer {c : K.C} {pg : K.Pg} {k : Nat} {r : J.Res} (h : AtT K Wg s c pg n k a (a, .inr r) w) (hc : K.tid c = ti) : ∃ b : K.All, b.2 ti = pg ∧ TK K Wg s ti n a b (K.fin c r (a, b.1)) w := by
  obtain ⟨h1, h2, h3, h4, h5, b, γ, o, h6, h7, h8⟩ := h
  exact ⟨(b, γ), by rw [← hc]; exact h7, h2, h3, h4, h5, o, h6, fun z hz => h8 z (by rw [hc]; exact hz)⟩
theorem TK.done (h : TK K Wg s ti n a b ((a, b.1), none) w) : ThrPost K.core.spec Wg (WgL Wg) s n (.tuple #[]) w := by
  obtain ⟨o, h1, h2⟩ := h.rep
  obtain ⟨n1, E, θ⟩ := n
  exact ⟨rfl, n1, E, _, θ, rfl, h2 ((((a, b.1), b.2), o), none) ⟨⟨rfl, fun _ _ => rfl, rfl⟩, rfl⟩, h.mem, h.off, h.sh, h.wd, h1⟩
/-- What a thread's own step may do to its memory. -/
structure Mv (K : Client J) (ti : Nat) (a a' : J.St) (b b' : K.All) (u u' : World) : Prop where
  rep : J.Rep a' u'
  repB : K.RepB b' u'
  dis : ∀ x, J.foot a' x → ¬ K.footB b' x
  same : Sm (fun x => J.foot a x ∨ K.footB b x) u u'
  grow : ∀ x, J.foot a' x ∨ K.footB b' x → (J.foot a x ∨ K.footB b x) ∨ u.heap.size ≤ x
  others : ∀ j, j ≠ ti → b'.2 j = b.2 j
theorem Mv.refl {u : World} (h1 : J.Rep a u) (h2 : K.RepB b u) (h3 : ∀ x, J.foot a x → ¬ K.footB b x) : Mv K ti a a b b u u := ⟨h1, h2, h3, Sm.refl _ _, fun _ h => .inl h, fun _ _ => rfl⟩
theorem Mv.spec {u u' : World} (o : Own) (h : Mv K ti a a' b b' u u') (hr : K.core.spec.Rep (((a, b.1), b.2), o) u) : K.core.spec.Rep (((a', b'.1), b'.2), o) u' := by
  obtain ⟨hY, ho⟩ := hr
  refine ⟨⟨h.rep, h.repB, h.dis⟩, fun x ob hob => ?_, h.same.os.trans ho.os, h.same.output.trans ho.out⟩
  obtain ⟨q1, q2, q3⟩ := ho.on x ob hob
  have q2 : ¬ (J.foot a x ∨ K.footB b x) := q2
  have hl := (Array.getElem?_eq_some_iff.1 q1).1
  refine ⟨?_, fun hx => ?_, q3⟩
  · rw [h.same.block x hl q2]; exact q1
  · rcases h.grow x hx with h' | h'
    · exact q2 h'
    · omega
theorem due_of {o : Own} (h : ∀ j, j ≠ ti → b'.2 j = b.2 j) (h2 : ∀ z, K.core.Leads ti b.2 o F z → n.2.1 z) : ∀ z, K.core.Leads ti b'.2 o F z → n.2.1 z := fun z hz => h2 z ⟨⟨hz.1.st, fun j hj => (hz.1.others j hj).trans (h j hj), hz.1.pc⟩, hz.2⟩
theorem TK.lone (h : TK K Wg s ti n a b F w) : ∃ u, Ps0 Try.prog (sig Wg n.2.2) w u ∧ J.Rep a u ∧ K.RepB b u ∧ ∀ x, J.foot a x → ¬ K.footB b x := by
  obtain ⟨o, h1, _⟩ := h.rep
  have hu := spoil_ps (P := Try.prog) no_steps (real_of h.off h.wd.kt h.wd.wg)
  exact ⟨_, hu, (h1 _ hu).1⟩
theorem TK.rwg {w' : World} (h : TK K Wg s ti n a b F w) (hR : RWg tWg Wg w w') : TK K Wg s ti n a b F w' := by
  obtain ⟨o, h1, h2⟩ := h.rep
  exact ⟨h.mem, h.off, h.sh, h.wd.rwg h.off hR, o, h1.rwg h.off h.wd hR, h2⟩
/-- A piece by its walk alone. -/
theorem aloneTK {c : Code} {t : Array Value} {Q : TIx K → Exit → Array Value → World → Prop} (h : TK K Wg s ti n a b F w) (hc : okCode thrOk false c = true)
    (hwp : ∀ u, J.Rep a u → K.RepB b u → (∀ x, J.foot a x → ¬ K.footB b x) → c.wp Try.prog (onlyN fun a₁ u' => a₁.defers = [] ∧ ∃ a' b', Mv K ti a a' b b' u u' ∧ ∀ w', TK K Wg s ti n a' b' F w' → Q n .normal a₁.tmps w') ⟨t, []⟩ u) : cps (envT K.core.spec Wg (WgL Wg) s) c Q n t w := by
  obtain ⟨o, h1, h2⟩ := h.rep
  obtain ⟨n1, E, θ⟩ := n
  refine aloneT h.off h.sh h.wd hc fun u hu => ?_
  have hr := h1 u hu
  refine wp_mono (hwp u hr.1.1 hr.1.2.1 hr.1.2.2) fun e a₁ u' q => ?_
  cases e with
  | normal =>
    obtain ⟨q1, a', b', q2, q3⟩ := q
    refine ⟨rfl, q1, fun w' hp hwd _ => q3 w' ⟨h.mem, h.off, h.sh, hwd, o, RepT.intro hp (q2.spec o hr), due_of (n := (n1, E, θ)) q2.others h2⟩⟩
  | _ => exact q.elim
section region
variable {ops : Array Oper} {i : Nat} {o : Oper} {l : List Nat} {t : Array Value} {Qr : TIx K → Array Value → World → Prop}
/-- An operation by its walk alone. -/
theorem opT (h : TK K Wg s ti n a b F w) (v : Value) (a' : J.St) (b' : K.All) (ho : ops[i]? = some o) (hok : thrOk o.op = true) (hw : Region.wanted o (yielded ops t) = true)
    (hrun : ∀ u, J.Rep a u → K.RepB b u → (∀ x, J.foot a x → ¬ K.footB b x) → ∃ u', ((execOp (⟨t, []⟩ : Act).eval o).run Try.prog u = .ok (.value v) u' ∨ (execOp (⟨t, []⟩ : Act).eval o).run Try.prog u = .ok .skip u' ∧ v = undef) ∧ Mv K ti a a' b b' u u')
    (hk : ∀ w', TK K Wg s ti n a' b' F w' → cpsR (envT K.core.spec Wg (WgL Wg) s) ops l Qr n ((⟨t, []⟩ : Act).put o.dst v).tmps w') : cpsR (envT K.core.spec Wg (WgL Wg) s) ops (i :: l) Qr n t w := by
  obtain ⟨oo, h1, h2⟩ := h.rep
  obtain ⟨n1, E, θ⟩ := n
  have real := real_of h.off h.wd.kt h.wd.wg
  have U : Suits Try.prog (sig Wg θ) (RWg tWg Wg) (DH Wg (WgL Wg) (KT θ) (StT θ) (isCh θ)) (KR Wg θ) := suits h.off fun l hl => (h.sh l hl).imp fun a h => ⟨h.1, h.2.1⟩
  have F0 := thr_fit (sig Wg θ)
  refine cpsR_op (envT_ok _ _ _ _) ho hw fun w₁ hR => ?_
  have hR : RWg tWg Wg w w₁ := hR
  have hp0 := spoil_ps (P := Try.prog) no_steps real
  have hp1 : Ps0 Try.prog (sig Wg θ) w₁ (spoil (sig Wg θ) w) := Ps.others hp0 (U.oth _ _ hR)
  have hT := F0.op (⟨t, []⟩ : Act).eval (reads_act _) o hok
  let T : Nat → Question → Nat := fun k => w₁.tape (w₁.drawn + (k - (spoil (sig Wg θ) w).drawn))
  have hp2 := hp0.dealt T
  have hr0 := h1 _ hp2
  obtain ⟨u', hr, hm⟩ := hrun _ hr0.1.1 hr0.1.2.1 hr0.1.2.2
  have key : ∀ nx, (execOp (⟨t, []⟩ : Act).eval o).run Try.prog (World.deal (spoil (sig Wg θ) w) T) = .ok nx u' → ∃ w' es', (execOp (⟨t, []⟩ : Act).eval o).runT Try.prog w₁ #[] = (.ok nx w', es') ∧ DH Wg (WgL Wg) (KT θ) (StT θ) (isCh θ) w₁ w' es' ∧ TK K Wg s ti (n1, E, θ) a' b' F w' := fun nx hr => by
    obtain ⟨w', es', q1, q2, q3, q4⟩ := hT.mild.sim u'.drawn w₁ _ nx u' #[] (hp1.deal u'.drawn) hr (Nat.le_refl _)
    have hKR : KR Wg θ w w' := KR.trans _ _ _ (U.kr _ _ hR) (U.kf _ _ _ _ q3)
    exact ⟨w', es', by simpa using q1, U.list _ _ _ _ _ q3 q4, h.mem, h.off, h.sh, h.wd.kr hKR, oo, RepT.intro q2.off (hm.spec oo hr0), due_of (n := (n1, E, θ)) hm.others h2⟩
  rcases hr with hr | ⟨hr, rfl⟩
  · obtain ⟨w', es', q1, q2, q3⟩ := key _ hr
    exact ⟨v, w', es', .inl q1, q2, hk w' q3⟩
  · obtain ⟨w', es', q1, q2, q3⟩ := key _ hr
    exact ⟨undef, w', es', .inr ⟨q1, rfl⟩, q2, hk w' q3⟩
/-- A read. -/
theorem readTK (h : TK K Wg s ti n a b F w) (v : Value) (ho : ops[i]? = some o) (hok : thrOk o.op = true) (hw : Region.wanted o (yielded ops t) = true)
    (hrun : ∀ u, J.Rep a u → K.RepB b u → (execOp (⟨t, []⟩ : Act).eval o).run Try.prog u = .ok (.value v) u)
    (hk : ∀ w', TK K Wg s ti n a b F w' → cpsR (envT K.core.spec Wg (WgL Wg) s) ops l Qr n ((⟨t, []⟩ : Act).put o.dst v).tmps w') : cpsR (envT K.core.spec Wg (WgL Wg) s) ops (i :: l) Qr n t w :=
  opT h v a b ho hok hw (fun u h1 h2 h3 => ⟨u, .inl (hrun u h1 h2), Mv.refl h1 h2 h3⟩) hk
end region
end
end Go.Proofs.Ytmcffabfghhpaaa
/- Plain words: threads each with a part of its own, beside memory that stands. No condition. -/
namespace Go.Proofs.Ytmcffabfghhpaaa
open Go.Conc Go.RowKit
/-- What is no channel, nor empty. -/
def RealO (o : Obj) : Prop := (∀ cap buf cl x r t, o ≠ .chan cap buf cl x r t) ∧ ∀ T, o ≠ .cells #[] T (0, 0)
/-- A thread's own part: what is told of it, where its memory lies, what it does behind an answer. -/
structure Part (J : Job) where
  PB : Type
  Pg : Type
  C : Type
  upd : Nat → C → J.Res → PB → PB
  nxt : Nat → C → J.Res → Option (J.Pos × C)
  foot : Nat → PB × Pg → Nat → Prop
  Rep : Nat → PB × Pg → World → Prop
  frame : ∀ k p u u', (∀ b, foot k p b → u'.heap[b]? = u.heap[b]?) → Rep k p u → Rep k p u'
  real : ∀ k p u b, Rep k p u → foot k p b → ∃ o, u.heap[b]? = some o ∧ RealO o
/-- What stands. -/
structure Old where
  ob : Nat → Option Obj
  real : ∀ b o, ob b = some o → RealO o
def Old.In (old : Old) (u : World) : Prop := ∀ b o, old.ob b = some o → u.heap[b]? = some o
/-- A cell of what stands. -/
def Old.cell (old : Old) (a : Addr) (v : Value) : Prop := ∃ o, old.ob a.block = some o ∧ ∀ u : World, u.heap[a.block]? = some o → u.cell? a = some v
theorem Old.In.cell {old : Old} {u : World} (h : old.In u) {a : Addr} {v : Value} (hc : old.cell a v) : u.cell? a = some v := by
  obtain ⟨o, h1, h2⟩ := hc
  exact h2 u (h _ _ h1)
theorem Old.cell_of {old : Old} {u : World} {a : Addr} {v : Value} (hc : u.cell? a = some v) (h : old.ob a.block = u.heap[a.block]?) : old.cell a v := by
  have hc' := hc
  unfold World.cell? at hc
  cases hb : u.heap[a.block]? with
  | none => rw [hb] at hc; cases hc
  | some o =>
    refine ⟨o, h.trans hb, fun u' hu => ?_⟩
    rw [← hc']
    unfold World.cell?
    rw [hu, hb]
open Classical in
/-- What is of these blocks, in a world. -/
noncomputable def oldOf (D : Nat → Prop) (u : World) : Old where
  ob := fun b => if D b then (u.heap[b]?).filter (fun o => decide (RealO o)) else none
  real := fun b o h => by
    split at h
    · rw [Option.filter_eq_some_iff] at h
      simpa using h.2
    · cases h
theorem oldOf_at {D : Nat → Prop} {u : World} {b : Nat} {o : Obj} (hD : D b) (h : u.heap[b]? = some o) (hr : RealO o) : (oldOf D u).ob b = some o := by
  classical
  unfold oldOf
  simp only [if_pos hD, h, Option.filter_some]
  rw [if_pos (by simpa using hr)]
theorem oldOf_some {D : Nat → Prop} {u : World} {b : Nat} {o : Obj} (h : (oldOf D u).ob b = some o) : D b ∧ u.heap[b]? = some o := by
  classical
  unfold oldOf at h
  simp only at h
  split at h
  · rw [Option.filter_eq_some_iff] at h
    exact ⟨by assumption, h.1⟩
  · cases h
theorem oldOf_in {D : Nat → Prop} {u : World} : (oldOf D u).In u := fun _ _ h => (oldOf_some h).2
/-- One place is changed. -/
def set1 {α : Type} (f : Nat → α) (k : Nat) (v : α) : Nat → α := fun j => if j = k then v else f j
theorem set1_at {α : Type} {f : Nat → α} {k : Nat} {v : α} : set1 f k v k = v := if_pos rfl
theorem set1_ne {α : Type} {f : Nat → α} {k j : Nat} {v : α} (h : j ≠ k) : set1 f k v j = f j := if_neg h
theorem set1_same {α : Type} {f : Nat → α} {k : Nat} : set1 f k (f k) = f := by
  funext j
  unfold set1
  split
  · rename_i h; rw [h]
  · rfl
theorem set1_twice {α : Type} {f : Nat → α} {k : Nat} {v v' : α} : set1 (set1 f k v) k v' = set1 f k v' := by
  funext j
  unfold set1
  split <;> rfl
section
variable {J : Job} {P : Part J}
/-- All parts in memory. -/
structure PRep (P : Part J) (m : Nat) (old : Old) (β : (Nat → P.PB) × (Nat → P.Pg)) (u : World) : Prop where
  stat : old.In u
  part : ∀ k, k < m → P.Rep k (β.1 k, β.2 k) u
  off : ∀ k x, k < m → P.foot k (β.1 k, β.2 k) x → old.ob x = none
  dis : ∀ j k x, j < m → k < m → j ≠ k → P.foot j (β.1 j, β.2 j) x → ¬ P.foot k (β.1 k, β.2 k) x
def Part.foots (P : Part J) (m : Nat) (old : Old) (β : (Nat → P.PB) × (Nat → P.Pg)) (x : Nat) : Prop := old.ob x ≠ none ∨ ∃ k, k < m ∧ P.foot k (β.1 k, β.2 k) x
/-- Threads with such parts. -/
def Part.client (P : Part J) (base m : Nat) (old : Old) : Client J where
  B := Nat → P.PB
  C := Nat × P.C
  Pg := P.Pg
  base := base
  tid := Prod.fst
  fin := fun c r σ => ((σ.1, set1 σ.2 c.1 (P.upd c.1 c.2 r (σ.2 c.1))), (P.nxt c.1 c.2 r).map fun p => (p.1, (c.1, p.2)))
  tids := fun c r σ p h => by
    obtain ⟨q, _, rfl⟩ := Option.map_eq_some_iff.1 h
    rfl
  footB := P.foots m old
  RepB := PRep P m old
  frameB := fun β u u' h hr => ⟨fun b o hb => (h b (.inl (by rw [hb]; simp))).trans (hr.stat b o hb), fun k hk => P.frame k _ u u' (fun b hb => h b (.inr ⟨k, hk, hb⟩)) (hr.part k hk), hr.off, hr.dis⟩
  realB := fun β u b hr hb => by
    rcases hb with hb | ⟨k, hk, hb⟩
    · obtain ⟨o, ho⟩ := Option.ne_none_iff_exists'.1 hb
      exact ⟨o, hr.stat b o ho, (old.real b o ho).1, (old.real b o ho).2⟩
    · obtain ⟨o, h1, h2⟩ := P.real k _ u b (hr.part k hk) hb
      exact ⟨o, h1, h2.1, h2.2⟩
variable {base m k : Nat} {old : Old} {a : J.St} {b : Nat → P.PB} {γ : Nat → P.Pg} {u u' : World}
/-- A thread changes its own part. -/
theorem part_mv (hk : k < m) {pb : P.PB} {pg : P.Pg} (hA : J.Rep a u) (hB : PRep P m old (b, γ) u) (hd : ∀ x, J.foot a x → ¬ P.foots m old (b, γ) x) (hs : Sm (P.foot k (b k, γ k)) u u') (hr : P.Rep k (pb, pg) u')
    (hg : ∀ x, P.foot k (pb, pg) x → P.foot k (b k, γ k) x ∨ u.heap.size ≤ x) : Mv (P.client base m old) k a a (b, γ) (set1 b k pb, set1 γ k pg) u u' := by
  have lt : ∀ {b o}, u.heap[b]? = some o → b < u.heap.size := fun h => (Array.getElem?_eq_some_iff.1 h).1
  have hAlt : ∀ x, J.foot a x → x < u.heap.size := fun x hx => by
    obtain ⟨o, h, _⟩ := J.real a u x hA hx
    exact lt h
  have hPlt : ∀ j, j < m → ∀ x, P.foot j (b j, γ j) x → x < u.heap.size := fun j hj x hx => by
    obtain ⟨o, h, _⟩ := P.real j _ u x (hB.part j hj) hx
    exact lt h
  have hOlt : ∀ x, old.ob x ≠ none → x < u.heap.size := fun x hx => by
    obtain ⟨o, ho⟩ := Option.ne_none_iff_exists'.1 hx
    exact lt (hB.stat x o ho)
  have a1 : set1 b k pb k = pb := set1_at
  have a2 : set1 γ k pg k = pg := set1_at
  have e1 : ∀ j, j ≠ k → (set1 b k pb) j = b j := fun j h => set1_ne h
  have e2 : ∀ j, j ≠ k → (set1 γ k pg) j = γ j := fun j h => set1_ne h
  have hfoots : ∀ x, P.foots m old (set1 b k pb, set1 γ k pg) x → P.foots m old (b, γ) x ∨ u.heap.size ≤ x := by
    rintro x (h | ⟨j, hj, h⟩)
    · exact .inl (.inl h)
    · by_cases e : j = k
      · subst e
        have h : P.foot j (set1 b j pb j, set1 γ j pg j) x := h
        rw [a1, a2] at h
        exact (hg x h).imp (fun h => .inr ⟨j, hj, h⟩) id
      · have h : P.foot j (set1 b k pb j, set1 γ k pg j) x := h
        rw [e1 j e, e2 j e] at h
        exact .inl (.inr ⟨j, hj, h⟩)
  refine ⟨J.frame a u u' (fun x hx => hs.block x (hAlt x hx) fun h => hd x hx (.inr ⟨k, hk, h⟩)) hA, ⟨fun y o hb => ?_, fun j hj => ?_, fun j x hj hx => ?_, fun i j x hi hj hne hx hy => ?_⟩, fun x hx h => ?_, hs.mono fun x h => .inr (.inr ⟨k, hk, h⟩), fun x hx => ?_, fun j hj => e2 j hj⟩
  · rw [hs.block y (lt (hB.stat y o hb)) fun h => by rw [hB.off k y hk h] at hb; cases hb]
    exact hB.stat y o hb
  · by_cases e : j = k
    · subst e
      show P.Rep j (set1 b j pb j, set1 γ j pg j) u'
      rw [a1, a2]
      exact hr
    · show P.Rep j (set1 b k pb j, set1 γ k pg j) u'
      rw [e1 j e, e2 j e]
      exact P.frame j _ u u' (fun x hx => hs.block x (hPlt j hj x hx) fun h => hB.dis j k x hj hk e hx h) (hB.part j hj)
  · by_cases e : j = k
    · subst e
      have hx : P.foot j (set1 b j pb j, set1 γ j pg j) x := hx
      rw [a1, a2] at hx
      rcases hg x hx with h | h
      · exact hB.off j x hj h
      · by_cases ho : old.ob x = none
        · exact ho
        · have := hOlt x ho; omega
    · have hx : P.foot j (set1 b k pb j, set1 γ k pg j) x := hx
      rw [e1 j e, e2 j e] at hx
      exact hB.off j x hj hx
  · have key : ∀ j, j < m → j ≠ k → P.foot j (b j, γ j) x → ¬ P.foot k (pb, pg) x := fun j hj e h1 h2 => by
      rcases hg x h2 with h | h
      · exact hB.dis j k x hj hk e h1 h
      · have := hPlt j hj x h1; omega
    replace hx : P.foot i (set1 b k pb i, set1 γ k pg i) x := hx
    replace hy : P.foot j (set1 b k pb j, set1 γ k pg j) x := hy
    by_cases ei : i = k
    · subst ei
      rw [a1, a2] at hx
      have ej : j ≠ i := fun e => hne e.symm
      rw [e1 j ej, e2 j ej] at hy
      exact key j hj ej hy hx
    · rw [e1 i ei, e2 i ei] at hx
      by_cases ej : j = k
      · subst ej
        rw [a1, a2] at hy
        exact key i hi ei hx hy
      · rw [e1 j ej, e2 j ej] at hy
        exact hB.dis i j x hi hj hne hx hy
  · rcases hfoots x h with h' | h'
    · exact hd x hx h'
    · have := hAlt x hx; omega
  · rcases hx with hx | hx
    · exact .inl (.inl hx)
    · exact (hfoots x hx).imp .inr id
variable {Wg : Nat} {s : SV} {n : TIx (P.client base m old)} {F : (J.St × (P.client base m old).B) × Option (J.Pos × (P.client base m old).C)} {w : World}
/-- A piece that touches the thread's own part alone. -/
theorem aloneP {c : Code} {t : Array Value} {Q : TIx (P.client base m old) → Exit → Array Value → World → Prop} (hk : k < m) (h : TK (P.client base m old) Wg s k n a (b, γ) F w) (hc : okCode thrOk false c = true)
    (hwp : ∀ u, old.In u → P.Rep k (b k, γ k) u → c.wp Try.prog (onlyN fun a₁ u' => a₁.defers = [] ∧ ∃ pb pg, P.Rep k (pb, pg) u' ∧ Sm (P.foot k (b k, γ k)) u u' ∧ (∀ x, P.foot k (pb, pg) x → P.foot k (b k, γ k) x ∨ u.heap.size ≤ x) ∧
      ∀ w', TK (P.client base m old) Wg s k n a (set1 b k pb, set1 γ k pg) F w' → Q n .normal a₁.tmps w') ⟨t, []⟩ u) : cps (envT (P.client base m old).core.spec Wg (WgL Wg) s) c Q n t w :=
  aloneTK h hc fun u h1 h2 h3 => wp_mono (hwp u h2.stat (h2.part k hk)) fun e a₁ u' q => by
    cases e with
    | normal =>
      obtain ⟨q1, pb, pg, q2, q3, q4, q5⟩ := q
      exact ⟨q1, a, _, part_mv hk h1 h2 h3 q3 q2 q4, q5⟩
    | _ => exact q.elim
/-- .. told by what its frame and its part are behind it. -/
theorem aloneY {c : Code} {t : Array Value} {Q : TIx (P.client base m old) → Exit → Array Value → World → Prop} (Okay : Array Value → P.PB → P.Pg → Prop) (hk : k < m) (h : TK (P.client base m old) Wg s k n a (b, γ) F w) (hc : okCode thrOk false c = true)
    (hwp : ∀ (u : World) (K : Array Value → World → Prop), old.In u → P.Rep k (b k, γ k) u → (∀ t' u' pb pg, P.Rep k (pb, pg) u' → Sm (P.foot k (b k, γ k)) u u' → (∀ x, P.foot k (pb, pg) x → P.foot k (b k, γ k) x ∨ u.heap.size ≤ x) → Okay t' pb pg → K t' u') →
      c.wp Try.prog (onlyN fun a₁ u' => a₁.defers = [] ∧ K a₁.tmps u') ⟨t, []⟩ u)
    (hq : ∀ t' pb pg w', Okay t' pb pg → TK (P.client base m old) Wg s k n a (set1 b k pb, set1 γ k pg) F w' → Q n .normal t' w') : cps (envT (P.client base m old).core.spec Wg (WgL Wg) s) c Q n t w :=
  aloneP hk h hc fun u h1 h2 => wp_mono (hwp u (fun t' u' => ∃ pb pg, P.Rep k (pb, pg) u' ∧ Sm (P.foot k (b k, γ k)) u u' ∧ (∀ x, P.foot k (pb, pg) x → P.foot k (b k, γ k) x ∨ u.heap.size ≤ x) ∧ Okay t' pb pg) h1 h2 (fun t' u' pb pg q1 q2 q3 q4 => ⟨pb, pg, q1, q2, q3, q4⟩)) fun e a₁ u' q => by
    cases e with
    | normal =>
      obtain ⟨q1, pb, pg, q2, q3, q4, q5⟩ := q
      exact ⟨q1, pb, pg, q2, q3, q4, fun w' h' => hq _ _ _ _ q5 h'⟩
    | _ => exact q.elim
/-- A frame as a function. -/
def asFun (t : Array Value) (j : Nat) : Value := t.getD j undef
theorem ex_fun {t : Array Value} {φ : (Nat → Value) → Array Value} (h : t = φ (asFun t)) : ∃ f, t = φ f := ⟨_, h⟩
theorem cps_as {E : Env} {c : Code} {Q : E.ι → Exit → Array Value → World → Prop} {n : E.ι} {t : Array Value} {w : World} (h : ∀ t', t' = t → cps E c Q n t' w) : cps E c Q n t w := h t rfl
/-- A read of what stands. -/
theorem readO {ops : Array Oper} {i : Nat} {o : Oper} {l : List Nat} {t : Array Value} {Qr : TIx (P.client base m old) → Array Value → World → Prop} (h : TK (P.client base m old) Wg s k n a (b, γ) F w) (v : Value) (ho : ops[i]? = some o) (hok : thrOk o.op = true) (hw : Region.wanted o (yielded ops t) = true)
    (hrun : ∀ u, old.In u → (execOp (⟨t, []⟩ : Act).eval o).run Try.prog u = .ok (.value v) u)
    (hq : ∀ w', TK (P.client base m old) Wg s k n a (b, γ) F w' → cpsR (envT (P.client base m old).core.spec Wg (WgL Wg) s) ops l Qr n ((⟨t, []⟩ : Act).put o.dst v).tmps w') : cpsR (envT (P.client base m old).core.spec Wg (WgL Wg) s) ops (i :: l) Qr n t w :=
  readTK h v ho hok hw (fun u _ h2 => hrun u h2.stat) hq
end
end Go.Proofs.Ytmcffabfghhpaaa
