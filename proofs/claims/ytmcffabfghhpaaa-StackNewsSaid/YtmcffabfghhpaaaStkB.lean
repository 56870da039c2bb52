/- take and give, walked alone, whatever the gate. -/
import Derived.Test.YtmcffabfghhpaaaStkA
import Derived.BigQuiet
import Derived.Deep.QuietTactic
import Derived.Deep.RegionWith
import Derived.Outline
namespace Go.Proofs.Ytmcffabfghhpaaa
open Go.RowKit
set_option linter.unusedVariables false

/-- What is asked of a gate: what it is told it keeps; it leaves the stack's two blocks alone, and all below B. -/
structure GateOk (g : Value) (B S N : Nat) (G : World → List (Int × Int) → Prop) : Prop where
  step : ∀ (w : World) (L : List (Int × Int)) (op wd : Int), L.length < 1000000 → G w L → Calls Try.prog 45 #[g, .int .u8 op, .int .i64 wd] w fun e w' =>
    e = .returned (.tuple #[]) ∧ G w' (L ++ [(op, wd)]) ∧ Below B w w' ∧ w'.heap[S]? = w.heap[S]? ∧ w'.heap[N]? = w.heap[N]?
  keep : ∀ (w w' : World) (L : List (Int × Int)), G w L → Sm (fun k => k = S ∨ k = N) w w' → G w' L

def uw (m : List Nat) : Array Value := (m.map fun (x : Nat) => Value.int .u64 (x : Int)).toArray
def hdr (t0 t1 N n : Nat) : Array Value := #[.int .u64 t0, .int .u64 t1, .slice (some ⟨N, 0, none⟩) n n]

theorem uw_get (m : List Nat) (i : Nat) (h : i < m.length) : (uw m)[i]? = some (.int .u64 (m[i] : Nat)) := by
  simp [uw, h]
theorem uw_set (m : List Nat) (i v : Nat) : (uw m).setIfInBounds i (.int .u64 (v : Int)) = uw (m.set i v) := by
  simp [uw, List.map_set]

set_option maxHeartbeats 400000 in
theorem take_none {g : Value} {B S N : Nat} {G : World → List (Int × Int) → Prop} (hG : GateOk g B S N G) (n t : Nat) (top : Nat) (htop : top < 2) (c : Array Value) (hc : c[top]? = some (.int .u64 (t : Int))) (ht : t < 18446744073709551616)
    (h0 : t % 4294967296 = 0) (w : World) (L : List (Int × Int)) (hL : L.length + 20 ≤ 1000000) (hg : G w L) (hr : Row w S c 107) :
    Calls Try.prog 44 #[.pointer (some ⟨S, 0, none⟩), g, .int .i64 top] w fun e w' =>
      e = .returned (.tuple #[.int .u64 0, .bool false]) ∧ G w' (L ++ [(1, (top : Int))]) ∧ Below B w w' ∧ w'.heap[S]? = w.heap[S]? ∧ w'.heap[N]? = w.heap[N]? := by
  go_enter Try.func44, Try.ntmps44
  go_wp2
  go_step3
  go_wp2
  go_step3
  go_wp2
  refine wp_loop_rounds 1 ?_
  rw [rounds_succ]
  have HC := Lib.hid hc
  clear hc
  go_wp2_with (go_at_call 45; refine (hG.step _ _ _ _ (by (try simp only [List.length_append, List.length_cons, List.length_nil]); omega) hg).mono ?_; rintro e w1 ⟨rfl, hg1, hb1, hS1, hN1⟩; have hc1 : w1.cell? ⟨S, top, none⟩ = some (.int .u64 (t : Int)) := ((Row.of_heap hr hS1).cell top).trans HC.out; have HS := Lib.hid hS1; have HN := Lib.hid hN1; clear hS1 hN1)
  refine (aload _ _ _ hc1).mono ?_
  rintro e w1 ⟨rfl, rfl⟩
  have ha := and_low t ht
  rw [h0] at ha
  go_wp2
  rw [Exit.noGoto_ret]
  go_ret2
  exact ⟨rfl, hg1, hb1, HS.out, HN.out⟩

set_option maxHeartbeats 400000 in
theorem take_some {g : Value} {B S N : Nat} {G : World → List (Int × Int) → Prop} (hG : GateOk g B S N G) (hSN : S ≠ N) (hBS : B ≤ S) (n t i x : Nat) (top : Nat) (htop : top < 2) (c : Array Value) (hc : c[top]? = some (.int .u64 (t : Int)))
    (hs : c[2]? = some (.slice (some ⟨N, 0, none⟩) n n)) (hn : n ≤ 1024) (ht : t < 18446744073709551616) (hi : t % 4294967296 = i + 1) (hin : i < n) (d : Array Value) (hd : d[2 * i]? = some (.int .u64 (x : Int))) (hx : x < 4294967296)
    (w : World) (L : List (Int × Int)) (hL : L.length + 20 ≤ 1000000) (hg : G w L) (hr : Row w S c 107) (hrn : Row w N d 113) :
    Calls Try.prog 44 #[.pointer (some ⟨S, 0, none⟩), g, .int .i64 top] w fun e w' =>
      e = .returned (.tuple #[.int .u64 i, .bool true]) ∧ G w' (L ++ [(1, (top : Int)), (1, 2 + 2 * (i : Int)), (5, (top : Int))]) ∧ Below B w w' ∧ Row w' S (c.setIfInBounds top (.int .u64 (fol t x : Nat))) 107 ∧ Row w' N d 113 := by
  go_enter Try.func44, Try.ntmps44
  go_wp2
  go_step3
  go_wp2
  go_step3
  go_wp2
  refine wp_loop_rounds 1 ?_
  rw [rounds_succ]
  have HC := Lib.hid hc
  have HD := Lib.hid hd
  have HX := Lib.hid hs
  have HI := Lib.hid hi
  clear hc hd hs hi
  go_wp2_with fail
  refine (hG.step _ _ _ _ (by (try simp only [List.length_append, List.length_cons, List.length_nil]); omega) hg).mono ?_
  rintro e w1 ⟨rfl, hg1, hb1, hS1, hN1⟩
  have hr1 := Row.of_heap hr hS1
  have hn1 := Row.of_heap hrn hN1
  clear hS1 hN1
  have hc1 : w1.cell? ⟨S, top, none⟩ = some (.int .u64 (t : Int)) := (hr1.cell top).trans HC.out
  go_wp2_with fail
  refine (aload _ _ _ hc1).mono ?_
  rintro e w1 ⟨rfl, rfl⟩
  have ha : bits .and .u64 (t : Int) 4294967295 = (i : Int) + 1 := by
    have := and_low t ht
    rw [HI.out] at this
    simpa using this
  go_wp2_with fail
  refine (nextWord_c i (by omega) _).mono ?_
  rintro e w1 ⟨rfl, rfl⟩
  go_wp2_with fail
  refine (hG.step _ _ _ _ (by (try simp only [List.length_append, List.length_cons, List.length_nil]); omega) hg1).mono ?_
  rintro e w2 ⟨rfl, hg2, hb2, hS2, hN2⟩
  have hr2 := Row.of_heap hr1 hS2
  have hn2 := Row.of_heap hn1 hN2
  clear hS2 hN2
  have hx2 : w2.cell? ⟨S, 2, none⟩ = some (.slice (some ⟨N, 0, none⟩) n n) := (hr2.cell 2).trans HX.out
  have hd2 : w2.cell? ⟨N, i * 2, none⟩ = some (.int .u64 (x : Int)) := by
    rw [Nat.mul_comm]
    exact (hn2.cell (2 * i)).trans HD.out
  go_wp2_with fail
  refine (aload _ _ _ hd2).mono ?_
  rintro e w2 ⟨rfl, rfl⟩
  go_wp2_with fail
  refine (hG.step _ _ _ _ (by (try simp only [List.length_append, List.length_cons, List.length_nil]); omega) hg2).mono ?_
  rintro e w3 ⟨rfl, hg3, hb3, hS3, hN3⟩
  have hr3 := Row.of_heap hr2 hS3
  have hn3 := Row.of_heap hn2 hN3
  clear hS3 hN3
  go_wp2_with fail
  have hc3 : w3.cell? ⟨S, top, none⟩ = some (.int .u64 (t : Int)) := (hr3.cell top).trans HC.out
  have hf3 : w3.frozen? ⟨S, top, none⟩ = false := hr3.free top
  go_region_with (first | (go_at_call 69; refine (follower_c t x ht hx _).mono ?_; rintro e w' ⟨rfl, rfl⟩) | (go_at_call 68; refine (acas_hit _ _ _ w3.drew hc3 hf3).mono ?_; rintro e w' ⟨rfl, rfl⟩))
  all_goals
    go_wp2
    rw [Exit.noGoto_ret]
    go_ret2
    refine ⟨rfl, ?_, ?_, ?_, ?_⟩
    · have e : L ++ [(1, (top : Int)), (1, 2 + 2 * (i : Int)), (5, (top : Int))] = L ++ [(1, (top : Int))] ++ [(1, 2 + 2 * (i : Int))] ++ [(5, (top : Int))] := by simp
      rw [e]
      exact hG.keep _ _ _ hg3 ((Sm.refl _ w3).drew.setCell (.inl rfl) _)
    · exact ((hb1.trans hb2).trans hb3).drew.setCell hBS _
    · exact hr3.drew.set top _
    · exact hn3.drew.set_ne hSN _
end Go.Proofs.Ytmcffabfghhpaaa
