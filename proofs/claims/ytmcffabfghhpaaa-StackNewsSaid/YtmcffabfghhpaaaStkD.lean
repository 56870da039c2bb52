/- Push and Pop, walked alone, whatever the gate. -/
import Derived.Test.YtmcffabfghhpaaaStkC
namespace Go.Proofs.Ytmcffabfghhpaaa
open Go.RowKit
set_option linter.unusedVariables false

/-- A stack in memory: its two tops, its nodes' words. -/
structure Stk (S N n t0 t1 : Nat) (m : List Nat) (w : World) : Prop where
  rS : Row w S (hdr t0 t1 N n) 107
  rN : Row w N (uw m) 113
  ne : S ≠ N
  len : m.length = 2 * n
  pos : 0 < n
  le : n ≤ 1024
  l0 : t0 < 18446744073709551616
  l1 : t1 < 18446744073709551616
  nx : ∀ i (h : 2 * i < m.length), m[2 * i] < 4294967296

theorem hdr_set0 (t0 t1 N n v : Nat) : (hdr t0 t1 N n).setIfInBounds 0 (.int .u64 (v : Int)) = hdr v t1 N n := rfl
theorem hdr_set1 (t0 t1 N n v : Nat) : (hdr t0 t1 N n).setIfInBounds 1 (.int .u64 (v : Int)) = hdr t0 v N n := rfl

theorem push_full {g : Value} {B S N : Nat} {G : World → List (Int × Int) → Prop} (hG : GateOk g B S N G) (n t0 t1 : Nat) (m : List Nat) (v : Int) (w : World) (L : List (Int × Int)) (hL : L.length + 40 ≤ 1000000) (hg : G w L) (hs : Stk S N n t0 t1 m w)
    (h0 : t1 % 4294967296 = 0) :
    Calls Try.prog 13 #[.pointer (some ⟨S, 0, none⟩), g, .int .u64 v] w fun e w' =>
      e = .returned (.tuple #[.bool false, .int .i64 0]) ∧ G w' (L ++ [(1, 1)]) ∧ Below B w w' ∧ Stk S N n t0 t1 m w' := by
  have h1 := none_c S (hdr t0 t1 N n) N n rfl hs.pos w hs.rS
  have h2 := take_none hG n t1 1 (by decide) (hdr t0 t1 N n) rfl hs.l1 h0 w L (by omega) hg hs.rS
  have H1 := Lib.hid h1
  have H2 := Lib.hid h2
  clear h1 h2 h0
  go_enter Try.func13, Try.ntmps13
  go_wp2_with fail
  refine H1.out.mono ?_
  rintro e w' ⟨rfl, rfl⟩
  go_wp2_with fail
  refine H2.out.mono ?_
  rintro e w1 ⟨rfl, hg1, hb1, hS1, hN1⟩
  have hs1 : Stk S N n t0 t1 m w1 := { hs with rS := Row.of_heap hs.rS hS1, rN := Row.of_heap hs.rN hN1 }
  clear hS1 hN1
  go_wp2
  go_ret2
  exact ⟨rfl, hg1, hb1, hs1⟩

theorem uw_get' (m : List Nat) (i : Nat) (h : i < m.length) (x : Nat) (hx : m[i] = x) : (uw m)[i]? = some (.int .u64 (x : Int)) := by rw [uw_get m i h, hx]

set_option maxHeartbeats 400000 in
theorem push_ok {g : Value} {B S N : Nat} {G : World → List (Int × Int) → Prop} (hG : GateOk g B S N G) (hBS : B ≤ S) (hBN : B ≤ N) (n t0 t1 i x lo : Nat) (m : List Nat) (v : Nat) (hv : v < 18446744073709551616) (w : World) (L : List (Int × Int)) (hL : L.length + 40 ≤ 1000000) (hg : G w L) (hs : Stk S N n t0 t1 m w)
    (hi : t1 % 4294967296 = i + 1) (hin : i < n) (hx : ∀ h, m[2 * i]'h = x) (hlo : t0 % 4294967296 = lo) :
    Calls Try.prog 13 #[.pointer (some ⟨S, 0, none⟩), g, .int .u64 v] w fun e w' =>
      e = .returned (.tuple #[.bool true, .int .i64 0]) ∧ G w' (L ++ [(1, 1), (1, 2 + 2 * (i : Int)), (5, 1), (2, 3 + 2 * (i : Int)), (1, 0), (2, 2 + 2 * (i : Int)), (5, 0)]) ∧ Below B w w' ∧
      Stk S N n (fol t0 (i + 1)) (fol t1 x) ((m.set (2 * i + 1) v).set (2 * i) lo) w' := by
  have hl := hs.len
  have hx' : x < 4294967296 := by rw [← hx (by omega)]; exact hs.nx i (by omega)
  have hle := hs.le
  have hl0 := hs.l0
  have hne := hs.ne
  have H1 := Lib.hid (none_c S (hdr t0 t1 N n) N n rfl hs.pos w hs.rS)
  have H2 := Lib.hid (take_some hG hs.ne hBS n t1 i x 1 (by decide) (hdr t0 t1 N n) rfl rfl hs.le hs.l1 hi hin (uw m) (uw_get' m (2 * i) (by omega) x (hx _)) hx' w L (by omega) hg hs.rS hs.rN)
  have HX := Lib.hid hx
  have HI := Lib.hid hi
  have HLO := Lib.hid hlo
  clear hx hi hlo
  go_enter Try.func13, Try.ntmps13
  go_wp2_with fail
  refine H1.out.mono ?_
  rintro e w' ⟨rfl, rfl⟩
  go_wp2_with fail
  refine H2.out.mono ?_
  rintro e w1 ⟨rfl, hg1, hb1, hS1, hN1⟩
  rw [hdr_set1] at hS1
  go_wp2_with fail
  refine (valueWord_c i (by omega) _).mono ?_
  rintro e w1 ⟨rfl, rfl⟩
  go_wp2_with fail
  refine (hG.step _ _ _ _ (by (try simp only [List.length_append, List.length_cons, List.length_nil]); omega) hg1).mono ?_
  rintro e w2 ⟨rfl, hg2, hb2, hS2, hN2⟩
  have hr2 := Row.of_heap hS1 hS2
  have hn2 := Row.of_heap hN1 hN2
  clear hS1 hN1 hS2 hN2
  have hx2 : w2.cell? ⟨S, 2, none⟩ = some (.slice (some ⟨N, 0, none⟩) n n) := hr2.cell 2
  have hd2 : ∃ u, w2.cell? ⟨N, i * 2 + 1, none⟩ = some u := by
    rw [Nat.mul_comm]
    exact ⟨_, (hn2.cell (2 * i + 1)).trans (uw_get m (2 * i + 1) (by omega))⟩
  obtain ⟨u, hd2⟩ := hd2
  have hf2 : w2.frozen? ⟨N, i * 2 + 1, none⟩ = false := hn2.free _
  go_wp2_with fail
  refine (astore _ _ _ _ hd2 hf2).mono ?_
  rintro e wx ⟨rfl, rfl⟩
  obtain ⟨w3, hw3⟩ : ∃ w3 : World, w3 = w2.setCell ⟨N, i * 2 + 1, none⟩ (.int .u64 (v : Int)) := ⟨_, rfl⟩
  rw [← hw3]
  have hr3 : Row w3 S (hdr t0 (fol t1 x) N n) 107 := by rw [hw3]; exact hr2.set_ne (fun e => hne e.symm) _
  have hn3 : Row w3 N (uw (m.set (2 * i + 1) v)) 113 := by
    rw [hw3, Nat.mul_comm, ← uw_set]
    exact hn2.set _ _
  have hg3 := hG.keep _ w3 _ hg2 (by rw [hw3]; exact (Sm.refl _ w2).setCell (.inr rfl) _)
  have hb3 : Below B w2 w3 := by rw [hw3]; exact (Below.refl _ _).setCell hBN _
  clear hw3 hd2 hf2 hx2
  have H4 := Lib.hid (give_c hG hne hBS hBN n t0 i lo HLO.out _ 0 (by decide) (hdr t0 (fol t1 x) N n) rfl rfl hle hl0 hin (uw (m.set (2 * i + 1) v)) (uw_get _ (2 * i) (by simp; omega)) w3 _ (by (try simp only [List.length_append, List.length_cons, List.length_nil]); omega) hg3 hr3 hn3)
  go_wp2_with fail
  refine H4.out.mono ?_
  rintro e w4 ⟨rfl, hg4, hb4, hS4, hN4⟩
  rw [hdr_set0] at hS4
  rw [uw_set] at hN4
  go_wp2
  go_ret2
  refine ⟨rfl, ?_, ((hb1.trans hb2).trans hb3).trans hb4, hS4, hN4, hne, by simp [hl], hs.pos, hle, fol_lt _ _ (by omega), fol_lt _ _ hx', ?_⟩
  · simpa using hg4
  · intro j hj
    have hlo : lo < 4294967296 := by rw [← HLO.out]; exact Nat.mod_lt _ (by decide)
    have hj' : 2 * j < m.length := by simpa using hj
    rw [List.getElem_set]
    split
    · exact hlo
    · rw [List.getElem_set, if_neg (by omega)]
      exact hs.nx j hj'
theorem pop_empty {g : Value} {B S N : Nat} {G : World → List (Int × Int) → Prop} (hG : GateOk g B S N G) (n t0 t1 : Nat) (m : List Nat) (w : World) (L : List (Int × Int)) (hL : L.length + 40 ≤ 1000000) (hg : G w L) (hs : Stk S N n t0 t1 m w)
    (h0 : t0 % 4294967296 = 0) :
    Calls Try.prog 14 #[.pointer (some ⟨S, 0, none⟩), g] w fun e w' =>
      e = .returned (.tuple #[.int .u64 0, .bool false, .int .i64 0]) ∧ G w' (L ++ [(1, 0)]) ∧ Below B w w' ∧ Stk S N n t0 t1 m w' := by
  have h1 := none_c S (hdr t0 t1 N n) N n rfl hs.pos w hs.rS
  have h2 := take_none hG n t0 0 (by decide) (hdr t0 t1 N n) rfl hs.l0 h0 w L (by omega) hg hs.rS
  have H1 := Lib.hid h1
  have H2 := Lib.hid h2
  clear h1 h2 h0
  go_enter Try.func14, Try.ntmps14
  go_wp2_with fail
  refine H1.out.mono ?_
  rintro e w' ⟨rfl, rfl⟩
  go_wp2_with fail
  refine H2.out.mono ?_
  rintro e w1 ⟨rfl, hg1, hb1, hS1, hN1⟩
  have hs1 : Stk S N n t0 t1 m w1 := { hs with rS := Row.of_heap hs.rS hS1, rN := Row.of_heap hs.rN hN1 }
  clear hS1 hN1
  go_wp2
  go_ret3
  exact ⟨rfl, hg1, hb1, hs1⟩

set_option maxHeartbeats 400000 in
theorem pop_ok {g : Value} {B S N : Nat} {G : World → List (Int × Int) → Prop} (hG : GateOk g B S N G) (hBS : B ≤ S) (hBN : B ≤ N) (n t0 t1 i x lo v : Nat) (m : List Nat) (w : World) (L : List (Int × Int)) (hL : L.length + 40 ≤ 1000000) (hg : G w L) (hs : Stk S N n t0 t1 m w)
    (hi : t0 % 4294967296 = i + 1) (hin : i < n) (hx : ∀ h, m[2 * i]'h = x) (hv : ∀ h, m[2 * i + 1]'h = v) (hlo : t1 % 4294967296 = lo) :
    Calls Try.prog 14 #[.pointer (some ⟨S, 0, none⟩), g] w fun e w' =>
      e = .returned (.tuple #[.int .u64 v, .bool true, .int .i64 0]) ∧ G w' (L ++ [(1, 0), (1, 2 + 2 * (i : Int)), (5, 0), (1, 3 + 2 * (i : Int)), (1, 1), (2, 2 + 2 * (i : Int)), (5, 1)]) ∧ Below B w w' ∧
      Stk S N n (fol t0 x) (fol t1 (i + 1)) (m.set (2 * i) lo) w' := by
  have hl := hs.len
  have hx' : x < 4294967296 := by rw [← hx (by omega)]; exact hs.nx i (by omega)
  have hle := hs.le
  have hl1 := hs.l1
  have hne := hs.ne
  have H1 := Lib.hid (none_c S (hdr t0 t1 N n) N n rfl hs.pos w hs.rS)
  have H2 := Lib.hid (take_some hG hs.ne hBS n t0 i x 0 (by decide) (hdr t0 t1 N n) rfl rfl hs.le hs.l0 hi hin (uw m) (uw_get' m (2 * i) (by omega) x (hx _)) hx' w L (by omega) hg hs.rS hs.rN)
  have HX := Lib.hid hx
  have HV := Lib.hid hv
  have HI := Lib.hid hi
  have HLO := Lib.hid hlo
  clear hx hi hlo hv
  go_enter Try.func14, Try.ntmps14
  go_wp2_with fail
  refine H1.out.mono ?_
  rintro e w' ⟨rfl, rfl⟩
  go_wp2_with fail
  refine H2.out.mono ?_
  rintro e w1 ⟨rfl, hg1, hb1, hS1, hN1⟩
  rw [hdr_set0] at hS1
  go_wp2_with fail
  refine (valueWord_c i (by omega) _).mono ?_
  rintro e w1 ⟨rfl, rfl⟩
  go_wp2_with fail
  refine (hG.step _ _ _ _ (by (try simp only [List.length_append, List.length_cons, List.length_nil]); omega) hg1).mono ?_
  rintro e w2 ⟨rfl, hg2, hb2, hS2, hN2⟩
  have hr2 := Row.of_heap hS1 hS2
  have hn2 := Row.of_heap hN1 hN2
  clear hS1 hN1 hS2 hN2
  have hx2 : w2.cell? ⟨S, 2, none⟩ = some (.slice (some ⟨N, 0, none⟩) n n) := hr2.cell 2
  have hd2 : w2.cell? ⟨N, i * 2 + 1, none⟩ = some (.int .u64 (v : Int)) := by
    rw [Nat.mul_comm]
    exact (hn2.cell (2 * i + 1)).trans (uw_get' m (2 * i + 1) (by omega) v (HV.out _))
  go_wp2_with fail
  refine (aload _ _ _ hd2).mono ?_
  rintro e w2 ⟨rfl, rfl⟩
  clear hx2 hd2
  have H4 := Lib.hid (give_c hG hne hBS hBN n t1 i lo HLO.out _ 1 (by decide) (hdr (fol t0 x) t1 N n) rfl rfl hle hl1 hin (uw m) (uw_get _ (2 * i) (by omega)) w2 _ (by (try simp only [List.length_append, List.length_cons, List.length_nil]); omega) hg2 hr2 hn2)
  go_wp2_with fail
  refine H4.out.mono ?_
  rintro e w4 ⟨rfl, hg4, hb4, hS4, hN4⟩
  rw [hdr_set1] at hS4
  rw [uw_set] at hN4
  go_wp2
  go_ret3
  refine ⟨rfl, ?_, (hb1.trans hb2).trans hb4, hS4, hN4, hne, by simp [hl], hs.pos, hle, fol_lt _ _ hx', fol_lt _ _ (by omega), ?_⟩
  · simpa using hg4
  · intro j hj
    have hlo : lo < 4294967296 := by rw [← HLO.out]; exact Nat.mod_lt _ (by decide)
    have hj' : 2 * j < m.length := by simpa using hj
    rw [List.getElem_set]
    split
    · exact hlo
    · exact hs.nx j hj'
end Go.Proofs.Ytmcffabfghhpaaa
