/- Package tally, walked alone: NewHist, Hist.Add, Hist.Get. -/
import Derived.Test.YtdedmmjmiakidaaTalC
import Derived.Laws.CopyOwn
import Derived.Laws.Rows
import Derived.Deep.WholeRow
namespace Go.Proofs.Ytdedmmjmiakidaa
open Go.RowKit
set_option linter.unusedVariables false

/-- A histogram's block: made, and its 67 words. -/
def hst (m : List Nat) : Array Value := #[.bool true] ++ uw m
theorem hst_get (m : List Nat) (i : Nat) (h : i < m.length) : (hst m)[1 + i]? = some (.int .u64 (m[i] : Nat)) := by
  have := uw_get m i h
  rw [hst, Array.getElem?_append_right (by simp)]
  simpa using this
theorem hst_made (m : List Nat) : (hst m)[0]? = some (.bool true) := by
  rw [hst, Array.getElem?_append_left (by simp)]
  rfl
theorem hst_set (m : List Nat) (i v : Nat) : (hst m).setIfInBounds (1 + i) (.int .u64 (v : Int)) = hst (m.set i v) := by
  simp [hst, ← uw_set]

structure His (H : Nat) (m : List Nat) (w : World) : Prop where
  r : Row w H (hst m) 58
  len : m.length = 67

theorem His.sm {F : Nat → Prop} {H : Nat} {m : List Nat} {w w' : World} (h : His H m w) (k : Sm F w w') (hf : ¬ F H) : His H m w' := ⟨h.r.sm k hf, h.len⟩
theorem His.of_heap {H : Nat} {m : List Nat} {w w' : World} (h : His H m w) (e : w'.heap[H]? = w.heap[H]?) : His H m w' := ⟨h.r.of_heap e, h.len⟩
theorem His.setw {H : Nat} {m : List Nat} {w : World} (h : His H m w) (i v : Nat) : His H (m.set i v) (w.setCell ⟨H, 1 + i, none⟩ (.int .u64 (v : Int))) :=
  ⟨by rw [← hst_set]; exact h.r.set _ _, by simpa using h.len⟩
theorem His.at {H : Nat} {m : List Nat} {w : World} (h : His H m w) (i : Nat) (hi : i < m.length) : w.cell? ⟨H, 1 + i, none⟩ = some (.int .u64 (m[i] : Nat)) := (h.r.cell _).trans (hst_get m i hi)

theorem zero_hist : Try.zeroCells58.setIfInBounds 0 (.bool true) = hst (List.replicate 67 0) := by kernel_rfl

theorem newHist_c (w : World) : Calls Try.prog 16 #[] w fun e w' =>
    e = .returned (.pointer (some ⟨w.heap.size, 0, none⟩)) ∧ Sm (fun _ => False) w w' ∧ His w.heap.size (List.replicate 67 0) w' := by
  go_enter Try.func16, Try.ntmps16
  go_wp2
  go_ret
  refine ⟨rfl, (Sm.refl _ _).alloc _, ?_, by simp⟩
  rw [← zero_hist]
  exact Row.new w _ _

theorem bitLen_zero : Lib.bitLen 0 = 0 := by decide
theorem bitLen_le : ∀ (j v : Nat), v < 2 ^ j → j ≤ 64 → Lib.bitLen v ≤ j
  | 0, v, h, _ => by
    have : v = 0 := by simpa using h
    subst this
    simp [bitLen_zero]
  | j + 1, v, h, hj => by
    by_cases h0 : v = 0
    · subst h0; simp [bitLen_zero]
    · have hv : v < 2 ^ 64 := Nat.lt_of_lt_of_le h (Nat.pow_le_pow_right (by decide) hj)
      rw [Lib.bitLen_half v h0 hv]
      have := bitLen_le j (v / 2) (by rw [Nat.pow_succ] at h; omega) (by omega)
      omega

/-- What a number that comes makes of the 67 words. -/
def come (m : List Nat) (v : Nat) : List Nat :=
  let k := Lib.bitLen v
  let m1 := m.set k ((m.getD k 0 + 1) % 18446744073709551616)
  let m2 := m1.set 65 ((m.getD 65 0 + v) % 18446744073709551616)
  if v ≤ m.getD 66 0 then m2 else m2.set 66 v
theorem come_len (m : List Nat) (v : Nat) : (come m v).length = m.length := by
  unfold come; split <;> simp

set_option maxRecDepth 100000 in
set_option maxHeartbeats 800000 in
theorem hadd_c {g : Value} {B H : Nat} {G : World → List (Int × Int) → Prop} (hG : GateOk g B (fun k => k = H) G) (hBH : B ≤ H) (m : List Nat) (v : Nat) (hv : v < 18446744073709551616) (w : World) (L : List (Int × Int)) (hL : L.length + 20 ≤ 1000000) (hg : G w L) (h : His H m w) :
    Calls Try.prog 17 #[.pointer (some ⟨H, 0, none⟩), g, .int .u64 v] w fun e w' =>
      e = .returned (.int .i64 0) ∧ G w' (L ++ ([(3, (Lib.bitLen v : Int)), (3, 65), (1, 66)] ++ (if v ≤ m.getD 66 0 then [] else [(5, 66)]))) ∧ Below B w w' ∧ His H (come m v) w' := by
  obtain ⟨k, hk⟩ : ∃ k, k = Lib.bitLen v := ⟨_, rfl⟩
  have hk64 : k ≤ 64 := by rw [hk]; exact bitLen_le 64 v hv (by decide)
  have hlen := h.len
  have hm : w.cell? ⟨H, 0, none⟩ = some (.bool true) := (h.r.cell 0).trans (hst_made m)
  obtain ⟨x0, hx0⟩ : ∃ x, x = m.getD k 0 := ⟨_, rfl⟩
  obtain ⟨x5, hx5⟩ : ∃ x, x = m.getD 65 0 := ⟨_, rfl⟩
  obtain ⟨x6, hx6⟩ : ∃ x, x = m.getD 66 0 := ⟨_, rfl⟩
  obtain ⟨s0, hs0⟩ : ∃ s, s = (x0 + 1) % 18446744073709551616 := ⟨_, rfl⟩
  obtain ⟨s5, hs5⟩ : ∃ s, s = (x5 + v) % 18446744073709551616 := ⟨_, rfl⟩
  have e0 : ∀ hh : k < m.length, m[k] = x0 := fun hh => by rw [hx0]; simp [hh]
  have e5 : ∀ hh : 65 < (m.set k s0).length, (m.set k s0)[65] = x5 := fun hh => by rw [hx5, List.getElem_set_ne (by omega)]; simp [hlen]
  have e6 : ∀ hh : 66 < ((m.set k s0).set 65 s5).length, ((m.set k s0).set 65 s5)[66] = x6 := fun hh => by rw [hx6, List.getElem_set_ne (by omega), List.getElem_set_ne (by omega)]; simp [hlen]
  have hres : come m v = if v ≤ x6 then (m.set k s0).set 65 s5 else ((m.set k s0).set 65 s5).set 66 v := by
    unfold come
    simp only [← hk, ← hx0, ← hx5, ← hx6, ← hs0, ← hs5]
  obtain ⟨M, hM⟩ : ∃ M, M = come m v := ⟨_, rfl⟩
  obtain ⟨LL, hLL⟩ : ∃ LL, LL = L ++ ([(3, (Lib.bitLen v : Int)), (3, 65), (1, 66)] ++ (if v ≤ m.getD 66 0 then [] else [(5, 66)])) := ⟨_, rfl⟩
  rw [← hM, ← hLL]
  rw [← hk, ← hx6] at hLL
  rw [hres] at hM
  have HM := Lib.hid hM
  have HLL := Lib.hid hLL
  have HE0 := Lib.hid e0
  have HE5 := Lib.hid e5
  have HE6 := Lib.hid e6
  have HS0 := Lib.hid hs0
  have HS5 := Lib.hid hs5
  have HB := Lib.hid (Try.bits_Len64 v w (by omega) (by omega))
  have HK := Lib.hid hk
  clear e0 e5 e6 hs0 hs5 hres hx0 hx5 hx6 hk hM hLL
  go_enter Try.func17, Try.ntmps17
  go_wp2_with fail
  refine HB.out.mono ?_
  rintro e w' ⟨rfl, rfl⟩
  rw [show Lib.bitLen (v : Int).toNat = k from HK.out.symm]
  go_wp2_with fail
  refine (hG.step _ _ _ _ (by omega) hg).mono ?_
  rintro e w1 ⟨rfl, hg1, hb1, hk1⟩
  have h1 := h.of_heap (hk1 H rfl)
  clear hk1 h hm
  have i0 : (0 : Int) ≤ (k : Int) := by omega
  have i1 : (k : Int) < 67 := by omega
  have hkl : k < m.length := by omega
  have c1 := h1.at k hkl
  have f1 := h1.r.free (1 + k)
  have HC1 := Lib.hid c1
  clear c1
  go_wp2_with fail
  refine (aadd ⟨H, 1 + k, none⟩ (m[k]'hkl) 1 s0 _ HC1.out f1 (by rw [HE0.out hkl]; exact HS0.out.symm)).mono ?_
  rintro e w2 ⟨rfl, hw2⟩
  have h2 := h1.setw k s0
  rw [hw2] at h2
  have hg2 := hG.keep _ w2 _ hg1 (by rw [← hw2]; exact (Sm.refl (fun k => k = H) _).setCell (show (fun k => k = H) H from rfl) _)
  have hb2 := hb1.setCell (p := ⟨H, 1 + k, none⟩) hBH (.int .u64 (s0 : Int))
  rw [hw2] at hb2
  clear hw2 hb1 hg1 f1 h1 HC1
  go_wp2_with fail
  refine (hG.step _ _ _ _ (by (try simp only [List.length_append, List.length_cons, List.length_nil]); omega) hg2).mono ?_
  rintro e w3 ⟨rfl, hg3, hb3, hk3⟩
  have h3 := h2.of_heap (hk3 H rfl)
  clear hk3 h2
  have l5 : 65 < (m.set k s0).length := by simp; omega
  have HC1 := Lib.hid (h3.at 65 l5)
  have f1 := h3.r.free (1 + 65)
  go_wp2_with fail
  refine (aadd ⟨H, 1 + 65, none⟩ ((m.set k s0)[65]'l5) v s5 _ HC1.out f1 (by rw [HE5.out l5]; exact HS5.out.symm)).mono ?_
  rintro e w4 ⟨rfl, hw4⟩
  have h4 := h3.setw 65 s5
  rw [hw4] at h4
  have hg4 := hG.keep _ w4 _ hg3 (by rw [← hw4]; exact (Sm.refl (fun k => k = H) _).setCell (show (fun k => k = H) H from rfl) _)
  have hb4 := (hb2.trans hb3).setCell (p := ⟨H, 1 + 65, none⟩) hBH (.int .u64 (s5 : Int))
  rw [hw4] at hb4
  clear hw4 hb2 hb3 hg3 f1 h3 HC1
  go_wp2
  refine wp_loop_rounds 1 ?_
  rw [rounds_succ]
  go_wp2_with fail
  refine (hG.step _ _ _ _ (by (try simp only [List.length_append, List.length_cons, List.length_nil]); omega) hg4).mono ?_
  rintro e w5 ⟨rfl, hg5, hb5, hk5⟩
  have h5 := h4.of_heap (hk5 H rfl)
  clear hk5 h4
  have l6 : 66 < ((m.set k s0).set 65 s5).length := by simp; omega
  have c6 := h5.at 66 l6
  rw [HE6.out l6] at c6
  have f6 := h5.r.free (1 + 66)
  go_wp2_with fail
  refine (aload ⟨H, 1 + 66, none⟩ x6 _ c6).mono ?_
  rintro e w6 ⟨rfl, rfl⟩
  have HF6 := Lib.hid f6
  clear f6
  by_cases hvx : v ≤ x6
  · have hvi : (v : Int) ≤ (x6 : Int) := by omega
    go_wp2
    go_ret
    refine ⟨rfl, ?_, hb4.trans hb5, ?_⟩
    · rw [HLL.out, if_pos hvx]
      simpa using hg5
    · rw [HM.out, if_pos hvx]
      exact h5
  · have hvi : ¬ (v : Int) ≤ (x6 : Int) := by omega
    clear c6
    go_wp2_with fail
    refine (hG.step _ _ _ _ (by (try simp only [List.length_append, List.length_cons, List.length_nil]); omega) hg5).mono ?_
    rintro e w7 ⟨rfl, hg7, hb7, hk7⟩
    have h7 := h5.of_heap (hk7 H rfl)
    clear hk7 h5
    have c7 := h7.at 66 l6
    rw [HE6.out l6] at c7
    have HC7 := Lib.hid c7
    clear c7
    go_wp2_with fail
    refine (acas_hit ⟨H, 1 + 66, none⟩ x6 v _ HC7.out (h7.r.free _)).mono ?_
    rintro e w8 ⟨rfl, hw8⟩
    have h8 := h7.setw 66 v
    rw [hw8] at h8
    have hg8 := hG.keep _ w8 _ hg7 (by rw [← hw8]; exact (Sm.refl (fun k => k = H) _).setCell (show (fun k => k = H) H from rfl) _)
    have hb8 := ((hb4.trans hb5).trans hb7).setCell (p := ⟨H, 1 + 66, none⟩) hBH (.int .u64 (v : Int))
    rw [hw8] at hb8
    clear hw8
    go_wp2
    go_ret
    refine ⟨rfl, ?_, hb8, ?_⟩
    · rw [HLL.out, if_neg hvx]
      simpa using hg8
    · rw [HM.out, if_neg hvx]
      exact h8
end Go.Proofs.Ytdedmmjmiakidaa
