/- Package tally, walked alone: Parts and Sum of a tally without a gate. -/
import Derived.Test.YtdedmmjmiakidaaTalB
namespace Go.Proofs.Ytdedmmjmiakidaa
open Go.RowKit
set_option linter.unusedVariables false

/-- What the slice out holds after k rounds. -/
def upto (m : List Nat) (k : Nat) : List Nat := m.take k ++ List.replicate (m.length - k) 0
theorem upto_len (m : List Nat) (k : Nat) (h : k ≤ m.length) : (upto m k).length = m.length := by
  simp [upto]; omega
theorem upto_all (m : List Nat) : upto m m.length = m := by simp [upto]
theorem upto_zero (m : List Nat) : upto m 0 = List.replicate m.length 0 := by simp [upto]
theorem upto_set (m : List Nat) (k : Nat) (h : k < m.length) : (upto m k).set k m[k] = upto m (k + 1) := by
  apply List.ext_getElem
  · simp [upto]; omega
  · intro i h1 h2
    simp only [upto, List.getElem_set, List.getElem_append, List.length_take, List.getElem_take, List.getElem_replicate]
    by_cases e : k = i
    · subst e
      have : k < min (k + 1) m.length := by omega
      rw [if_pos rfl, dif_pos this]
    · rw [if_neg e]
      by_cases e2 : i < min k m.length
      · have : i < min (k + 1) m.length := by omega
        rw [dif_pos e2, dif_pos this]
      · have : ¬ i < min (k + 1) m.length := by omega
        rw [dif_neg e2, dif_neg this]

def wsum (m : List Nat) : Nat := m.foldl (fun s x => (s + x) % 18446744073709551616) 0
theorem wsum_succ (m : List Nat) (k : Nat) (h : k < m.length) : wsum (m.take (k + 1)) = (wsum (m.take k) + m[k]) % 18446744073709551616 := by
  simp only [wsum, List.take_add_one, List.foldl_append]
  simp [h]

set_option maxRecDepth 100000 in
set_option maxHeartbeats 800000 in
theorem tparts_c (T A : Nat) (m : List Nat) (w : World) (h : Tal T A m w) :
    Calls Try.prog 21 #[.pointer (some ⟨T, 0, none⟩), .nilIface] w fun e w' =>
      ∃ O, e = .returned (.tuple #[.slice (some ⟨O, 0, none⟩) m.length m.length, .int .i64 0]) ∧ Row w' O (uw m) 23 ∧ Sm (fun _ => False) w w' ∧ w.heap.size ≤ O := by
  have hle := h.le
  have h0 : w.cell? ⟨T, 0, none⟩ = some (.slice (some ⟨A, 0, none⟩) m.length m.length) := h.rT.cell 0
  have H0 := Lib.hid (tnone_c T A m w h)
  have hm := make_u64s m.length (by omega) w
  have H := Lib.hid h
  clear h
  go_enter Try.func21, Try.ntmps21
  go_wp2_with fail
  refine H0.out.mono ?_
  rintro e w' ⟨rfl, rfl⟩
  have hn0 : Row (w.alloc (.cells (uw (List.replicate m.length 0)) 23 (0, 0))) w.heap.size (uw (List.replicate m.length 0)) 23 := Row.new w _ _
  obtain ⟨w1, hw1⟩ : ∃ w1 : World, w1 = w.alloc (.cells (uw (List.replicate m.length 0)) 23 (0, 0)) := ⟨_, rfl⟩
  obtain ⟨O, hO⟩ : ∃ O : Nat, O = w.heap.size := ⟨_, rfl⟩
  have hs1 : Sm (fun _ => False) w w1 := by rw [hw1]; exact (Sm.refl _ _).alloc _
  rw [← hw1, ← hO] at hm
  rw [← hw1, ← hO] at hn0
  have HO := Lib.hid hO
  have HN0 := Lib.hid hn0
  have HS1 := Lib.hid hs1
  have h1 : w1.cell? ⟨T, 0, none⟩ = some (.slice (some ⟨A, 0, none⟩) m.length m.length) := (H.out.sm hs1 (fun h => h) (fun h => h)).rT.cell 0
  clear hw1 hO hn0 hs1
  go_wp2
  go_loopw [7, 21] (fun s7 s21 wr => ∃ k : Nat, k ≤ m.length ∧ s21 = .int .i64 k ∧ Hid (Row wr O (uw (upto m k)) 23) ∧ Hid (Sm (fun _ => False) w wr)) (fun s7 s21 _ => m.length - (intOf s21).toNat)
  case atStart => exact ⟨0, by omega, rfl, Lib.hid (by rw [upto_zero]; exact HN0.out), HS1⟩
  case round =>
    obtain ⟨k, hk, rfl, hR, hS⟩ := hrel
    have ht : Tal T A m wr := H.out.sm hS.out (fun h => h) (fun h => h)
    by_cases hlt : k < m.length
    · have i1 : (k : Int) < (m.length : Int) := by omega
      have hp : wrap64 ((k : Int) + 1) = ((k + 1 : Nat) : Int) := by unfold wrap64; omega
      have HP := Lib.hid hp
      clear hp
      have hc : wr.cell? ⟨T, 0, none⟩ = some (.slice (some ⟨A, 0, none⟩) m.length m.length) := ht.rT.cell 0
      have HT := Lib.hid ht
      clear ht
      go_wp2_with fail
      refine (tstep_nil _ _ _).mono ?_
      rintro e w' ⟨rfl, rfl⟩
      go_wp2_with fail
      refine (aload ⟨A, k, none⟩ m[k] _ ((HT.out.rA.cell k).trans (uw_get m k hlt))).mono ?_
      rintro e w' ⟨rfl, rfl⟩
      have hg : wr.cell? ⟨O, k, none⟩ = some (.int .u64 ((upto m k)[k]'(by rw [upto_len _ _ hk]; exact hlt) : Nat)) := (hR.out.cell k).trans (uw_get _ k (by rw [upto_len _ _ hk]; exact hlt))
      have hf : wr.frozen? ⟨O, k, none⟩ = false := hR.out.free k
      have hnx : Hid (Row (wr.setCell ⟨O, k, none⟩ (.int .u64 (m[k] : Nat))) O (uw (upto m (k + 1))) 23) := by
        apply Lib.hid
        rw [← upto_set m k hlt, ← uw_set]
        exact hR.out.set _ _
      have hsx : Hid (Sm (fun _ => False) w (wr.setCell ⟨O, k, none⟩ (.int .u64 (m[k] : Nat)))) := Lib.hid (hS.out.setNew (by rw [← HO.out]; exact Nat.le_refl _) _)
      go_wp2
      go_roundw
      case rel => exact ⟨k + 1, by omega, by first | rw [HP.out] | go_num, hnx, hsx⟩
      case measure => (try rw [HP.out]); simp only [intOf]; omega
    · have hkk : k = m.length := by omega
      subst hkk
      have i1 : ¬ (m.length : Int) < (m.length : Int) := by omega
      clear ht
      go_wp2
      go_ret2
      refine ⟨O, rfl, ?_, hS.out, by rw [← HO.out]; exact Nat.le_refl _⟩
      have := hR.out
      rw [upto_all] at this
      exact this

set_option maxRecDepth 100000 in
set_option maxHeartbeats 800000 in
theorem tsum_c (T A : Nat) (m : List Nat) (w : World) (h : Tal T A m w) :
    Calls Try.prog 20 #[.pointer (some ⟨T, 0, none⟩), .nilIface] w fun e w' =>
      e = .returned (.tuple #[.int .u64 (wsum m : Nat), .int .i64 0]) ∧ Sm (fun _ => False) w w' := by
  have hle := h.le
  have H := Lib.hid (tparts_c T A m w h)
  clear h
  go_enter Try.func20, Try.ntmps20
  go_wp2_with fail
  refine H.out.mono ?_
  rintro e w1 ⟨O, rfl, hr, hs, -⟩
  have HR := Lib.hid hr
  have HS := Lib.hid hs
  clear hr hs
  go_wp2
  go_loop [8, 10, 19] (fun s8 s10 s19 => ∃ k : Nat, k ≤ m.length ∧ s19 = .int .i64 k ∧ s8 = .int .u64 (wsum (m.take k) : Nat)) (fun s8 s10 s19 => m.length - (intOf s19).toNat)
  case atStart => exact ⟨0, by omega, rfl, rfl⟩
  case round =>
    obtain ⟨k, hk, rfl, rfl⟩ := hrel
    by_cases hlt : k < m.length
    · have i1 : (k : Int) < (m.length : Int) := by omega
      have hp : wrap64 ((k : Int) + 1) = ((k + 1 : Nat) : Int) := by unfold wrap64; omega
      have HP := Lib.hid hp
      clear hp
      have hc : w1.cell? ⟨O, k, none⟩ = some (.int .u64 (m[k] : Nat)) := (HR.out.cell k).trans (uw_get m k hlt)
      have hw : IntKind.u64.wrap ((wsum (m.take k) : Nat) + (m[k] : Nat) : Int) = ((wsum (m.take (k + 1)) : Nat) : Int) := by
        rw [wsum_succ m k hlt, IntKind.wrap_u64]; omega
      go_wp2
      go_round
      case rel => exact ⟨k + 1, by omega, by first | rw [HP.out] | go_num, rfl⟩
      case measure => (try rw [HP.out]); simp only [intOf]; omega
    · have hkk : k = m.length := by omega
      subst hkk
      have i1 : ¬ (m.length : Int) < (m.length : Int) := by omega
      go_wp2
      go_ret2
      refine ⟨?_, HS.out⟩
      simp
end Go.Proofs.Ytdedmmjmiakidaa
