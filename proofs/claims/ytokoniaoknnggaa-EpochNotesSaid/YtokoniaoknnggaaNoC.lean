/- EpochNotes, the plain law: the reference's answer to a call is the domain's. -/
import Derived.Test.YtokoniaoknnggaaNoB
namespace Go.Proofs.Ytokoniaoknnggaa
open Go.RowKit
set_option linter.unusedVariables false
set_option linter.unusedSimpArgs false

theorem take_get {ws : List Nat} (hl : ws.length = 17) {n k : Nat} (hn : n ≤ 16) (hk : k ≤ n) : (ws.take (n + 1))[k]? = some (ws.getD k 0) := by
  rw [List.getElem?_take, if_pos (by omega), List.getD, List.getElem?_eq_getElem (by omega)]
  rfl
theorem take_set {ws : List Nat} {n k v : Nat} : (ws.set k v).take (n + 1) = (ws.take (n + 1)).set k v := by
  rw [List.take_set]
theorem mkI_back : ∀ L : List (Int × Int), (∀ p ∈ L, 0 ≤ p.1 ∧ 0 ≤ p.2) → mkI (L.map fun p => (p.1.toNat, p.2.toNat)) = L
  | [], _ => rfl
  | a :: l, h => by
    have h1 := h a (by simp)
    have h2 := mkI_back l (fun p hp => h p (by simp [hp]))
    obtain ⟨x, y⟩ := a
    simp only [mkI, List.map_cons, List.map_map] at h2 ⊢
    rw [h2]
    simp only at h1
    congr 1
    exact Prod.ext (Int.toNat_of_nonneg h1.1) (Int.toNat_of_nonneg h1.2)
theorem scan_pos (ws : List Nat) (now : Nat) : ∀ m k, ∀ p ∈ (scan ws now k m).2, 0 ≤ p.1 ∧ 0 ≤ p.2
  | 0, k, p, h => by simp [scan] at h
  | m + 1, k, p, h => by
    unfold scan at h
    split at h
    · simp only [List.mem_cons, List.not_mem_nil, or_false] at h
      subst h
      exact ⟨by simp, Int.natCast_nonneg _⟩
    · simp only [List.mem_cons] at h
      rcases h with rfl | h
      · exact ⟨by simp, Int.natCast_nonneg _⟩
      · exact scan_pos ws now m (k + 1) p h
theorem moveM_pos (ws : List Nat) (n : Nat) : ∀ p ∈ moveM ws n, 0 ≤ p.1 ∧ 0 ≤ p.2 := fun p h => by
  unfold moveM at h
  split at h
  · simp only [List.mem_cons] at h
    rcases h with rfl | h
    · exact ⟨by decide, by decide⟩
    · exact scan_pos _ _ _ _ p h
  · simp only [List.cons_append, List.mem_cons, List.mem_append, List.not_mem_nil, or_false] at h
    rcases h with rfl | h | rfl
    · exact ⟨by decide, by decide⟩
    · exact scan_pos _ _ _ _ p h
    · exact ⟨by decide, by decide⟩
theorem moveM_len (ws : List Nat) (n : Nat) : (moveM ws n).length ≤ n + 2 := by
  unfold moveM
  generalize ws.getD 0 0 = now
  have := scan_len ws now n 1
  split <;> simp <;> omega
/-- What the law asks of a domain's words. -/
def Small (ws : List Nat) (c : Nat) : Prop := ws.length = 17 ∧ ∀ k, ws.getD k 0 ≤ c
theorem getD_set {ws : List Nat} {k v j : Nat} : (ws.set k v).getD j 0 = if k = j ∧ k < ws.length then v else ws.getD j 0 := by
  simp only [List.getD, List.getElem?_set]
  split
  · next e =>
    subst e
    by_cases h : k < ws.length
    · simp [h]
    · simp [h]
  · next e =>
    rw [if_neg (fun h => e h.1)]
theorem Small.set {ws : List Nat} {c k v : Nat} (h : Small ws c) (hv : v ≤ c + 1) : Small (ws.set k v) (c + 1) := by
  refine ⟨by simpa using h.1, fun j => ?_⟩
  rw [getD_set]
  split
  · exact hv
  · exact Nat.le_succ_of_le (h.2 j)
theorem Small.up {ws : List Nat} {c : Nat} (h : Small ws c) : Small ws (c + 1) := ⟨h.1, fun j => Nat.le_succ_of_le (h.2 j)⟩
theorem done_small {ws : List Nat} {c : Nat} (h : Small ws c) (n : Nat) (x : DoV) : Small (doneF n ws x).2.1 (c + 1) := by
  unfold doneF
  rcases (wi_five x.1).2 with e | e | e | e | e <;> rw [e]
  · exact h.up
  · simp only [doneQ]
    split
    · exact h.up
    · show Small (pinW ws x.2.1.toNat) (c + 1)
      unfold pinW
      split
      · exact h.set (Nat.le_succ_of_le (h.2 0))
      · exact h.up
  · simp only [doneQ]
    split
    · exact h.up
    · show Small (unpinW ws x.2.1.toNat) (c + 1)
      unfold unpinW
      split
      · exact h.up
      · exact h.set (Nat.zero_le _)
  · show Small (moveW ws n) (c + 1)
    unfold moveW
    split
    · exact h.up
    · exact h.set (by have := h.2 0; omega)
  · exact h.up
theorem law {ws : List Nat} {c : Nat} (h : Small ws c) (hc : c < 1000000) (n : Nat) (hn : 0 < n ∧ n ≤ 16) (x : DoV) (hep : x.2.2 < 18446744073709551616) :
    ∃ tr, Runs (progF n x) (ws.take (n + 1)) ((doneF n ws x).2.1.take (n + 1)) (doneF n ws x).1 tr ∧ mkI tr = (doneF n ws x).2.2 ∧ tr.length < 1000 ∧ (doneF n ws x).1.length < 100 ∧ (progF n x).length < 1000 := by
  obtain ⟨hlen, hle⟩ := h
  have hb : ∀ k, ws.getD k 0 < 18446744073709551616 := fun k => by have := hle k; omega
  have g0 := take_get hlen hn.2 (Nat.zero_le n)
  unfold doneF progF
  rcases (wi_five x.1).2 with e | e | e | e | e <;> rw [e]
  · exact ⟨_, run_now _ _ g0 (hb 0), rfl, by simp, by simp [doneQ], by simp [progQ, nowP]⟩
  · simp only [doneQ, progQ]
    by_cases hs : badS n x.2.1
    · rw [if_pos hs, if_pos hs]
      exact ⟨_, run_fails1 _, rfl, by decide, by simp, by decide⟩
    · rw [if_neg hs, if_neg hs]
      obtain ⟨s, hse⟩ : ∃ s : Nat, s = x.2.1.toNat := ⟨_, rfl⟩
      have hsn : s < n := by unfold badS at hs; omega
      rw [← hse]
      have g1 := take_get hlen hn.2 (show 1 + s ≤ n by omega)
      have hr := run_pin (ws.take (n + 1)) s _ _ (by omega) g0 g1 (hb _) (hb _)
      unfold pinR pinW pinM
      by_cases hz : ws.getD (1 + s) 0 = 0
      · rw [if_pos hz] at hr
        rw [if_pos hz, if_pos hz, if_pos hz, take_set]
        exact ⟨_, hr, by simp [mkI], by simp, by simp, by simp [pinP, tell2]⟩
      · rw [if_neg hz] at hr
        rw [if_neg hz, if_neg hz, if_neg hz]
        exact ⟨_, hr, by simp [mkI], by simp, by simp, by simp [pinP, tell2]⟩
  · simp only [doneQ, progQ]
    by_cases hs : badS n x.2.1
    · rw [if_pos hs, if_pos hs]
      exact ⟨_, run_fails0 _, rfl, by decide, by simp, by decide⟩
    · rw [if_neg hs, if_neg hs]
      obtain ⟨s, hse⟩ : ∃ s : Nat, s = x.2.1.toNat := ⟨_, rfl⟩
      have hsn : s < n := by unfold badS at hs; omega
      rw [← hse]
      have g1 := take_get hlen hn.2 (show 1 + s ≤ n by omega)
      have hr := run_unpin (ws.take (n + 1)) s _ (by omega) g1 (hb _)
      unfold unpinR unpinW unpinM
      by_cases hz : ws.getD (1 + s) 0 = 0
      · rw [if_pos hz] at hr
        rw [if_pos hz, if_pos hz, if_pos hz]
        exact ⟨_, hr, by simp [mkI], by simp, by simp, by simp [unpinP, tell1]⟩
      · rw [if_neg hz] at hr
        rw [if_neg hz, if_neg hz, if_neg hz, take_set]
        exact ⟨_, hr, by simp [mkI], by simp, by simp, by simp [unpinP, tell1]⟩
  · simp only [doneQ, progQ]
    have hr := run_move n hn ws (ws.take (n + 1)) (fun k hk => take_get hlen hn.2 hk) hb (by have := hle 0; omega)
    have hw : (if (moveR ws n).2 = true then (ws.take (n + 1)).set 0 (ws.getD 0 0 + 1) else ws.take (n + 1)) = (moveW ws n).take (n + 1) := by
      unfold moveR moveW
      split
      · simp
      · simp [take_set]
    rw [hw] at hr
    refine ⟨_, hr, mkI_back _ (moveM_pos ws n), ?_, by simp, ?_⟩
    · have := moveM_len ws n
      rw [List.length_map]
      omega
    · show ((moveS n n ++ moveT n) ++ tell2).length < 1000
      rw [List.length_append, List.length_append, moveS_len]
      simp [moveT, tell2]
      omega
  · simp only [doneQ, progQ, safeR]
    exact ⟨_, run_safe _ _ _ g0 (hb 0) hep, rfl, by decide, by simp, by simp [safeP]⟩
end Go.Proofs.Ytokoniaoknnggaa
