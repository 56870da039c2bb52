/- What LaneOrders keeps in memory: two orders, and the answers of both, row by row. -/
import Derived.Test.YthjdnhlckjchgaaLanV
import Derived.Laws.OwnMore
namespace Go.Proofs.Ythjdnhlckjchgaa
open Go.RowKit
set_option linter.unusedVariables false
set_option linter.unusedSimpArgs false

/-- Two rows lie apart. -/
def Ap (v u : Value) : Prop := ∀ b, v.ownBlock = some b → u.ownBlock ≠ some b
theorem Ap.symm {v u : Value} (h : Ap v u) : Ap u v := fun b h1 h2 => h b h2 h1
theorem Ap.or {v u : Value} (h : Ap v u) : v.ownBlock = none ∨ v.ownBlock ≠ u.ownBlock := by
  cases e : v.ownBlock with
  | none => exact .inl rfl
  | some b => exact .inr (fun e2 => h b e e2.symm)
theorem Ap.of_or {v u : Value} (h : v.ownBlock = none ∨ v.ownBlock ≠ u.ownBlock) : Ap v u := fun b h1 h2 => by
  rcases h with h | h
  · rw [h] at h1; cases h1
  · exact h (h1.trans h2.symm)
theorem Ap.low {v u : Value} {H : Nat} (h1 : ∀ b, v.ownBlock = some b → b < H) (h2 : ∀ b, u.ownBlock = some b → H ≤ b) : Ap v u := fun b e1 e2 => by
  have := h1 b e1
  have := h2 b e2
  omega
abbrev nilV : Value := .slice none 0 0
/-- Rows of answers from the i-th on. -/
structure Fam (B n i : Nat) (ra rb : List Value) (os : List (List Int)) (w : World) : Prop where
  oa : ∀ j, i ≤ j → j < n → w.ownsRow B 3 1 (ra.getD j nilV) (os.getD j []).length (ic (os.getD j []))
  ob : ∀ j, i ≤ j → j < n → w.ownsRow B 3 1 (rb.getD j nilV) (os.getD j []).length (ic (os.getD j []))
  aa : ∀ j k, i ≤ j → j < n → i ≤ k → k < n → j ≠ k → Ap (ra.getD j nilV) (ra.getD k nilV)
  ab : ∀ j k, i ≤ j → j < n → i ≤ k → k < n → Ap (ra.getD j nilV) (rb.getD k nilV)
section
variable {B n i : Nat} {ra rb : List Value} {os : List (List Int)} {w w' : World}
theorem Fam.keep {F : Nat → Prop} (h : Fam B n i ra rb os w) (k : Sm F w w') (hA : ∀ j, i ≤ j → j < n → ∀ b, (ra.getD j nilV).ownBlock = some b → ¬ F b) (hB : ∀ j, i ≤ j → j < n → ∀ b, (rb.getD j nilV).ownBlock = some b → ¬ F b) : Fam B n i ra rb os w' :=
  ⟨fun j h1 h2 => own_keep (h.oa j h1 h2) k (hA j h1 h2), fun j h1 h2 => own_keep (h.ob j h1 h2) k (hB j h1 h2), h.aa, h.ab⟩
theorem Fam.fresh (h : Fam B n i ra rb os w) (k : Sm (fun _ => False) w w') : Fam B n i ra rb os w' := h.keep k (fun _ _ _ _ _ h => h) (fun _ _ _ _ _ h => h)
/-- Where a row of another type grows or is written. -/
theorem Fam.other {e : TypeId} {sz m : Nat} {v : Value} {xs : List Value} (h : Fam B n i ra rb os w) {b0 : Nat} (hv : w.ownsRow b0 e sz v m xs) (he : e ≠ 3) (k : Sm (fun b => v.ownBlock = some b) w w') : Fam B n i ra rb os w' :=
  h.keep k (fun j h1 h2 b hb e1 => Ap.of_or (own_ne hv (h.oa j h1 h2) he) b e1 hb) (fun j h1 h2 b hb e1 => Ap.of_or (own_ne hv (h.ob j h1 h2) he) b e1 hb)
theorem getD_app {α : Type} (l : List α) (x d : α) (j : Nat) : (l ++ [x]).getD j d = if j < l.length then l.getD j d else if j = l.length then x else d := by
  simp only [List.getD_eq_getElem?_getD]
  split
  · rename_i h; rw [List.getElem?_append_left h]
  · rename_i h
    rw [List.getElem?_append_right (by omega)]
    split
    · rename_i h2; subst h2; simp
    · rw [List.getElem?_eq_none (by simp; omega)]; rfl
/-- A new pair of rows, behind all that was. -/
theorem Fam.more {va vb : Value} {out : List Int} (h : Fam B n 0 ra rb os w) (hla : ra.length = n) (hlb : rb.length = n) (hlo : os.length = n) (ha : w.ownsRow B 3 1 va out.length (ic out)) (hb : w.ownsRow B 3 1 vb out.length (ic out))
    (hH : ∃ Ha Hb : Nat, (∀ b, va.ownBlock = some b → Ha ≤ b ∧ b < Hb) ∧ (∀ b, vb.ownBlock = some b → Hb ≤ b) ∧ (∀ j, j < n → ∀ b, (ra.getD j nilV).ownBlock = some b → b < Ha) ∧ (∀ j, j < n → ∀ b, (rb.getD j nilV).ownBlock = some b → b < Ha) ∧ Ha ≤ Hb) :
    Fam B (n + 1) 0 (ra ++ [va]) (rb ++ [vb]) (os ++ [out]) w := by
  obtain ⟨Ha, Hb, h1, h2, h3, h4, h5⟩ := hH
  have ga : ∀ j, (ra ++ [va]).getD j nilV = if j < n then ra.getD j nilV else if j = n then va else nilV := fun j => by rw [getD_app, hla]
  have gb : ∀ j, (rb ++ [vb]).getD j nilV = if j < n then rb.getD j nilV else if j = n then vb else nilV := fun j => by rw [getD_app, hlb]
  have go : ∀ j, (os ++ [out]).getD j [] = if j < n then os.getD j [] else if j = n then out else [] := fun j => by rw [getD_app, hlo]
  refine ⟨fun j _ hj => ?_, fun j _ hj => ?_, fun j k _ hj _ hk hne => ?_, fun j k _ hj _ hk => ?_⟩
  · rw [ga, go]
    by_cases e : j < n
    · rw [if_pos e, if_pos e]; exact h.oa j (Nat.zero_le _) e
    · rw [if_neg e, if_neg e, if_pos (by omega), if_pos (by omega)]; exact ha
  · rw [gb, go]
    by_cases e : j < n
    · rw [if_pos e, if_pos e]; exact h.ob j (Nat.zero_le _) e
    · rw [if_neg e, if_neg e, if_pos (by omega), if_pos (by omega)]; exact hb
  · rw [ga, ga]
    by_cases e : j < n <;> by_cases e2 : k < n
    · rw [if_pos e, if_pos e2]; exact h.aa j k (Nat.zero_le _) e (Nat.zero_le _) e2 hne
    · rw [if_pos e, if_neg e2, if_pos (by omega)]; exact Ap.low (h3 j e) (fun b hb => (h1 b hb).1)
    · rw [if_neg e, if_pos (by omega), if_pos e2]; exact (Ap.low (h3 k e2) (fun b hb => (h1 b hb).1)).symm
    · omega
  · rw [ga, gb]
    by_cases e : j < n <;> by_cases e2 : k < n
    · rw [if_pos e, if_pos e2]; exact h.ab j k (Nat.zero_le _) e (Nat.zero_le _) e2
    · rw [if_pos e, if_neg e2, if_pos (by omega)]; exact Ap.low (h3 j e) (fun b hb => Nat.le_trans h5 (h2 b hb))
    · rw [if_neg e, if_pos (by omega), if_pos e2]; exact (Ap.low (h4 k e2) (fun b hb => (h1 b hb).1)).symm
    · rw [if_neg e, if_pos (by omega), if_neg e2, if_pos (by omega)]; exact Ap.low (fun b hb => (h1 b hb).2) h2
end
/-- What is told twice grows alike. -/
theorem drain_cnt : ∀ (k : Nat) (a : Int) (c : Nat) (ws : List Wt) (out : List Int), (ws.map (·.1)).Nodup → (drain k a c ws out).1 + (drain k a c ws out).2.1.length = c + ws.length ∧ (drain k a c ws out).2.2.length + (drain k a c ws out).2.1.length = out.length + ws.length
  | 0, _, _, _, _, _ => ⟨rfl, rfl⟩
  | k + 1, a, c, ws, out, hn => by
    cases h : lookL ws a c with
    | none => rw [drain_none h]; exact ⟨rfl, rfl⟩
    | some y =>
      rw [drain_some h]
      have h1 := delL_len hn h
      have h2 := drain_cnt k a (c + 1) (delL ws a c) (out ++ [y]) (delL_nodup hn a c)
      simp only [List.length_append, List.length_cons, List.length_nil] at h2
      omega
theorem putL_bnd {nx : List Nat} {room : Nat} {ws : List Wt} {a : Int} {s : Nat} {x : Int} {i : Nat} (hn : (ws.map (·.1)).Nodup) (h1 : ∀ y ∈ nx, y + ws.length ≤ i) (h2 : ws.length ≤ i) :
    (∀ y ∈ (putL nx room ws a s x).nx, y + (putL nx room ws a s x).ws.length ≤ i + 1) ∧ (putL nx room ws a s x).ws.length ≤ i + 1 ∧ (putL nx room ws a s x).nx.length = nx.length ∧ (putL nx room ws a s x).out.length ≤ i + 1 := by
  unfold putL
  split
  · exact ⟨fun y hy => by have := h1 y hy; show y + ws.length ≤ i + 1; omega, by show ws.length ≤ i + 1; omega, rfl, by simp⟩
  split
  · exact ⟨fun y hy => by have := h1 y hy; show y + ws.length ≤ i + 1; omega, by show ws.length ≤ i + 1; omega, rfl, by simp⟩
  split
  · split
    · exact ⟨fun y hy => by have := h1 y hy; show y + ws.length ≤ i + 1; omega, by show ws.length ≤ i + 1; omega, rfl, by simp⟩
    · refine ⟨fun y hy => ?_, ?_, rfl, by simp⟩
      · have := h1 y hy
        simp only [List.length_append, List.length_cons, List.length_nil]
        omega
      · simp only [List.length_append, List.length_cons, List.length_nil]
        omega
  · rename_i g1 g2 g3
    have hA : a.toNat < nx.length := by omega
    have hm : nx.getD a.toNat 0 ∈ nx := by rw [List.getD_eq_getElem?_getD, List.getElem?_eq_getElem hA]; exact List.getElem_mem hA
    have hb := h1 _ hm
    obtain ⟨k1, k2⟩ := drain_cnt ws.length a (nx.getD a.toNat 0 + 1) ws [x] hn
    simp only [List.length_cons, List.length_nil] at k2
    refine ⟨fun y hy => ?_, ?_, by simp, ?_⟩
    · rcases List.mem_or_eq_of_mem_set hy with h | rfl
      · have := h1 y h
        show y + (drain ws.length a (nx.getD a.toNat 0 + 1) ws [x]).2.1.length ≤ i + 1
        omega
      · show (drain ws.length a (nx.getD a.toNat 0 + 1) ws [x]).1 + (drain ws.length a (nx.getD a.toNat 0 + 1) ws [x]).2.1.length ≤ i + 1
        omega
    · show (drain ws.length a (nx.getD a.toNat 0 + 1) ws [x]).2.1.length ≤ i + 1
      omega
    · show (drain ws.length a (nx.getD a.toNat 0 + 1) ws [x]).2.2.length ≤ i + 1
      omega
end Go.Proofs.Ythjdnhlckjchgaa
