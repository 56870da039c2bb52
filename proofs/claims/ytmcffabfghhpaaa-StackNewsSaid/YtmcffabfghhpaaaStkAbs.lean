/- A stack as a list: the chain of nodes, and Push and Pop with no gate. -/
import Derived.Test.YtmcffabfghhpaaaStkG
namespace Go.Proofs.Ytmcffabfghhpaaa
open Go.RowKit
set_option linter.unusedVariables false

/-- From the top t one comes through the nodes l, one by one, to the end. -/
def Ch (m : List Nat) : Nat → List Nat → Prop
  | t, [] => t % 4294967296 = 0
  | t, i :: l => t % 4294967296 = i + 1 ∧ ∃ h : 2 * i < m.length, Ch m m[2 * i] l

theorem Ch.set_even {m : List Nat} {t : Nat} {l : List Nat} (h : Ch m t l) (j x : Nat) (hj : j ∉ l) : Ch (m.set (2 * j) x) t l := by
  induction l generalizing t with
  | nil => exact h
  | cons i l ih =>
    obtain ⟨h1, h2, h3⟩ := h
    simp only [List.mem_cons, not_or] at hj
    refine ⟨h1, by simpa using h2, ?_⟩
    have : (m.set (2 * j) x)[2 * i]'(by simpa using h2) = m[2 * i] := by rw [List.getElem_set, if_neg (by omega)]
    rw [this]
    exact ih h3 hj.2
theorem Ch.set_odd {m : List Nat} {t : Nat} {l : List Nat} (h : Ch m t l) (j x : Nat) : Ch (m.set (2 * j + 1) x) t l := by
  induction l generalizing t with
  | nil => exact h
  | cons i l ih =>
    obtain ⟨h1, h2, h3⟩ := h
    refine ⟨h1, by simpa using h2, ?_⟩
    have : (m.set (2 * j + 1) x)[2 * i]'(by simpa using h2) = m[2 * i] := by rw [List.getElem_set, if_neg (by omega)]
    rw [this]
    exact ih h3
theorem Ch.low {m : List Nat} {t t' : Nat} {l : List Nat} (h : Ch m t l) (e : t' % 4294967296 = t % 4294967296) : Ch m t' l := by
  cases l with
  | nil => exact e.trans h
  | cons i l => exact ⟨e.trans h.1, h.2⟩

/-- What lies on a stack: vals, the last one first. -/
structure StkInv (n t0 t1 : Nat) (m : List Nat) (l f vals : List Nat) : Prop where
  c0 : Ch m t0 l
  c1 : Ch m t1 f
  nd : (l ++ f).Nodup
  lt : ∀ i ∈ l ++ f, i < n
  len : (l ++ f).length = n
  vat : ∀ k (h : k < l.length), ∃ (h' : 2 * l[k] + 1 < m.length) (h'' : k < vals.length), m[2 * l[k] + 1] = vals[k]
  vlen : vals.length = l.length
  vlt : ∀ v ∈ vals, v < 18446744073709551616

def AS (S N n : Nat) (vals : List Nat) (w : World) : Prop := ∃ t0 t1 m l f, Stk S N n t0 t1 m w ∧ StkInv n t0 t1 m l f vals

theorem AS.sm {S N n : Nat} {vals : List Nat} {w w' : World} {F : Nat → Prop} (h : AS S N n vals w) (k : Sm F w w') (hS : ¬ F S) (hN : ¬ F N) : AS S N n vals w' := by
  obtain ⟨t0, t1, m, l, f, h1, h2⟩ := h
  exact ⟨t0, t1, m, l, f, { h1 with rS := h1.rS.sm k hS, rN := h1.rN.sm k hN }, h2⟩

theorem AS.le {S N n : Nat} {vals : List Nat} {w : World} (h : AS S N n vals w) : vals.length ≤ n := by
  obtain ⟨t0, t1, m, l, f, h1, h2⟩ := h
  have hl := h2.len
  have hv := h2.vlen
  simp only [List.length_append] at hl
  omega

abbrev two (S N : Nat) : Nat → Prop := fun k => k = S ∨ k = N

theorem push_a {S N n : Nat} (vals : List Nat) (v : Nat) (hv : v < 18446744073709551616) (w : World) (h : AS S N n vals w) (hlt : vals.length < n) :
    Calls Try.prog 13 #[.pointer (some ⟨S, 0, none⟩), .nilIface, .int .u64 v] w fun e w' =>
      e = .returned (.tuple #[.bool true, .int .i64 0]) ∧ AS S N n (v :: vals) w' ∧ Sm (two S N) w w' := by
  obtain ⟨t0, t1, m, l, f, hs, hi⟩ := h
  have hfl := hi.len
  have hvl := hi.vlen
  simp only [List.length_append] at hfl
  match f, hi, hfl with
  | [], hi, hfl => exact absurd hfl (by simp; omega)
  | i :: f, hi, hfl =>
    obtain ⟨h1, h2, h3⟩ := hi.c1
    have hin : i < n := hi.lt i (by simp)
    have hnd := hi.nd
    have hil : i ∉ l := by
      intro hm
      rw [List.nodup_append] at hnd
      exact hnd.2.2 i hm i (by simp) rfl
    have hif : i ∉ f := by
      rw [List.nodup_append] at hnd
      exact (List.nodup_cons.1 hnd.2.1).1
    have hml := hs.len
    have hG := gate_nilX 0 S N (fun w' => Sm (two S N) w w') (fun a b ha hb => ha.trans hb)
    refine (push_ok hG (Nat.zero_le _) (Nat.zero_le _) n t0 t1 i m[2 * i] (t0 % 4294967296) m v hv w [] (by simp) (Sm.refl _ _) hs h1 hin (fun _ => rfl) rfl).mono ?_
    rintro e w' ⟨rfl, hk, -, hs'⟩
    refine ⟨rfl, ⟨_, _, _, i :: l, f, hs', ?_, ?_, ?_, ?_, ?_, ?_, ?_, ?_⟩, hk⟩
    · have e0 : fol t0 (i + 1) % 4294967296 = i + 1 := fol_low t0 (i + 1) (by have := hs.le; omega)
      refine ⟨e0, by simpa using h2, ?_⟩
      have : ((m.set (2 * i + 1) v).set (2 * i) (t0 % 4294967296))[2 * i]'(by simpa using h2) = t0 % 4294967296 := by simp
      rw [this]
      exact ((hi.c0.set_odd i v).set_even i _ hil).low (by omega)
    · have e1 : fol t1 m[2 * i] % 4294967296 = m[2 * i] % 4294967296 := by
        rw [fol_low t1 _ (hs.nx i h2)]
        exact (Nat.mod_eq_of_lt (hs.nx i h2)).symm
      exact ((h3.set_odd i v).set_even i _ hif).low e1
    · have : (l ++ i :: f).Perm (i :: l ++ f) := List.perm_middle
      exact this.nodup hnd
    · intro j hj
      exact hi.lt j (by simp only [List.mem_append, List.mem_cons, List.cons_append] at hj ⊢; rcases hj with h | h | h <;> simp [h])
    · simp; simp at hfl; omega
    · intro k hk
      cases k with
      | zero =>
        refine ⟨by simp; omega, by simp, ?_⟩
        simp only [List.getElem_cons_zero]
        rw [List.getElem_set, if_neg (by omega), List.getElem_set, if_pos rfl]
      | succ k =>
        obtain ⟨g1, g2, g3⟩ := hi.vat k (by simpa using hk)
        refine ⟨by simpa using g1, by simpa using g2, ?_⟩
        simp only [List.getElem_cons_succ]
        have hne : l[k]'(by simpa using hk) ≠ i := fun e => hil (e ▸ List.getElem_mem _)
        rw [List.getElem_set, if_neg (by omega), List.getElem_set, if_neg (by omega), g3]
    · simp [hvl]
    · intro x hx
      simp only [List.mem_cons] at hx
      rcases hx with rfl | hx
      · exact hv
      · exact hi.vlt x hx

theorem push_b {S N n : Nat} (vals : List Nat) (v : Int) (w : World) (h : AS S N n vals w) (hlt : vals.length = n) :
    Calls Try.prog 13 #[.pointer (some ⟨S, 0, none⟩), .nilIface, .int .u64 v] w fun e w' =>
      e = .returned (.tuple #[.bool false, .int .i64 0]) ∧ AS S N n vals w' ∧ Sm (two S N) w w' := by
  obtain ⟨t0, t1, m, l, f, hs, hi⟩ := h
  have hfl := hi.len
  have hvl := hi.vlen
  simp only [List.length_append] at hfl
  have hf : f = [] := List.eq_nil_of_length_eq_zero (by omega)
  subst hf
  have hG := gate_nilX 0 S N (fun w' => Sm (two S N) w w') (fun a b ha hb => ha.trans hb)
  refine (push_full hG n t0 t1 m v w [] (by simp) (Sm.refl _ _) hs hi.c1).mono ?_
  rintro e w' ⟨rfl, hk, -, hs'⟩
  exact ⟨rfl, ⟨_, _, _, l, [], hs', hi⟩, hk⟩

theorem pop_a {S N n : Nat} (vals : List Nat) (v : Nat) (w : World) (h : AS S N n (v :: vals) w) :
    Calls Try.prog 14 #[.pointer (some ⟨S, 0, none⟩), .nilIface] w fun e w' =>
      e = .returned (.tuple #[.int .u64 v, .bool true, .int .i64 0]) ∧ AS S N n vals w' ∧ Sm (two S N) w w' := by
  obtain ⟨t0, t1, m, l, f, hs, hi⟩ := h
  have hfl := hi.len
  have hvl := hi.vlen
  simp only [List.length_append, List.length_cons] at hfl hvl
  match l, hi, hfl, hvl with
  | [], hi, hfl, hvl => exact absurd hvl (by simp)
  | i :: l, hi, hfl, hvl =>
    obtain ⟨h1, h2, h3⟩ := hi.c0
    have hin : i < n := hi.lt i (by simp)
    have hnd := hi.nd
    simp only [List.cons_append, List.nodup_cons, List.mem_append, not_or] at hnd
    obtain ⟨⟨hil, hif⟩, hnd⟩ := hnd
    have hml := hs.len
    obtain ⟨g1, g2, g3⟩ := hi.vat 0 (by simp)
    simp only [List.getElem_cons_zero] at g1 g3
    have hG := gate_nilX 0 S N (fun w' => Sm (two S N) w w') (fun a b ha hb => ha.trans hb)
    refine (pop_ok hG (Nat.zero_le _) (Nat.zero_le _) n t0 t1 i m[2 * i] (t1 % 4294967296) v m w [] (by simp) (Sm.refl _ _) hs h1 hin (fun _ => rfl) (fun _ => g3) rfl).mono ?_
    rintro e w' ⟨rfl, hk, -, hs'⟩
    refine ⟨rfl, ⟨_, _, _, l, i :: f, hs', ?_, ?_, ?_, ?_, ?_, ?_, ?_, ?_⟩, hk⟩
    · have e1 : fol t0 m[2 * i] % 4294967296 = m[2 * i] % 4294967296 := by
        rw [fol_low t0 _ (hs.nx i h2)]
        exact (Nat.mod_eq_of_lt (hs.nx i h2)).symm
      exact (h3.set_even i _ hil).low e1
    · have e0 : fol t1 (i + 1) % 4294967296 = i + 1 := fol_low t1 (i + 1) (by have := hs.le; omega)
      refine ⟨e0, by simpa using h2, ?_⟩
      have : (m.set (2 * i) (t1 % 4294967296))[2 * i]'(by simpa using h2) = t1 % 4294967296 := by simp
      rw [this]
      exact (hi.c1.set_even i _ hif).low (by omega)
    · have : (i :: (l ++ f)).Perm (l ++ i :: f) := List.perm_middle.symm
      exact this.nodup (List.nodup_cons.2 ⟨by simp [hil, hif], hnd⟩)
    · intro j hj
      exact hi.lt j (by simp only [List.mem_append, List.mem_cons, List.cons_append] at hj ⊢; rcases hj with h | h | h <;> simp [h])
    · simp; simp at hfl; omega
    · intro k hk
      obtain ⟨q1, q2, q3⟩ := hi.vat (k + 1) (by simpa using hk)
      simp only [List.getElem_cons_succ] at q1 q2 q3
      refine ⟨by simpa using q1, by simpa using q2, ?_⟩
      rw [List.getElem_set, if_neg (by omega), q3]
    · simpa using hvl
    · exact fun x hx => hi.vlt x (by simp [hx])

theorem pop_b {S N n : Nat} (w : World) (h : AS S N n [] w) :
    Calls Try.prog 14 #[.pointer (some ⟨S, 0, none⟩), .nilIface] w fun e w' =>
      e = .returned (.tuple #[.int .u64 0, .bool false, .int .i64 0]) ∧ AS S N n [] w' ∧ Sm (two S N) w w' := by
  obtain ⟨t0, t1, m, l, f, hs, hi⟩ := h
  have hvl := hi.vlen
  have hl : l = [] := List.eq_nil_of_length_eq_zero (by simpa using hvl.symm)
  subst hl
  have hG := gate_nilX 0 S N (fun w' => Sm (two S N) w w') (fun a b ha hb => ha.trans hb)
  refine (pop_empty hG n t0 t1 m w [] (by simp) (Sm.refl _ _) hs hi.c0).mono ?_
  rintro e w' ⟨rfl, hk, -, hs'⟩
  exact ⟨rfl, ⟨_, _, _, [], f, hs', hi⟩, hk⟩

theorem new_a (n : Nat) (hn0 : 0 < n) (hn : n ≤ 1024) (hb : bits .and .i64 (n : Int) ((n : Int) - 1) = 0) (w : World) :
    Calls Try.prog 12 #[.int .i64 n] w fun e w' =>
      e = .returned (.tuple #[.pointer (some ⟨w.heap.size + 1, 0, none⟩), .int .i64 0]) ∧ Sm (fun _ => False) w w' ∧ AS (w.heap.size + 1) w.heap.size n [] w' := by
  refine (new_ok n hn0 hn hb w).mono ?_
  rintro e w' ⟨rfl, hb, hs⟩
  refine ⟨rfl, ⟨hb.os, hb.tape, hb.output, hb.size, fun k hk _ => hb.block k hk⟩, _, _, _, [], List.range n, hs, ?_, ?_, ?_, ?_, ?_, ?_, ?_, ?_⟩
  · rfl
  · have key : ∀ d k, k + d = n → ∀ t, t % 4294967296 = (if k < n then k + 1 else 0) → Ch (memK n (n - 1)) t ((List.range n).drop k) := by
      intro d
      induction d with
      | zero =>
        intro k hk t ht
        rw [List.drop_of_length_le (by simp; omega)]
        rw [if_neg (by omega)] at ht
        exact ht
      | succ d ih =>
        intro k hk t ht
        rw [if_pos (by omega)] at ht
        rw [List.drop_eq_getElem_cons (by simp; omega)]
        simp only [List.getElem_range]
        refine ⟨ht, by rw [memK_len]; omega, ih (k + 1) (by omega) _ ?_⟩
        rw [memK_get]
        split <;> split <;> omega
    have := key n 0 (by omega) 1 (by rw [if_pos hn0])
    simpa using this
  · simpa using List.nodup_range
  · simp
  · simp
  · intro k h; exact absurd h (by simp)
  · rfl
  · simp
end Go.Proofs.Ytmcffabfghhpaaa
