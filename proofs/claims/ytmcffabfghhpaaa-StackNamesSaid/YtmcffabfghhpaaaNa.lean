/- PROVED: patchbaylaw08.StackNames answers true, on every schedule. No condition. -/
import Derived.Test.YtmcffabfghhpaaaFwAK
import Derived.Test.YtmcffabfghhpaaaFwAF
import Derived.Test.YtmcffabfghhpaaaProg
import Derived.Test.YtmcffabfghhpaaaFwAL
set_option linter.unusedVariables false
set_option linter.unusedSimpArgs false
/- A stack as a list: the chain of nodes, and Push and Pop with no gate. -/
namespace Go.Proofs.Ytmcffabfghhpaaa
open Go.RowKit
set_option linter.unusedVariables false

/-- From the top t one comes through the nodes l, one by one, to the end. -/
def Ch (m : List Nat) : Nat → List Nat → Prop
  | t, [] => t % 4294967296 = 0
  | t, i :: l => t % 4294967296 = i + 1 ∧ ∃ h : 2 * i < m.length, Ch m m[2 * i] l

theorem Ch.set_even {m : List Nat} {t : Nat} {l : List Nat} (h : Ch m t l) (j x : Nat) (hj : j ∉ l) : Ch (m.set (2 * j) x) t l := by
  induction l generalizing t with
  | nil => exact h
  | cons i l ih =>
    obtain ⟨h1, h2, h3⟩ := h
    simp only [List.mem_cons, not_or] at hj
    refine ⟨h1, by simpa using h2, ?_⟩
    have : (m.set (2 * j) x)[2 * i]'(by simpa using h2) = m[2 * i] := by rw [List.getElem_set, if_neg (by omega)]
    rw [this]
    exact ih h3 hj.2
theorem Ch.set_odd {m : List Nat} {t : Nat} {l : List Nat} (h : Ch m t l) (j x : Nat) : Ch (m.set (2 * j + 1) x) t l := by
  induction l generalizing t with
  | nil => exact h
  | cons i l ih =>
    obtain ⟨h1, h2, h3⟩ := h
    refine ⟨h1, by simpa using h2, ?_⟩
    have : (m.set (2 * j + 1) x)[2 * i]'(by simpa using h2) = m[2 * i] := by rw [List.getElem_set, if_neg (by omega)]
    rw [this]
    exact ih h3
theorem Ch.low {m : List Nat} {t t' : Nat} {l : List Nat} (h : Ch m t l) (e : t' % 4294967296 = t % 4294967296) : Ch m t' l := by
  cases l with
  | nil => exact e.trans h
  | cons i l => exact ⟨e.trans h.1, h.2⟩

/-- What lies on a stack: vals, the last one first. -/
structure StkInv (n t0 t1 : Nat) (m : List Nat) (l f vals : List Nat) : Prop where
  c0 : Ch m t0 l
  c1 : Ch m t1 f
  nd : (l ++ f).Nodup
  lt : ∀ i ∈ l ++ f, i < n
  len : (l ++ f).length = n
  vat : ∀ k (h : k < l.length), ∃ (h' : 2 * l[k] + 1 < m.length) (h'' : k < vals.length), m[2 * l[k] + 1] = vals[k]
  vlen : vals.length = l.length
  vlt : ∀ v ∈ vals, v < 18446744073709551616

def AS (S N n : Nat) (vals : List Nat) (w : World) : Prop := ∃ t0 t1 m l f, Stk S N n t0 t1 m w ∧ StkInv n t0 t1 m l f vals

theorem AS.sm {S N n : Nat} {vals : List Nat} {w w' : World} {F : Nat → Prop} (h : AS S N n vals w) (k : Sm F w w') (hS : ¬ F S) (hN : ¬ F N) : AS S N n vals w' := by
  obtain ⟨t0, t1, m, l, f, h1, h2⟩ := h
  exact ⟨t0, t1, m, l, f, { h1 with rS := h1.rS.sm k hS, rN := h1.rN.sm k hN }, h2⟩

theorem AS.le {S N n : Nat} {vals : List Nat} {w : World} (h : AS S N n vals w) : vals.length ≤ n := by
  obtain ⟨t0, t1, m, l, f, h1, h2⟩ := h
  have hl := h2.len
  have hv := h2.vlen
  simp only [List.length_append] at hl
  omega

abbrev two (S N : Nat) : Nat → Prop := fun k => k = S ∨ k = N

theorem push_a {S N n : Nat} (vals : List Nat) (v : Nat) (hv : v < 18446744073709551616) (w : World) (h : AS S N n vals w) (hlt : vals.length < n) :
    Calls Try.prog 13 #[.pointer (some ⟨S, 0, none⟩), .nilIface, .int .u64 v] w fun e w' =>
      e = .returned (.tuple #[.bool true, .int .i64 0]) ∧ AS S N n (v :: vals) w' ∧ Sm (two S N) w w' := by
  obtain ⟨t0, t1, m, l, f, hs, hi⟩ := h
  have hfl := hi.len
  have hvl := hi.vlen
  simp only [List.length_append] at hfl
  match f, hi, hfl with
  | [], hi, hfl => exact absurd hfl (by simp; omega)
  | i :: f, hi, hfl =>
    obtain ⟨h1, h2, h3⟩ := hi.c1
    have hin : i < n := hi.lt i (by simp)
    have hnd := hi.nd
    have hil : i ∉ l := by
      intro hm
      rw [List.nodup_append] at hnd
      exact hnd.2.2 i hm i (by simp) rfl
    have hif : i ∉ f := by
      rw [List.nodup_append] at hnd
      exact (List.nodup_cons.1 hnd.2.1).1
    have hml := hs.len
    have hG := gate_nilX 0 S N (fun w' => Sm (two S N) w w') (fun a b ha hb => ha.trans hb)
    refine (push_ok hG (Nat.zero_le _) (Nat.zero_le _) n t0 t1 i m[2 * i] (t0 % 4294967296) m v hv w [] (by simp) (Sm.refl _ _) hs h1 hin (fun _ => rfl) rfl).mono ?_
    rintro e w' ⟨rfl, hk, -, hs'⟩
    refine ⟨rfl, ⟨_, _, _, i :: l, f, hs', ?_, ?_, ?_, ?_, ?_, ?_, ?_, ?_⟩, hk⟩
    · have e0 : fol t0 (i + 1) % 4294967296 = i + 1 := fol_low t0 (i + 1) (by have := hs.le; omega)
      refine ⟨e0, by simpa using h2, ?_⟩
      have : ((m.set (2 * i + 1) v).set (2 * i) (t0 % 4294967296))[2 * i]'(by simpa using h2) = t0 % 4294967296 := by simp
      rw [this]
      exact ((hi.c0.set_odd i v).set_even i _ hil).low (by omega)
    · have e1 : fol t1 m[2 * i] % 4294967296 = m[2 * i] % 4294967296 := by
        rw [fol_low t1 _ (hs.nx i h2)]
        exact (Nat.mod_eq_of_lt (hs.nx i h2)).symm
      exact ((h3.set_odd i v).set_even i _ hif).low e1
    · have : (l ++ i :: f).Perm (i :: l ++ f) := List.perm_middle
      exact this.nodup hnd
    · intro j hj
      exact hi.lt j (by simp only [List.mem_append, List.mem_cons, List.cons_append] at hj ⊢; rcases hj with h | h | h <;> simp [h])
    · simp; simp at hfl; omega
    · intro k hk
      cases k with
      | zero =>
        refine ⟨by simp; omega, by simp, ?_⟩
        simp only [List.getElem_cons_zero]
        rw [List.getElem_set, if_neg (by omega), List.getElem_set, if_pos rfl]
      | succ k =>
        obtain ⟨g1, g2, g3⟩ := hi.vat k (by simpa using hk)
        refine ⟨by simpa using g1, by simpa using g2, ?_⟩
        simp only [List.getElem_cons_succ]
        have hne : l[k]'(by simpa using hk) ≠ i := fun e => hil (e ▸ List.getElem_mem _)
        rw [List.getElem_set, if_neg (by omega), List.getElem_set, if_neg (by omega), g3]
    · simp [hvl]
    · intro x hx
      simp only [List.mem_cons] at hx
      rcases hx with rfl | hx
      · exact hv
      · exact hi.vlt x hx

theorem push_b {S N n : Nat} (vals : List Nat) (v : Int) (w : World) (h : AS S N n vals w) (hlt : vals.length = n) :
    Calls Try.prog 13 #[.pointer (some ⟨S, 0, none⟩), .nilIface, .int .u64 v] w fun e w' =>
      e = .returned (.tuple #[.bool false, .int .i64 0]) ∧ AS S N n vals w' ∧ Sm (two S N) w w' := by
  obtain ⟨t0, t1, m, l, f, hs, hi⟩ := h
  have hfl := hi.len
  have hvl := hi.vlen
  simp only [List.length_append] at hfl
  have hf : f = [] := List.eq_nil_of_length_eq_zero (by omega)
  subst hf
  have hG := gate_nilX 0 S N (fun w' => Sm (two S N) w w') (fun a b ha hb => ha.trans hb)
  refine (push_full hG n t0 t1 m v w [] (by simp) (Sm.refl _ _) hs hi.c1).mono ?_
  rintro e w' ⟨rfl, hk, -, hs'⟩
  exact ⟨rfl, ⟨_, _, _, l, [], hs', hi⟩, hk⟩

theorem pop_a {S N n : Nat} (vals : List Nat) (v : Nat) (w : World) (h : AS S N n (v :: vals) w) :
    Calls Try.prog 14 #[.pointer (some ⟨S, 0, none⟩), .nilIface] w fun e w' =>
      e = .returned (.tuple #[.int .u64 v, .bool true, .int .i64 0]) ∧ AS S N n vals w' ∧ Sm (two S N) w w' := by
  obtain ⟨t0, t1, m, l, f, hs, hi⟩ := h
  have hfl := hi.len
  have hvl := hi.vlen
  simp only [List.length_append, List.length_cons] at hfl hvl
  match l, hi, hfl, hvl with
  | [], hi, hfl, hvl => exact absurd hvl (by simp)
  | i :: l, hi, hfl, hvl =>
    obtain ⟨h1, h2, h3⟩ := hi.c0
    have hin : i < n := hi.lt i (by simp)
    have hnd := hi.nd
    simp only [List.cons_append, List.nodup_cons, List.mem_append, not_or] at hnd
    obtain ⟨⟨hil, hif⟩, hnd⟩ := hnd
    have hml := hs.len
    obtain ⟨g1, g2, g3⟩ := hi.vat 0 (by simp)
    simp only [List.getElem_cons_zero] at g1 g3
    have hG := gate_nilX 0 S N (fun w' => Sm (two S N) w w') (fun a b ha hb => ha.trans hb)
    refine (pop_ok hG (Nat.zero_le _) (Nat.zero_le _) n t0 t1 i m[2 * i] (t1 % 4294967296) v m w [] (by simp) (Sm.refl _ _) hs h1 hin (fun _ => rfl) (fun _ => g3) rfl).mono ?_
    rintro e w' ⟨rfl, hk, -, hs'⟩
    refine ⟨rfl, ⟨_, _, _, l, i :: f, hs', ?_, ?_, ?_, ?_, ?_, ?_, ?_, ?_⟩, hk⟩
    · have e1 : fol t0 m[2 * i] % 4294967296 = m[2 * i] % 4294967296 := by
        rw [fol_low t0 _ (hs.nx i h2)]
        exact (Nat.mod_eq_of_lt (hs.nx i h2)).symm
      exact (h3.set_even i _ hil).low e1
    · have e0 : fol t1 (i + 1) % 4294967296 = i + 1 := fol_low t1 (i + 1) (by have := hs.le; omega)
      refine ⟨e0, by simpa using h2, ?_⟩
      have : (m.set (2 * i) (t1 % 4294967296))[2 * i]'(by simpa using h2) = t1 % 4294967296 := by simp
      rw [this]
      exact (hi.c1.set_even i _ hif).low (by omega)
    · have : (i :: (l ++ f)).Perm (l ++ i :: f) := List.perm_middle.symm
      exact this.nodup (List.nodup_cons.2 ⟨by simp [hil, hif], hnd⟩)
    · intro j hj
      exact hi.lt j (by simp only [List.mem_append, List.mem_cons, List.cons_append] at hj ⊢; rcases hj with h | h | h <;> simp [h])
    · simp; simp at hfl; omega
    · intro k hk
      obtain ⟨q1, q2, q3⟩ := hi.vat (k + 1) (by simpa using hk)
      simp only [List.getElem_cons_succ] at q1 q2 q3
      refine ⟨by simpa using q1, by simpa using q2, ?_⟩
      rw [List.getElem_set, if_neg (by omega), q3]
    · simpa using hvl
    · exact fun x hx => hi.vlt x (by simp [hx])

theorem pop_b {S N n : Nat} (w : World) (h : AS S N n [] w) :
    Calls Try.prog 14 #[.pointer (some ⟨S, 0, none⟩), .nilIface] w fun e w' =>
      e = .returned (.tuple #[.int .u64 0, .bool false, .int .i64 0]) ∧ AS S N n [] w' ∧ Sm (two S N) w w' := by
  obtain ⟨t0, t1, m, l, f, hs, hi⟩ := h
  have hvl := hi.vlen
  have hl : l = [] := List.eq_nil_of_length_eq_zero (by simpa using hvl.symm)
  subst hl
  have hG := gate_nilX 0 S N (fun w' => Sm (two S N) w w') (fun a b ha hb => ha.trans hb)
  refine (pop_empty hG n t0 t1 m w [] (by simp) (Sm.refl _ _) hs hi.c0).mono ?_
  rintro e w' ⟨rfl, hk, -, hs'⟩
  exact ⟨rfl, ⟨_, _, _, [], f, hs', hi⟩, hk⟩

theorem new_a (n : Nat) (hn0 : 0 < n) (hn : n ≤ 1024) (hb : bits .and .i64 (n : Int) ((n : Int) - 1) = 0) (w : World) :
    Calls Try.prog 12 #[.int .i64 n] w fun e w' =>
      e = .returned (.tuple #[.pointer (some ⟨w.heap.size + 1, 0, none⟩), .int .i64 0]) ∧ Sm (fun _ => False) w w' ∧ AS (w.heap.size + 1) w.heap.size n [] w' := by
  refine (new_ok n hn0 hn hb w).mono ?_
  rintro e w' ⟨rfl, hb, hs⟩
  refine ⟨rfl, ⟨hb.os, hb.tape, hb.output, hb.size, fun k hk _ => hb.block k hk⟩, _, _, _, [], List.range n, hs, ?_, ?_, ?_, ?_, ?_, ?_, ?_, ?_⟩
  · rfl
  · have key : ∀ d k, k + d = n → ∀ t, t % 4294967296 = (if k < n then k + 1 else 0) → Ch (memK n (n - 1)) t ((List.range n).drop k) := by
      intro d
      induction d with
      | zero =>
        intro k hk t ht
        rw [List.drop_of_length_le (by simp; omega)]
        rw [if_neg (by omega)] at ht
        exact ht
      | succ d ih =>
        intro k hk t ht
        rw [if_pos (by omega)] at ht
        rw [List.drop_eq_getElem_cons (by simp; omega)]
        simp only [List.getElem_range]
        refine ⟨ht, by rw [memK_len]; omega, ih (k + 1) (by omega) _ ?_⟩
        rw [memK_get]
        split <;> split <;> omega
    have := key n 0 (by omega) 1 (by rw [if_pos hn0])
    simpa using this
  · simpa using List.nodup_range
  · simp
  · simp
  · intro k h; exact absurd h (by simp)
  · rfl
  · simp
end Go.Proofs.Ytmcffabfghhpaaa
/- patchbayref00.Within, walked alone. -/
namespace Go.Proofs.Ytmcffabfghhpaaa
open Go.RowKit
set_option linter.unusedVariables false

/-- The number from 0 to n - 1 that Within gives. -/
def wi (i n : Int) : Nat := (if i.tmod n < 0 then i.tmod n + n else i.tmod n).toNat
theorem wi_lt (i n : Int) (h0 : 0 < n) : (wi i n : Int) < n := by
  unfold wi
  have h1 : -n < i.tmod n := by have := Int.lt_tmod_of_pos i h0; omega
  have h2 := Int.tmod_lt_of_pos i h0
  split <;> omega

theorem within_c (i n : Int) (h0 : 0 < n) (h1 : n < 1000000) (w : World) :
    Calls Try.prog 11 #[.int .i64 i, .int .i64 n] w fun e w' => e = .returned (.int .i64 (wi i n)) ∧ w = w' := by
  have hb : -n < i.tmod n ∧ i.tmod n < n := by
    constructor
    · have := Int.lt_tmod_of_pos i h0; omega
    · exact Int.tmod_lt_of_pos i h0
  obtain ⟨hb1, hb2⟩ := hb
  have hn : (n == 0) = false := by simp; omega
  have hw : (wi i n : Int) = if i.tmod n < 0 then i.tmod n + n else i.tmod n := by
    unfold wi
    split <;> omega
  have HW := Lib.hid hw
  clear hw
  go_enter Try.func11, Try.ntmps11
  go_wp2
  · have h : i.tmod n < 0 := by assumption
    go_ret
    exact ⟨by rw [HW.out, if_pos h]; rfl, rfl⟩
  · have h : 0 ≤ i.tmod n := by assumption
    go_ret
    exact ⟨by rw [HW.out, if_neg (by omega)]; rfl, rfl⟩
end Go.Proofs.Ytmcffabfghhpaaa
/- The walk of patchbaylaw08.StackAlone. -/
namespace Go.Proofs.Ytmcffabfghhpaaa
open Go.RowKit
set_option linter.unusedVariables false

def u64s (L : List Nat) : List Value := L.map fun (x : Nat) => Value.int .u64 (x : Int)
theorem u64s_len (L : List Nat) : (u64s L).length = L.length := by simp [u64s]
theorem u64s_snoc (L : List Nat) (v : Nat) : u64s (L ++ [v]) = u64s L ++ [.int .u64 (v : Int)] := by simp [u64s]
theorem own_pop {w : World} {base : Nat} {e : TypeId} {g cap m : Nat} {xs : List Value} {x : Value} (h : w.ownsRow base e 1 (.slice (some ⟨g, 0, none⟩) (m + 1) cap) (m + 1) (xs ++ [x])) :
    w.ownsRow base e 1 (.slice (some ⟨g, 0, none⟩) m cap) m xs := by
  obtain ⟨h1, h2⟩ := h
  have hx : xs.length = m := by simpa using h1
  refine ⟨by omega, ?_⟩
  rcases h2 with ⟨h2, _⟩ | ⟨g', cap', cur, hv, hg, hh, hn, hc, hsz, ht⟩
  · cases h2
  · cases hv
    refine .inr ⟨g, cap, cur, rfl, hg, hh, by omega, hc, hsz, ?_⟩
    have : cur.toList.take (m * 1) = (cur.toList.take ((m + 1) * 1)).take m := by rw [List.take_take]; congr 1; omega
    rw [this, ht, List.take_append_of_le_length (by omega), List.take_of_length_le (by omega)]

theorem info_u64 : (Try.prog.info? 30).map (fun i => (i.zero, i.size, i.bytes)) = some (some (.int .u64 0), 1, 8) := by kernel_rfl

theorem pow_slots (k : Nat) (hk : k < 7) : ∃ n : Nat, 0 < n ∧ n ≤ 1024 ∧ bits .and .i64 (n : Int) ((n : Int) - 1) = 0 ∧ wrap64 (2 ^ k) = (n : Int) := by
  have : k = 0 ∨ k = 1 ∨ k = 2 ∨ k = 3 ∨ k = 4 ∨ k = 5 ∨ k = 6 := by omega
  rcases this with rfl | rfl | rfl | rfl | rfl | rfl | rfl
  · exact ⟨1, by decide, by decide, by decide, by unfold wrap64; decide⟩
  · exact ⟨2, by decide, by decide, by decide, by unfold wrap64; decide⟩
  · exact ⟨4, by decide, by decide, by decide, by unfold wrap64; decide⟩
  · exact ⟨8, by decide, by decide, by decide, by unfold wrap64; decide⟩
  · exact ⟨16, by decide, by decide, by decide, by unfold wrap64; decide⟩
  · exact ⟨32, by decide, by decide, by decide, by unfold wrap64; decide⟩
  · exact ⟨64, by decide, by decide, by decide, by unfold wrap64; decide⟩

set_option maxRecDepth 100000 in
set_option maxHeartbeats 1600000 in
theorem alone_w (aw an : Option Addr) (lw cw ln cn : Nat) (bs : Nat → Bool) (ns : Nat → Nat) (bits : Int) (W : World)
    (hw : ∀ j, j < lw → ∃ b off, aw = some ⟨b, off, none⟩ ∧ b < W.heap.size ∧ W.cell? ⟨b, off + j, none⟩ = some (.bool (bs j)))
    (hn : ∀ j, j < ln → ∃ b off, an = some ⟨b, off, none⟩ ∧ b < W.heap.size ∧ W.cell? ⟨b, off + j, none⟩ = some (.int .u64 (ns j : Int)))
    (hns : ∀ j, j < ln → ns j < 18446744073709551616) (hlw : lw ≤ 9223372036854775807) (hln : ln ≤ 9223372036854775807) :
    Calls Try.prog 3 #[.slice aw lw cw, .slice an ln cn, .int .i64 bits] W fun e w => e = .returned (.bool true) ∧ Below W.heap.size W w := by
  obtain ⟨i0, hi, hz0, hz1, hz2⟩ := info_parts info_u64
  have Hi := Lib.hid hi
  have Hz0 := Lib.hid hz0
  have Hz1 := Lib.hid hz1
  have Hz2 := Lib.hid hz2
  clear hi hz0 hz1 hz2
  have HW := Lib.hid hw
  have HN := Lib.hid hn
  have HNS := Lib.hid hns
  clear hw hn hns
  go_enter Try.func3, Try.ntmps3
  go_wp2_with fail
  refine (awake_c W).mono ?_
  rintro e w0 ⟨rfl, hs0⟩
  have HS0 := Lib.hid hs0
  clear hs0
  go_wp2_with fail
  refine (within_c bits 5 (by decide) (by decide) _).mono ?_
  rintro e w0 ⟨rfl, rfl⟩
  have hk : wi bits 5 < 5 := by have := wi_lt bits 5 (by decide); omega
  generalize wi bits 5 = k at *
  obtain ⟨n, hn0, hn1, hbp, hwr⟩ := pow_slots k (by omega)
  have HBP := Lib.hid hbp
  clear hbp
  go_wp2_with fail
  refine (new_a n hn0 hn1 HBP.out w0).mono ?_
  rintro e w1 ⟨rfl, hs1, ha1⟩
  have ha1' := Lib.hid ha1
  have hz1 : w0.heap.size + 1 < w1.heap.size := by
    obtain ⟨_, _, _, _, _, h, _⟩ := ha1
    exact h.rS.lt
  clear ha1
  obtain ⟨S, hS⟩ : ∃ S, S = w0.heap.size + 1 := ⟨_, rfl⟩
  obtain ⟨N, hN⟩ : ∃ N, N = w0.heap.size := ⟨_, rfl⟩
  rw [← hS, ← hN] at ha1'
  rw [← hS] at hz1
  rw [← hS]
  have HSS := Lib.hid hS
  have HNN := Lib.hid hN
  clear hS hN
  have HT : Hid (two S N = fun k => k = S ∨ k = N) := rfl
  have hbase : S < w1.heap.size ∧ N < w1.heap.size := ⟨by omega, by rw [HNN.out]; rw [HSS.out] at hz1; omega⟩
  obtain ⟨hSb, hNb⟩ := hbase
  obtain ⟨B, hB⟩ : ∃ B, B = w1.heap.size := ⟨_, rfl⟩
  rw [← hB] at hSb hNb
  have HB := Lib.hid hB
  clear hB hz1
  have hW0 : Below W.heap.size W w1 := (HS0.out.trans hs1).below (Nat.le_refl _) (fun _ h => h.elim)
  have hWB : W.heap.size ≤ N ∧ W.heap.size ≤ S := by
    have := HS0.out.size
    rw [HNN.out, HSS.out]
    omega
  obtain ⟨hWN, hWS⟩ := hWB
  have hBle : B ≤ w1.heap.size := by rw [HB.out]; omega
  go_wp2
  go_loopw [10, 11] (fun s10 s11 wr => ∃ (i : Nat) (L : List Nat), i ≤ lw ∧ i ≤ 200 ∧ s11 = .int .i64 i ∧ AS S N n L.reverse wr ∧ (∀ x ∈ L, x < 18446744073709551616) ∧ wr.ownsRow B 30 1 s10 L.length (u64s L) ∧ L.length ≤ i ∧ Below W.heap.size W wr ∧ B ≤ wr.heap.size) (fun _ s11 _ => 200 - (intOf s11).toNat)
  case atStart => exact ⟨0, [], by omega, by omega, rfl, ha1'.out, by simp, World.ownsRow_nil _ _ _ _, by simp, hW0, hBle⟩
  case round =>
    obtain ⟨i, L, hi1, hi2, rfl, hAS, hLv, hown, hLi, hbel, hBr⟩ := hrel
    obtain ⟨a10, c10, hu10⟩ := own_form0 hown
    subst hu10
    by_cases hlt : i < lw ∧ i < 200
    · obtain ⟨hlt1, hlt2⟩ := hlt
      obtain ⟨bw, ow, haw, hbw, hcw⟩ := HW.out i hlt1
      subst haw
      have hcw' : wr.cell? ⟨bw, ow + i, none⟩ = some (.bool (bs i)) := (hbel.cell (p := ⟨bw, ow + i, none⟩) hbw).trans hcw
      have j1 : (i : Int) < (lw : Int) := by omega
      have j2 : (i : Int) < 200 := by omega
      have HAS := Lib.hid hAS
      have HOWN := Lib.hid hown
      have HLV := Lib.hid hLv
      clear hAS hown hLv hcw
      cases hbi : bs i with
      | true =>
        rw [hbi] at hcw'
        clear hbi
        have hv : ∃ v : Nat, v < 18446744073709551616 ∧ ((i < ln ∧ ∃ bn on, an = some ⟨bn, on, none⟩ ∧ wr.cell? ⟨bn, on + i, none⟩ = some (.int .u64 (v : Int))) ∨ (¬ i < ln ∧ i = v)) := by
          by_cases hin : i < ln
          · obtain ⟨bn, on, e1, hbn, hcn⟩ := HN.out i hin
            exact ⟨ns i, HNS.out i hin, .inl ⟨hin, bn, on, e1, (hbel.cell (p := ⟨bn, on + i, none⟩) hbn).trans hcn⟩⟩
          · exact ⟨i, by omega, .inr ⟨hin, rfl⟩⟩
        obtain ⟨v, hv1, hv2⟩ := hv
        by_cases hfull : L.length < n
        · have P := Lib.hid (push_a (S := S) (N := N) L.reverse v hv1 wr HAS.out (by simpa using hfull))
          have hf1 : (L.length : Int) < (n : Int) := by omega
          rcases hv2 with ⟨hin, bn, on, hvn, hcn⟩ | ⟨hin, rfl⟩
          · subst hvn
            have j3 : (i : Int) < (ln : Int) := by omega
            go_wp2_with fail
            refine P.out.mono ?_
            rintro e w3 ⟨rfl, hAS3, hs3⟩
            have HAS3 := Lib.hid hAS3
            have HOWN3 := Lib.hid (own_sm HOWN.out hs3 (fun b hb hf => by rcases hf with rfl | rfl <;> omega))
            have hB3 : B ≤ w3.heap.size := Nat.le_trans hBr hs3.size
            have hbel3 : Below W.heap.size W w3 := hbel.trans (hs3.below (by have := hbel.size; omega) (fun k hk => by rcases hk with rfl | rfl <;> omega))
            clear hAS3 hs3
            go_wp2_with (at_builtin; refine wpList_append_own _ rfl (.tmp 82) (.tmp 84) 23 rfl B 30 i0 (.int .u64 0) 1 8 Try.underlying23 Hi.out Hz0.out Hz1.out Hz2.out rfl (by decide) _ L.length (u64s L) rfl (HOWN3.out.alloc _) ⟨w3.heap.size, 0, none⟩ 1 1 [.int .u64 (v : Int)] rfl rfl (new_cells w3 [.int .u64 (v : Int)] 30) (by simp [Value.oneCell']) (by unfold maxLen; omega) (by omega) (by simp; omega) ?_; intro v' w4 hown4 hg4 _)
            have hs4 : Sm (fun k => B ≤ k) w3 w4 := ((Sm.refl _ w3).alloc _).trans (sm_grown hg4 fun k e => (HOWN3.out.lt k e).1)
            have HAS4 := Lib.hid (HAS3.out.sm hs4 (by omega) (by omega))
            have hbel4 : Below W.heap.size W w4 := hbel3.trans (hs4.below (by have := hbel3.size; omega) (fun k hk => by omega))
            have hB4 : B ≤ w4.heap.size := Nat.le_trans hB3 hs4.size
            have HOWN4 := Lib.hid hown4
            clear hown4 hg4 hs4
            go_wp2
            go_roundw
            case rel =>
              refine ⟨i + 1, L ++ [v], by omega, by omega, by go_num, ?_, ?_, ?_, by simp; omega, hbel4, hB4⟩
              · simpa using HAS4.out
              · intro x hx
                simp only [List.mem_append, List.mem_singleton] at hx
                rcases hx with hx | rfl
                · exact HLV.out x hx
                · exact hv1
              · rw [u64s_snoc, List.length_append]
                exact HOWN4.out
            case measure => simp [intOf] <;> omega
          · have j3 : ¬ (i : Int) < (ln : Int) := by omega
            go_wp2_with fail
            refine P.out.mono ?_
            rintro e w3 ⟨rfl, hAS3, hs3⟩
            have HAS3 := Lib.hid hAS3
            have HOWN3 := Lib.hid (own_sm HOWN.out hs3 (fun b hb hf => by rcases hf with rfl | rfl <;> omega))
            have hB3 : B ≤ w3.heap.size := Nat.le_trans hBr hs3.size
            have hbel3 : Below W.heap.size W w3 := hbel.trans (hs3.below (by have := hbel.size; omega) (fun k hk => by rcases hk with rfl | rfl <;> omega))
            clear hAS3 hs3
            go_wp2_with (at_builtin; refine wpList_append_own _ rfl (.tmp 82) (.tmp 84) 23 rfl B 30 i0 (.int .u64 0) 1 8 Try.underlying23 Hi.out Hz0.out Hz1.out Hz2.out rfl (by decide) _ L.length (u64s L) rfl (HOWN3.out.alloc _) ⟨w3.heap.size, 0, none⟩ 1 1 [.int .u64 (i : Int)] rfl rfl (new_cells w3 [.int .u64 (i : Int)] 30) (by simp [Value.oneCell']) (by unfold maxLen; omega) (by omega) (by simp; omega) ?_; intro v' w4 hown4 hg4 _)
            have hs4 : Sm (fun k => B ≤ k) w3 w4 := ((Sm.refl _ w3).alloc _).trans (sm_grown hg4 fun k e => (HOWN3.out.lt k e).1)
            have HAS4 := Lib.hid (HAS3.out.sm hs4 (by omega) (by omega))
            have hbel4 : Below W.heap.size W w4 := hbel3.trans (hs4.below (by have := hbel3.size; omega) (fun k hk => by omega))
            have hB4 : B ≤ w4.heap.size := Nat.le_trans hB3 hs4.size
            have HOWN4 := Lib.hid hown4
            clear hown4 hg4 hs4
            go_wp2
            go_roundw
            case rel =>
              refine ⟨i + 1, L ++ [i], by omega, by omega, by go_num, ?_, ?_, ?_, by simp; omega, hbel4, hB4⟩
              · simpa using HAS4.out
              · intro x hx
                simp only [List.mem_append, List.mem_singleton] at hx
                rcases hx with hx | rfl
                · exact HLV.out x hx
                · exact hv1
              · rw [u64s_snoc, List.length_append]
                exact HOWN4.out
            case measure => simp [intOf] <;> omega
        · have hfe : L.length = n := by have := AS.le HAS.out; simp at this; omega
          have P := Lib.hid (push_b (S := S) (N := N) L.reverse (v : Int) wr HAS.out (by simpa using hfe))
          have hf1 : ¬ (L.length : Int) < (n : Int) := by omega
          clear hfe
          rcases hv2 with ⟨hin, bn, on, hvn, hcn⟩ | ⟨hin, rfl⟩
          · subst hvn
            have j3 : (i : Int) < (ln : Int) := by omega
            go_wp2_with fail
            refine P.out.mono ?_
            rintro e w3 ⟨rfl, hAS3, hs3⟩
            have HAS3 := Lib.hid hAS3
            have HOWN3 := Lib.hid (own_sm HOWN.out hs3 (fun b hb hf => by rcases hf with rfl | rfl <;> omega))
            have hB3 : B ≤ w3.heap.size := Nat.le_trans hBr hs3.size
            have hbel3 : Below W.heap.size W w3 := hbel.trans (hs3.below (by have := hbel.size; omega) (fun k hk => by rcases hk with rfl | rfl <;> omega))
            clear hAS3 hs3
            go_wp2
            go_roundw
            case rel => exact ⟨i + 1, L, by omega, by omega, by go_num, HAS3.out, HLV.out, HOWN3.out, by omega, hbel3, hB3⟩
            case measure => simp [intOf] <;> omega
          · have j3 : ¬ (i : Int) < (ln : Int) := by omega
            go_wp2_with fail
            refine P.out.mono ?_
            rintro e w3 ⟨rfl, hAS3, hs3⟩
            have HAS3 := Lib.hid hAS3
            have HOWN3 := Lib.hid (own_sm HOWN.out hs3 (fun b hb hf => by rcases hf with rfl | rfl <;> omega))
            have hB3 : B ≤ w3.heap.size := Nat.le_trans hBr hs3.size
            have hbel3 : Below W.heap.size W w3 := hbel.trans (hs3.below (by have := hbel.size; omega) (fun k hk => by rcases hk with rfl | rfl <;> omega))
            clear hAS3 hs3
            go_wp2
            go_roundw
            case rel => exact ⟨i + 1, L, by omega, by omega, by go_num, HAS3.out, HLV.out, HOWN3.out, by omega, hbel3, hB3⟩
            case measure => simp [intOf] <;> omega
      | false =>
        rw [hbi] at hcw'
        clear hbi
        have hcat : L = [] ∨ ∃ L' v, L = L' ++ [v] := by simpa [List.concat_eq_append] using List.eq_nil_or_concat L
        rcases hcat with rfl | ⟨L', v, rfl⟩
        · have P := Lib.hid (pop_b (S := S) (N := N) (n := n) wr HAS.out)
          go_wp2_with fail
          refine P.out.mono ?_
          rintro e w3 ⟨rfl, hAS3, hs3⟩
          have HAS3 := Lib.hid hAS3
          have HOWN3 := Lib.hid (own_sm HOWN.out hs3 (fun b hb hf => by rcases hf with rfl | rfl <;> omega))
          have hB3 : B ≤ w3.heap.size := Nat.le_trans hBr hs3.size
          have hbel3 : Below W.heap.size W w3 := hbel.trans (hs3.below (by have := hbel.size; omega) (fun k hk => by rcases hk with rfl | rfl <;> omega))
          clear hAS3 hs3
          go_wp2
          go_roundw
          case rel => exact ⟨i + 1, [], by omega, by omega, by go_num, HAS3.out, by simp, HOWN3.out, by simp, hbel3, hB3⟩
          case measure => simp [intOf]; omega
        · have P := Lib.hid (pop_a (S := S) (N := N) (n := n) L'.reverse v wr (by simpa using HAS.out))
          obtain ⟨m, hm⟩ : ∃ m, m = L'.length := ⟨_, rfl⟩
          have hlen : (L' ++ [v]).length = m + 1 := by rw [hm]; simp
          rw [hlen]
          rw [hlen] at hLi
          have hO := HOWN.out
          rw [hlen, u64s_snoc] at hO
          obtain ⟨g, c', hf⟩ := own_form hO (by omega)
          simp only [Value.slice.injEq] at hf
          obtain ⟨rfl, -, -⟩ := hf
          have hcap : m + 1 ≤ c10 := own_cap hO
          have HO := Lib.hid hO
          have HM := Lib.hid hm
          clear hO HOWN hlen hm
          go_wp2_with fail
          refine P.out.mono ?_
          rintro e w3 ⟨rfl, hAS3, hs3⟩
          have HAS3 := Lib.hid hAS3
          have HO3 := Lib.hid (own_sm HO.out hs3 (fun b hb hf => by rcases hf with rfl | rfl <;> omega))
          have hB3 : B ≤ w3.heap.size := Nat.le_trans hBr hs3.size
          have hbel3 : Below W.heap.size W w3 := hbel.trans (hs3.below (by have := hbel.size; omega) (fun k hk => by rcases hk with rfl | rfl <;> omega))
          have hc3 : w3.cell? ⟨g, m, none⟩ = some (.int .u64 (v : Int)) := by
            rw [HO3.out.cellAt m (by omega), HM.out]
            have e : (u64s L').length = L'.length := u64s_len L'
            rw [List.getElem?_append_right (by omega), e]
            simp
          have hpos : (0 : Int) < (m : Int) + 1 := by omega
          clear hAS3 hs3
          go_wp2
          go_roundw
          case rel => exact ⟨i + 1, L', by omega, by omega, by go_num, HAS3.out, fun x hx => HLV.out x (by simp [hx]), by rw [← HM.out]; exact own_pop HO3.out, by rw [← HM.out]; omega, hbel3, hB3⟩
          case measure => simp [intOf]; omega
    · have hge : ¬ ((i : Int) < (lw : Int) ∧ (i : Int) < 200) := by omega
      have HGE := Lib.hid hge
      have hAS2 := Lib.hid hAS
      have HOWN := Lib.hid hown
      clear hge hAS hown hLv
      have hdec : (lw : Int) ≤ (i : Int) ∨ ((i : Int) < (lw : Int) ∧ (200 : Int) ≤ (i : Int)) := by omega
      clear hlt
      rcases hdec with hd | ⟨hd, hd2⟩
      all_goals
        go_wp2
        go_loopw [18] (fun s18 wx => ∃ (q : Nat) (z : Int), q ≤ L.length ∧ z + 1 = (q : Int) ∧ s18 = .int .i64 z ∧ Hid (AS S N n (L.take q).reverse wx) ∧ Hid (wx.ownsRow B 30 1 (.slice a10 L.length c10) L.length (u64s L)) ∧ Below W.heap.size W wx ∧ B ≤ wx.heap.size) (fun s18 _ => (intOf s18 + 1).toNat)
        case atStart => exact ⟨L.length, _, Nat.le_refl _, by omega, rfl, Lib.hid (by rw [List.take_length]; exact hAS2.out), HOWN, hbel, hBr⟩
        case round =>
          rename_i wx _
          obtain ⟨q, z, hq, hz, rfl, hAS3, hO3, hbel3, hB3⟩ := hrel
          cases q with
          | zero =>
            have hz' : z < 0 := by omega
            have P := Lib.hid (pop_b (S := S) (N := N) (n := n) _ (by simpa using hAS3.out))
            have HZ := Lib.hid hz
            clear hz
            go_wp2_with fail
            refine P.out.mono ?_
            rintro e w4 ⟨rfl, hAS4, hs4⟩
            have hbel4 : Below W.heap.size W w4 := hbel3.trans (hs4.below (by have := hbel3.size; omega) (fun k hk => by rcases hk with rfl | rfl <;> omega))
            clear hAS4 hs4
            go_wp2
            go_ret
            exact ⟨rfl, hbel4⟩
          | succ q =>
            obtain rfl : z = (q : Int) := by omega
            have hqL : q < L.length := by omega
            have hrev : (L.take (q + 1)).reverse = L[q] :: (L.take q).reverse := by
              rw [List.take_succ_eq_append_getElem hqL]; simp
            have P := Lib.hid (pop_a (S := S) (N := N) (n := n) (L.take q).reverse L[q] _ (by rw [← hrev]; exact hAS3.out))
            obtain ⟨g, c', hf⟩ := own_form hO3.out (by omega)
            simp only [Value.slice.injEq] at hf
            obtain ⟨rfl, -, -⟩ := hf
            obtain ⟨v, hv⟩ : ∃ v, v = L[q] := ⟨_, rfl⟩
            rw [← hv] at P
            have HV := Lib.hid hv
            have HZ := Lib.hid hz
            clear hz hrev hv
            go_wp2_with fail
            refine P.out.mono ?_
            rintro e w4 ⟨rfl, hAS4, hs4⟩
            have HAS4 := Lib.hid hAS4
            have HO4 := Lib.hid (own_sm hO3.out hs4 (fun b hb hf => by rcases hf with rfl | rfl <;> omega))
            have hB4 : B ≤ w4.heap.size := Nat.le_trans hB3 hs4.size
            have hbel4 : Below W.heap.size W w4 := hbel3.trans (hs4.below (by have := hbel3.size; omega) (fun k hk => by rcases hk with rfl | rfl <;> omega))
            have hc4 : w4.cell? ⟨g, q, none⟩ = some (.int .u64 (v : Int)) := by
              rw [HO4.out.cellAt q (by omega), HV.out]
              simp [u64s, hqL]
            have j4 : (q : Int) < (L.length : Int) := by omega
            clear hAS4 hs4
            go_wp2
            go_roundw
            case rel => exact ⟨q, (q : Int) - 1, by omega, by omega, rfl, HAS4, HO4, hbel4, hB4⟩
            case measure => simp [intOf] <;> omega
end Go.Proofs.Ytmcffabfghhpaaa
/- The walk of patchbaylaw08.StackNews. -/
namespace Go.Proofs.Ytmcffabfghhpaaa
open Go.RowKit
set_option linter.unusedVariables false

def mayF (s : Int) : Nat → Bool
  | 0 => false
  | j + 1 => mayF s j || (s == ((2 ^ j : Nat) : Int))

theorem mayF_of (s : Int) (j k : Nat) (h : k < j) (e : s = ((2 ^ k : Nat) : Int)) : mayF s j = true := by
  induction j with
  | zero => omega
  | succ j ih =>
    by_cases hk : k = j
    · subst hk; simp [mayF, e]
    · simp [mayF, ih (by omega)]
theorem mayF_pow (s : Int) (j : Nat) (h : mayF s j = true) : ∃ k, k < j ∧ s = ((2 ^ k : Nat) : Int) := by
  induction j with
  | zero => simp [mayF] at h
  | succ j ih =>
    simp only [mayF, Bool.or_eq_true, beq_iff_eq] at h
    rcases h with h | h
    · obtain ⟨k, h1, h2⟩ := ih h
      exact ⟨k, by omega, h2⟩
    · exact ⟨j, by omega, h⟩

theorem bits_not : ∀ s : Fin 1025, 0 < s.val → mayF (s.val : Int) 11 = false → (bits .and .i64 (s.val : Int) ((s.val : Int) - 1) != 0) = true := by decide +kernel

set_option maxRecDepth 100000 in
theorem new_err (s : Int) (hs : mayF s 11 = false) (w : World) :
    Calls Try.prog 12 #[.int .i64 s] w fun e w' => e = .returned (.tuple #[.pointer none, .int .i64 2]) ∧ w = w' := by
  by_cases h1 : s < 1
  · go_enter Try.func12, Try.ntmps12
    go_wp2
    go_ret2
    exact ⟨rfl, rfl⟩
  · by_cases h2 : 1024 < s
    · clear hs
      go_enter Try.func12, Try.ntmps12
      go_wp2
      go_ret2
      exact ⟨rfl, rfl⟩
    · have hb : (bits .and .i64 s (s - 1) != 0) = true := by
        have := bits_not ⟨s.toNat, by omega⟩ (by show 0 < s.toNat; omega)
        simp only [Int.toNat_of_nonneg (show 0 ≤ s by omega)] at this
        exact this hs
      clear hs
      go_enter Try.func12, Try.ntmps12
      go_wp2
      go_ret2
      exact ⟨rfl, rfl⟩
/-- The loop that looks for a power of two, on the way of a refused number. -/
theorem pow2_le (j : Nat) (h : j ≤ 10) : 2 ^ j ≤ 1024 := Nat.pow_le_pow_right (n := 2) (j := 10) (by decide) h
theorem pow2_ge (j : Nat) (h : 11 ≤ j) (h' : j ≤ 11) : 2 ^ j = 2048 := by
  have : j = 11 := by omega
  subst this; rfl

set_option maxRecDepth 100000 in
set_option maxHeartbeats 1600000 in
theorem news_bad (s : Int) (hs : mayF s 11 = false) (W : World) :
    Calls Try.prog 4 #[.int .i64 s] W fun e w => e = .returned (.bool true) ∧ Below W.heap.size W w := by
  have HE := Lib.hid (new_err s hs W)
  have HS := Lib.hid hs
  clear hs
  go_enter Try.func4, Try.ntmps4
  go_wp2_with fail
  refine HE.out.mono ?_
  rintro e W' ⟨rfl, rfl⟩
  go_wp2
  go_loop [5, 6] (fun s5 s6 => ∃ j : Nat, j ≤ 11 ∧ s6 = .int .i64 ((2 ^ j : Nat) : Int) ∧ s5 = .bool false) (fun _ s6 => 2049 - (intOf s6).toNat)
  case atStart => exact ⟨0, by omega, rfl, rfl⟩
  case round =>
    obtain ⟨j, hj, rfl, rfl⟩ := hrel
    by_cases hlt : j ≤ 10
    · have h1 : 2 ^ j ≤ 1024 := pow2_le j hlt
      have h0 : 0 < 2 ^ j := Nat.two_pow_pos j
      have hne : (s == ((2 ^ j : Nat) : Int)) = false := by
        cases h : (s == ((2 ^ j : Nat) : Int)) with
        | false => rfl
        | true => exact absurd (mayF_of s 11 j (by omega) (by simpa using h)) (by rw [HS.out]; simp)
      have hp : 2 ^ (j + 1) = 2 * 2 ^ j := by rw [Nat.pow_succ]; omega
      generalize 2 ^ j = q at *
      have HP := Lib.hid hp
      clear hp
      go_wp2
      go_round
      case rel => exact ⟨j + 1, by omega, by rw [HP.out]; go_num, rfl⟩
      case measure => simp [intOf]; omega
    · have h1 : 2 ^ j = 2048 := pow2_ge j (by omega) hj
      have h2 : ¬ ((2 ^ j : Nat) : Int) ≤ 1024 := by omega
      generalize 2 ^ j = q at *
      clear h1
      go_wp2_with (go_at_call 10; refine (awake_c _).mono ?_; rintro e w' ⟨rfl, hw⟩; have HW := Lib.hid hw; clear hw)
      go_ret
      exact ⟨rfl, (HW.out).below (Nat.le_refl _) (fun _ h => h.elim)⟩
theorem bits_pow (k : Nat) (hk : k < 11) : bits .and .i64 ((2 ^ k : Nat) : Int) (((2 ^ k : Nat) : Int) - 1) = 0 := by
  have : k = 0 ∨ k = 1 ∨ k = 2 ∨ k = 3 ∨ k = 4 ∨ k = 5 ∨ k = 6 ∨ k = 7 ∨ k = 8 ∨ k = 9 ∨ k = 10 := by omega
  rcases this with rfl | rfl | rfl | rfl | rfl | rfl | rfl | rfl | rfl | rfl | rfl <;> decide

theorem range_rev (q : Nat) : (List.range (q + 1)).reverse = q :: (List.range q).reverse := by rw [List.range_succ]; simp

set_option maxRecDepth 100000 in
set_option maxHeartbeats 3200000 in
theorem news_good (k0 : Nat) (hk0 : k0 < 11) (W : World) :
    Calls Try.prog 4 #[.int .i64 ((2 ^ k0 : Nat) : Int)] W fun e w => e = .returned (.bool true) ∧ Below W.heap.size W w := by
  have HB := Lib.hid (bits_pow k0 hk0)
  have hn0 : 0 < 2 ^ k0 := Nat.two_pow_pos k0
  have hn1 : 2 ^ k0 ≤ 1024 := pow2_le k0 (by omega)
  have hmay : ∀ j, mayF ((2 ^ k0 : Nat) : Int) j = decide (k0 < j) := by
    intro j
    by_cases h : k0 < j
    · rw [mayF_of _ j k0 h rfl]; simp [h]
    · have : mayF ((2 ^ k0 : Nat) : Int) j = false := by
        cases hm : mayF ((2 ^ k0 : Nat) : Int) j with
        | false => rfl
        | true =>
          obtain ⟨k, h1, h2⟩ := mayF_pow _ j hm
          have : 2 ^ k0 = 2 ^ k := by omega
          rcases Nat.lt_trichotomy k0 k with h3 | h3 | h3
          · have := Nat.pow_lt_pow_right (a := 2) (by decide) h3; omega
          · omega
          · have := Nat.pow_lt_pow_right (a := 2) (by decide) h3; omega
      rw [this]; simp [h]
  generalize hn : 2 ^ k0 = n at *
  clear hn
  have HMAY := Lib.hid hmay
  have HNEW := Lib.hid (new_a n hn0 hn1 HB.out W)
  clear hmay
  go_enter Try.func4, Try.ntmps4
  go_wp2_with fail
  refine HNEW.out.mono ?_
  rintro e w1 ⟨rfl, hs1, ha1⟩
  have ha1' := Lib.hid ha1
  have hz1 : W.heap.size + 1 < w1.heap.size := by
    obtain ⟨_, _, _, _, _, h, _⟩ := ha1
    exact h.rS.lt
  clear ha1
  obtain ⟨S, hS⟩ : ∃ S, S = W.heap.size + 1 := ⟨_, rfl⟩
  obtain ⟨N, hN⟩ : ∃ N, N = W.heap.size := ⟨_, rfl⟩
  rw [← hS, ← hN] at ha1'
  rw [← hS]
  have hWS : W.heap.size ≤ S ∧ W.heap.size ≤ N := by omega
  obtain ⟨hWS1, hWN1⟩ := hWS
  have HSS := Lib.hid hS
  have HNN := Lib.hid hN
  have hbel1 : Below W.heap.size W w1 := hs1.below (Nat.le_refl _) (fun _ h => h.elim)
  clear hS hN hs1
  go_wp2
  go_loop [5, 6] (fun s5 s6 => ∃ j : Nat, j ≤ 11 ∧ s6 = .int .i64 ((2 ^ j : Nat) : Int) ∧ s5 = .bool (mayF (n : Int) j)) (fun _ s6 => 2049 - (intOf s6).toNat)
  case atStart => exact ⟨0, by omega, rfl, rfl⟩
  case round =>
    obtain ⟨j, hj, rfl, rfl⟩ := hrel
    by_cases hlt : j ≤ 10
    · have h1 : 2 ^ j ≤ 1024 := pow2_le j hlt
      have h0 : 0 < 2 ^ j := Nat.two_pow_pos j
      have hsu : mayF (n : Int) (j + 1) = (mayF (n : Int) j || ((n : Int) == ((2 ^ j : Nat) : Int))) := rfl
      have hp : 2 ^ (j + 1) = 2 * 2 ^ j := by rw [Nat.pow_succ]; omega
      have HM := Lib.hid hsu
      clear hsu
      cases hm : mayF (n : Int) j with
      | true =>
        rw [hm] at HM
        have HM2 : Hid (mayF (n : Int) (j + 1) = true) := by have := HM.out; exact this.trans (by simp)
        clear HM hm
        generalize 2 ^ j = q at *
        have HP := Lib.hid hp
        clear hp
        go_wp2
        go_round
        case rel => exact ⟨j + 1, by omega, by rw [HP.out]; go_num, by rw [HM2.out]⟩
        case measure => simp [intOf]; omega
      | false =>
        rw [hm] at HM
        clear hm
        generalize 2 ^ j = q at *
        have HP := Lib.hid hp
        clear hp
        go_wp2
        go_round
        case rel => exact ⟨j + 1, by omega, by rw [HP.out]; go_num, by rw [HM.out]; simp⟩
        case measure => simp [intOf]; omega
    · have h1 : 2 ^ j = 2048 := pow2_ge j (by omega) hj
      have h2 : ¬ ((2 ^ j : Nat) : Int) ≤ 1024 := by omega
      have hm : mayF (n : Int) j = true := by rw [HMAY.out]; simp; omega
      generalize 2 ^ j = q at *
      rw [hm]
      clear h1 hm
      have HSL : Hid (∀ wx, AS S N n [] wx → Calls Try.prog 15 #[.pointer (some ⟨S, 0, none⟩)] wx fun e w' => e = .returned (.int .i64 n) ∧ wx = w') := fun wx h => by
        obtain ⟨t0, t1, m, l, f, hs, _⟩ := h
        exact slots_c S (hdr t0 t1 N n) N n rfl hn0 wx hs.rS
      go_wp2_with fail
      refine (HSL.out _ ha1'.out).mono ?_
      rintro e w' ⟨rfl, rfl⟩
      go_wp2
      go_loopw [7] (fun s7 wr => ∃ i : Nat, i ≤ n + 1 ∧ s7 = .int .i64 i ∧ Hid (AS S N n (List.range (min i n)).reverse wr) ∧ Below W.heap.size W wr) (fun s7 _ => n + 1 - (intOf s7).toNat)
      case atStart => exact ⟨0, by omega, rfl, Lib.hid (by simpa using ha1'.out), hbel1⟩
      case round =>
        rename_i wr _
        obtain ⟨i, hi, rfl, hA, hbr⟩ := hrel
        by_cases hin : i < n
        · have P := Lib.hid (push_a (S := S) (N := N) (n := n) (List.range (min i n)).reverse i (by omega) wr hA.out (by simp; omega))
          have j1 : (i : Int) < (n : Int) := by omega
          go_wp2_with fail
          refine P.out.mono ?_
          rintro e w3 ⟨rfl, hAS3, hs3⟩
          have HAS3 := Lib.hid hAS3
          have hbel3 : Below W.heap.size W w3 := hbr.trans (hs3.below (by have := hbr.size; omega) (fun k hk => by rcases hk with rfl | rfl <;> omega))
          clear hAS3 hs3
          go_wp2
          go_roundw
          case rel => exact ⟨i + 1, by omega, by go_num, Lib.hid (by
            have := HAS3.out
            rw [show min i n = i from by omega, ← range_rev] at this
            rw [show min (i + 1) n = i + 1 from by omega]
            exact this), hbel3⟩
          case measure => simp [intOf]; omega
        · by_cases hie : i = n
          · have P := Lib.hid (push_b (S := S) (N := N) (n := n) (List.range (min i n)).reverse (i : Int) wr hA.out (by simp; omega))
            have j1 : ¬ (i : Int) < (n : Int) := by omega
            have j2 : (i : Int) ≤ (n : Int) := by omega
            have HIE := Lib.hid hie
            clear hie
            go_wp2_with fail
            refine P.out.mono ?_
            rintro e w3 ⟨rfl, hAS3, hs3⟩
            have HAS3 := Lib.hid hAS3
            have hbel3 : Below W.heap.size W w3 := hbr.trans (hs3.below (by have := hbr.size; omega) (fun k hk => by rcases hk with rfl | rfl <;> omega))
            clear hAS3 hs3
            go_wp2
            go_roundw
            case rel => exact ⟨i + 1, by omega, by go_num, Lib.hid (by
              have := HAS3.out
              rw [show min (i + 1) n = min i n from by have := HIE.out; omega]
              exact this), hbel3⟩
            case measure => simp [intOf]; omega
          · have j1 : ¬ (i : Int) ≤ (n : Int) := by omega
            have hA' : Hid (AS S N n (List.range n).reverse wr) := by
              have := hA.out
              rw [show min i n = n from by omega] at this
              exact this
            clear hA hie
            go_wp2
            go_loopw [10] (fun s10 wx => ∃ (q : Nat) (z : Int), q ≤ n ∧ (z + 1 = (q : Int) ∨ (z = -2 ∧ q = 0)) ∧ s10 = .int .i64 z ∧ Hid (AS S N n (List.range q).reverse wx) ∧ Below W.heap.size W wx) (fun s10 _ => (intOf s10 + 2).toNat)
            case atStart => exact ⟨n, _, Nat.le_refl _, .inl (by omega), rfl, hA', hbr⟩
            case round =>
              obtain ⟨q, z, hq, hz, rfl, hA3, hbel3⟩ := hrel
              rcases hz with hz | ⟨hz, rfl⟩
              · cases q with
                | zero =>
                  obtain rfl : z = -1 := by omega
                  have P := Lib.hid (pop_b (S := S) (N := N) (n := n) _ (by simpa using hA3.out))
                  clear hz
                  go_wp2_with fail
                  refine P.out.mono ?_
                  rintro e w4 ⟨rfl, hAS4, hs4⟩
                  have HAS4 := Lib.hid hAS4
                  have hbel4 : Below W.heap.size W w4 := hbel3.trans (hs4.below (by have := hbel3.size; omega) (fun k hk => by rcases hk with rfl | rfl <;> omega))
                  clear hAS4 hs4
                  go_wp2
                  go_roundw
                  case rel => exact ⟨0, -2, by omega, .inr ⟨rfl, rfl⟩, rfl, Lib.hid (by simpa using HAS4.out), hbel4⟩
                  case measure => simp [intOf]
                | succ q =>
                  obtain rfl : z = (q : Int) := by omega
                  have P := Lib.hid (pop_a (S := S) (N := N) (n := n) (List.range q).reverse q _ (by rw [← range_rev]; exact hA3.out))
                  have HZ := Lib.hid hz
                  clear hz
                  go_wp2_with fail
                  refine P.out.mono ?_
                  rintro e w4 ⟨rfl, hAS4, hs4⟩
                  have HAS4 := Lib.hid hAS4
                  have hbel4 : Below W.heap.size W w4 := hbel3.trans (hs4.below (by have := hbel3.size; omega) (fun k hk => by rcases hk with rfl | rfl <;> omega))
                  clear hAS4 hs4
                  go_wp2
                  go_roundw
                  case rel => exact ⟨q, (q : Int) - 1, by omega, .inl (by omega), rfl, HAS4, hbel4⟩
                  case measure => simp [intOf] <;> omega
              · subst hz
                clear hA3
                go_wp2_with (go_at_call 10; refine (awake_c _).mono ?_; rintro e w' ⟨rfl, hw⟩; have HW := Lib.hid hw; clear hw)
                go_ret
                exact ⟨rfl, hbel3.trans ((HW.out).below (by have := hbel3.size; omega) (fun _ h => h.elim))⟩

theorem news_w (s : Int) (W : World) :
    Calls Try.prog 4 #[.int .i64 s] W fun e w => e = .returned (.bool true) ∧ Below W.heap.size W w := by
  cases h : mayF s 11 with
  | false => exact news_bad s h W
  | true =>
    obtain ⟨k, h1, rfl⟩ := mayF_pow s 11 h
    exact news_good k h1 W
end Go.Proofs.Ytmcffabfghhpaaa
/- Plain words: StackNames, by goroutine 0. No condition. -/
namespace Go.Proofs.Ytmcffabfghhpaaa
open Go.Conc Go.RowKit
instance gm_or {A B : World → Prop} [GM A] [GM B] : GM fun u => A u ∨ B u := ⟨fun u u' h q => q.imp (GM.keep u u' h) (GM.keep u u' h)⟩
instance gm_noted {nb : Nat} {L : List (Int × Int)} : GM fun u => Noted nb u L := by unfold Noted; infer_instance
instance gm_noteAt {nb : Nat} {L : List (Int × Int)} : GM (NoteAt nb L) := ⟨fun u u' h q => ⟨Nat.lt_of_lt_of_le q.1 h.size, gm_noted.keep u u' h q.2⟩⟩
section
variable {E : Env} {n : E.ι} {t : Array Value} {w : World} {Q : E.ι → Exit → Array Value → World → Prop}
/-- A loop's round. -/
def cpsL (E : Env) (c : Code) (Q : E.ι → Exit → Array Value → World → Prop) (n : E.ι) (t : Array Value) (w : World) : Prop :=
  ∀ (b : Frame) (k : List Item) (cs : List Frame), E.Fr b cs → (∀ n', E.le n' n → ∀ e t' w', Q n' e t' w' → aft E n' b k cs e t' w') → E.Go n (G (b.at ⟨t, []⟩ (.code c :: .inLoop c :: k)) cs) w
def loopQ (E : Env) (c : Code) (Q : E.ι → Exit → Array Value → World → Prop) : E.ι → Exit → Array Value → World → Prop
  | n, .normal, t, w => cpsL E c Q n t w
  | n, e, t, w => Q n e t w
theorem cps_loop_of (O : E.Ok) {c : Code} (h : cpsL E c Q n t w) : cps E (.loop c) Q n t w := fun b k cs hf hk => O.step1 rfl (fun _ => stepG_loop) (h b k cs hf hk)
theorem cpsL_step (O : E.Ok) {c : Code} (h : cps E c (loopQ E c Q) n t w) : cpsL E c Q n t w := fun b k cs hf hk => by
  refine h b (.inLoop c :: k) cs hf fun n' hn e t' w' q => ?_
  cases e with
  | normal => exact O.step1 rfl (fun _ => stepG_inLoop) (q b k cs hf fun n'' hn' => hk n'' (O.ltrans _ _ _ hn' hn))
  | exit id => exact (hk n' hn _ _ _ q).imp fun k' h => ⟨by simpa [exitTo] using h.1, h.2⟩
  | ret => exact fun todo => hk n' hn _ _ _ q todo
  | _ => trivial
end
/-- A stack that is none. -/
def NoStk (pv : Value) (u : World) : Prop := pv = .pointer none ∨ ∃ zb, pv = .pointer (some ⟨zb, 0, none⟩) ∧ Row u zb #[.int .u64 0, .int .u64 0, .slice none 0 0] 107
instance gm_noStk {pv : Value} : GM (NoStk pv) := by unfold NoStk; infer_instance
theorem none_true (pv : Value) (w : World) (h : NoStk pv w) : Calls Try.prog 43 #[pv] w fun e w' => e = .returned (.bool true) ∧ w = w' := by
  rcases h with rfl | ⟨zb, rfl, hr⟩
  · go_enter Try.func43, Try.ntmps43
    go_wp2
    go_ret
    exact ⟨rfl, rfl⟩
  · have hc : w.cell? ⟨zb, 2, none⟩ = some (.slice none 0 0) := hr.cell 2
    go_enter Try.func43, Try.ntmps43
    go_wp2
    go_ret
    exact ⟨rfl, rfl⟩
theorem slots_zero (pv : Value) (w : World) (h : NoStk pv w) : Calls Try.prog 15 #[pv] w fun e w' => e = .returned (.int .i64 0) ∧ w = w' := by
  have hn := none_true pv w h
  clear h
  go_enter Try.func15, Try.ntmps15
  go_wp2_with fail
  refine hn.mono ?_
  rintro e w' ⟨rfl, rfl⟩
  go_wp2
  go_ret
  exact ⟨rfl, rfl⟩
section
variable {Wm : Machine → Trace → Prop} {x : LX} {M : World → Prop} {w : World} {Q : LX → Value → World → Prop}
set_option maxRecDepth 100000 in
theorem push_no [GM M] {pv g v : Value} (h : Kn x (fun u => NoStk pv u ∧ M u) w) (hq : ∀ w', Kn x (fun u => NoStk pv u ∧ M u) w' → Q x (.tuple #[.bool false, .int .i64 1]) w') : cpsC (envL Wm) 13 #[pv, g, v] Q x w := by
  have O := envL_ok (W := Wm)
  refine cpsC_body O Try.func13 rfl ?_
  simp only [Try.ntmps13]
  refine cps_opaque fun Q' hQ => ?_
  walk_nrm
  repeat refine cps_seq O ?_
  (refine cps_region O ?_; simp only [List.size_toArray, List.length_cons, List.length_nil, Nat.reduceAdd, Nat.zero_add, List.range, List.range.loop])
  refine valE O rfl (.bool false) rfl rfl (fun _ => by simp [go_sem]) (fun _ => by go_simp; try (first | rfl | (simp [*]))) ?_; try walk_nrm
  refine valE O rfl (.int .i64 0) rfl rfl (fun _ => by simp [go_sem]) (fun _ => by go_simp; try (first | rfl | (simp [*]))) ?_; try walk_nrm
  refine cpsR_nil O ?_
  show cps _ _ _ _ _ _
  repeat refine cps_seq O ?_
  (refine cps_region O ?_; simp only [List.size_toArray, List.length_cons, List.length_nil, Nat.reduceAdd, Nat.zero_add, List.range, List.range.loop])
  refine valE O rfl (pv) rfl rfl (fun _ => by simp [go_sem]) (fun _ => by go_simp; try (first | rfl | (simp [*]))) ?_; try walk_nrm
  refine opCallK (f := 43) (vals := #[pv]) (M' := fun r u => r = .bool true ∧ NoStk pv u ∧ M u) h (by kernel_rfl) rfl rfl rfl Try.func43 rfl rfl rfl (fun u hu hs => (none_true pv u hu.1).mono fun e u' ⟨h1, h2⟩ => ⟨_, h1, rfl, by subst h2; exact hu⟩) fun r w1 h1 _ => ?_
  obtain rfl : r = .bool true := by obtain ⟨u, _, hu⟩ := h1.get; exact hu.1
  have h := h1.mono fun u hu => hu.2
  try walk_nrm
  refine cpsR_nil O ?_
  show cps _ _ _ _ _ _
  refine cps_cond O (v := true) rfl ?_
  simp only [if_true]
  repeat refine cps_seq O ?_
  (refine cps_region O ?_; simp only [List.size_toArray, List.length_cons, List.length_nil, Nat.reduceAdd, Nat.zero_add, List.range, List.range.loop])
  refine valE O rfl (.bool false) rfl rfl (fun _ => by simp [go_sem]) (fun _ => by go_simp; try (first | rfl | (simp [*]))) ?_; try walk_nrm
  refine valE O rfl (.int .i64 1) rfl rfl (fun _ => by simp [go_sem]) (fun _ => by go_simp; try (first | rfl | (simp [*]))) ?_; try walk_nrm
  refine cpsR_nil O ?_
  exact cps_ret O (hQ _ _ _ _ ⟨.inr rfl, .tuple #[.bool false, .int .i64 1], ret2E O rfl rfl rfl, hq w1 h⟩)
set_option maxRecDepth 100000 in
theorem pop_no [GM M] {pv g : Value} (h : Kn x (fun u => NoStk pv u ∧ M u) w) (hq : ∀ w', Kn x (fun u => NoStk pv u ∧ M u) w' → Q x (.tuple #[.int .u64 0, .bool false, .int .i64 1]) w') : cpsC (envL Wm) 14 #[pv, g] Q x w := by
  have O := envL_ok (W := Wm)
  refine cpsC_body O Try.func14 rfl ?_
  simp only [Try.ntmps14]
  refine cps_opaque fun Q' hQ => ?_
  walk_nrm
  repeat refine cps_seq O ?_
  (refine cps_region O ?_; simp only [List.size_toArray, List.length_cons, List.length_nil, Nat.reduceAdd, Nat.zero_add, List.range, List.range.loop])
  refine valE O rfl (.int .u64 0) rfl rfl (fun _ => by simp [go_sem]) (fun _ => by go_simp; try (first | rfl | (simp [*]))) ?_; try walk_nrm
  refine valE O rfl (.bool false) rfl rfl (fun _ => by simp [go_sem]) (fun _ => by go_simp; try (first | rfl | (simp [*]))) ?_; try walk_nrm
  refine valE O rfl (.int .i64 0) rfl rfl (fun _ => by simp [go_sem]) (fun _ => by go_simp; try (first | rfl | (simp [*]))) ?_; try walk_nrm
  refine cpsR_nil O ?_
  show cps _ _ _ _ _ _
  repeat refine cps_seq O ?_
  (refine cps_region O ?_; simp only [List.size_toArray, List.length_cons, List.length_nil, Nat.reduceAdd, Nat.zero_add, List.range, List.range.loop])
  refine valE O rfl (pv) rfl rfl (fun _ => by simp [go_sem]) (fun _ => by go_simp; try (first | rfl | (simp [*]))) ?_; try walk_nrm
  refine opCallK (f := 43) (vals := #[pv]) (M' := fun r u => r = .bool true ∧ NoStk pv u ∧ M u) h (by kernel_rfl) rfl rfl rfl Try.func43 rfl rfl rfl (fun u hu hs => (none_true pv u hu.1).mono fun e u' ⟨h1, h2⟩ => ⟨_, h1, rfl, by subst h2; exact hu⟩) fun r w1 h1 _ => ?_
  obtain rfl : r = .bool true := by obtain ⟨u, _, hu⟩ := h1.get; exact hu.1
  have h := h1.mono fun u hu => hu.2
  try walk_nrm
  refine cpsR_nil O ?_
  show cps _ _ _ _ _ _
  refine cps_cond O (v := true) rfl ?_
  simp only [if_true]
  repeat refine cps_seq O ?_
  (refine cps_region O ?_; simp only [List.size_toArray, List.length_cons, List.length_nil, Nat.reduceAdd, Nat.zero_add, List.range, List.range.loop])
  refine valE O rfl (.int .u64 0) rfl rfl (fun _ => by simp [go_sem]) (fun _ => by go_simp; try (first | rfl | (simp [*]))) ?_; try walk_nrm
  refine valE O rfl (.bool false) rfl rfl (fun _ => by simp [go_sem]) (fun _ => by go_simp; try (first | rfl | (simp [*]))) ?_; try walk_nrm
  refine valE O rfl (.int .i64 1) rfl rfl (fun _ => by simp [go_sem]) (fun _ => by go_simp; try (first | rfl | (simp [*]))) ?_; try walk_nrm
  refine cpsR_nil O ?_
  exact cps_ret O (hQ _ _ _ _ ⟨.inr rfl, .tuple #[.int .u64 0, .bool false, .int .i64 1], ret3E O rfl rfl rfl, hq w1 h⟩)
/-- Slots of a stack that is there. -/
theorem slots_e {S N n t0 t1 : Nat} (hM : ∀ u, M u → Row u S (hdr t0 t1 N n) 107) (hm : HO M) (hn : 0 < n) (h : Kn x M w) (hq : ∀ w', Kn x M w' → Q x (.int .i64 n) w') : cpsC (envL Wm) 15 #[.pointer (some ⟨S, 0, none⟩)] Q x w := by
  have O := envL_ok (W := Wm)
  refine cpsC_body O Try.func15 rfl ?_
  simp only [Try.ntmps15]
  refine cps_opaque fun Q' hQ => ?_
  walk_nrm
  repeat refine cps_seq O ?_
  (refine cps_region O ?_; simp only [List.size_toArray, List.length_cons, List.length_nil, Nat.reduceAdd, Nat.zero_add, List.range, List.range.loop])
  refine valE O rfl (.int .i64 0) rfl rfl (fun _ => by simp [go_sem]) (fun _ => by go_simp; try (first | rfl | (simp [*]))) ?_; try walk_nrm
  refine cpsR_nil O ?_
  show cps _ _ _ _ _ _
  repeat refine cps_seq O ?_
  (refine cps_region O ?_; simp only [List.size_toArray, List.length_cons, List.length_nil, Nat.reduceAdd, Nat.zero_add, List.range, List.range.loop])
  refine valE O rfl (.pointer (some ⟨S, 0, none⟩)) rfl rfl (fun _ => by simp [go_sem]) (fun _ => by go_simp; try (first | rfl | (simp [*]))) ?_; try walk_nrm
  refine opCallK (f := 43) (vals := #[.pointer (some ⟨S, 0, none⟩)]) (M' := fun r u => r = .bool false ∧ M u) h (by kernel_rfl) rfl rfl rfl Try.func43 rfl rfl rfl (fun u hu hs => (none_c S _ N n (by rfl) hn u (hM u hu)).mono fun e u' ⟨h1, h2⟩ => ⟨_, h1, rfl, by subst h2; exact hu⟩) fun r w1 h1 _ => ?_
  obtain rfl : r = .bool false := by obtain ⟨u, _, hu⟩ := h1.get; exact hu.1
  have h := h1.mono fun u hu => hu.2
  try walk_nrm
  refine cpsR_nil O ?_
  show cps _ _ _ _ _ _
  refine cps_cond O (v := false) rfl ?_
  simp only [Bool.false_eq_true, if_false]
  refine cps_skip O ?_
  show cps _ _ _ _ _ _
  repeat refine cps_seq O ?_
  (refine cps_region O ?_; simp only [List.size_toArray, List.length_cons, List.length_nil, Nat.reduceAdd, Nat.zero_add, List.range, List.range.loop])
  refine valE O rfl (.pointer (some ⟨S, 0, none⟩)) rfl rfl (fun _ => by simp [go_sem]) (fun _ => by go_simp; try (first | rfl | (simp [*]))) ?_; try walk_nrm
  refine opK h (.pointer (some ⟨S, 0, none⟩)) rfl (by kernel_rfl) rfl (fun u hu _ => ⟨u, .inl (by go_simp), hu⟩) fun _ h _ => ?_; try walk_nrm
  refine opK h (.pointer (some ⟨S, 2, none⟩)) rfl (by kernel_rfl) rfl (fun u hu _ => ⟨u, .inl (by go_simp), hu⟩) fun _ h _ => ?_; try walk_nrm
  refine opK h (.slice (some ⟨N, 0, none⟩) n n) rfl (by kernel_rfl) rfl (fun u hu _ => ⟨u, .inl (by have hc : u.cell? ⟨S, 2, none⟩ = some (.slice (some ⟨N, 0, none⟩) n n) := (hM u hu).cell 2; go_simp), hu⟩) fun w2 h _ => ?_
  try walk_nrm
  refine valE O rfl (.int .i64 n) rfl rfl (fun _ => by simp [go_sem]) (fun _ => by go_simp; try (first | rfl | (simp [*]))) ?_; try walk_nrm
  refine valE O rfl (.int .i64 n) rfl rfl (fun _ => by simp [go_sem]) (fun _ => by go_simp; try (first | rfl | (simp [*]))) ?_; try walk_nrm
  refine cpsR_nil O ?_
  exact cps_ret O (hQ _ _ _ _ ⟨.inr rfl, .int .i64 n, retE O rfl rfl rfl, hq w2 h⟩)
/-- StackTags as a call. -/
theorem tags_c [GM M] (hW : Back Try.prog Wm) {n : Nat} (hn0 : 0 < n) (hn : n < 60000) {a b c : Nat} (ha : a < 18446744073709551616) (hb : b < 18446744073709551616) (hc : c < 18446744073709551616) (h : Kn ⟨none, n⟩ M w)
    (hq : ∀ Wg w', w.heap.size ≤ Wg → Kn ⟨some Wg, n + 3⟩ M w' → Q ⟨some Wg, n + 3⟩ (.bool true) w') : cpsC (envL Wm) 7 #[.int .u64 a, .int .u64 b, .int .u64 c] Q ⟨none, n⟩ w := by
  have O := envL_ok (W := Wm)
  refine cpsC_body O Try.func7 (c := Try.f7.body.getD .skip) rfl ?_
  simp only [Try.ntmps7]
  exact tags_b hW hn0 hn ha hb hc h fun Wg t' w' h1 h2 h3 => ⟨.inr rfl, .bool true, retE O rfl rfl h2, hq Wg w' h1 h3⟩
set_option maxRecDepth 100000 in
set_option maxHeartbeats 8000000 in
/-- StackNames. -/
theorem names_b [GM M] (hW : Back Try.prog Wm) {n : Nat} (hn0 : 0 < n) (hn : n < 60000) (h : Kn ⟨none, n⟩ M w) {Q : LX → Exit → Array Value → World → Prop}
    (hq : ∀ Wg t' w', w.heap.size ≤ Wg → t'.getD 0 undef = .bool true → Kn ⟨some Wg, n + 3⟩ M w' → Q ⟨some Wg, n + 3⟩ .ret t' w') :
    cps (envL Wm) (Try.f9.body.getD .skip) Q ⟨none, n⟩ (Array.replicate 119 undef) w := by
  have O := envL_ok (W := Wm)
  obtain ⟨B, hB⟩ : ∃ B, B = w.heap.size := ⟨_, rfl⟩
  rw [← hB] at hq
  have Hq := Lib.hid hq
  clear hq
  have h : Kn ⟨none, n⟩ (Since B M) w := by rw [hB]; exact h.since
  have hgs : GM (Since B M) := ⟨fun u u' k q => by obtain ⟨u0, q1, q2, q3⟩ := q; exact ⟨u0, q1, q2.trans k, q3⟩⟩
  clear hB
  refine cps_opaque fun Q' hQ => ?_
  walk_nrmf Try.f9
  repeat refine cps_seq O ?_
  (refine cps_region O ?_; simp only [List.size_toArray, List.length_cons, List.length_nil, Nat.reduceAdd, Nat.zero_add, List.range, List.range.loop])
  refine valE O rfl (.bool false) rfl rfl (fun _ => by simp [go_sem]) (fun _ => by go_simp; try (first | rfl | (simp [*]))) ?_; try walk_nrm
  refine cpsR_nil O ?_
  show cps _ _ _ _ _ _
  repeat refine cps_seq O ?_
  (refine cps_region O ?_; simp only [List.size_toArray, List.length_cons, List.length_nil, Nat.reduceAdd, Nat.zero_add, List.range, List.range.loop])
  refine valE O rfl (.pointer none) rfl rfl (fun _ => by simp [go_sem]) (fun _ => by go_simp; try (first | rfl | (simp [*]))) ?_; try walk_nrm
  refine cpsR_nil O ?_
  show cps _ _ _ _ _ _
  repeat refine cps_seq O ?_
  (refine cps_region O ?_; simp only [List.size_toArray, List.length_cons, List.length_nil, Nat.reduceAdd, Nat.zero_add, List.range, List.range.loop])
  refine valE O rfl (.int .i64 0) rfl rfl (fun _ => by simp [go_sem]) (fun _ => by go_simp; try (first | rfl | (simp [*]))) ?_; try walk_nrm
  refine cpsR_nil O ?_
  show cps _ _ _ _ _ _
  repeat refine cps_seq O ?_
  refine cps_block O ?_
  refine cps_loop_of O ?_
  refine cpsL_step O ?_
  have h : Kn ⟨none, n⟩ (fun u => NoStk (.pointer none) u ∧ Since B M u) w := h.mono fun u hu => ⟨.inl rfl, hu⟩
  obtain ⟨w', rfl⟩ : ∃ w', w' = w := ⟨_, rfl⟩
  repeat refine cps_seq O ?_
  (refine cps_region O ?_; simp only [List.size_toArray, List.length_cons, List.length_nil, Nat.reduceAdd, Nat.zero_add, List.range, List.range.loop])
  refine valE O rfl (.int .i64 0) rfl rfl (fun _ => by simp [go_sem]) (fun _ => by go_simp; try (first | rfl | (simp [*]))) ?_; try walk_nrm
  refine valE O rfl (.bool true) rfl rfl (fun _ => by simp [go_sem]) (fun _ => by go_simp; try (first | rfl | (simp [*]))) ?_; try walk_nrm
  refine cpsR_nil O ?_
  show cps _ _ _ _ _ _
  refine cps_cond O (v := true) rfl ?_
  simp only [if_true]
  refine cps_skip O ?_
  show cps _ _ _ _ _ _
  repeat refine cps_seq O ?_
  refine cps_block O ?_
  repeat refine cps_seq O ?_
  (refine cps_region O ?_; simp only [List.size_toArray, List.length_cons, List.length_nil, Nat.reduceAdd, Nat.zero_add, List.range, List.range.loop])
  obtain ⟨nb0, hnb⟩ : ∃ nb0, nb0 = w'.heap.size := ⟨_, rfl⟩
  refine opCallK (f := 35) (vals := #[]) (M' := fun v u => v = .pointer (some ⟨nb0, 0, none⟩) ∧ NoStk (.pointer none) u ∧ NoteAt nb0 [] u ∧ Since B M u) (hM := fun v => gm_ho) h (by kernel_rfl) rfl rfl rfl Try.func35 rfl rfl rfl (fun u hu hs => ?_) fun v w2 h2 _ => ?_
  · refine (newNotes_c u).mono ?_
    rintro e u' ⟨rfl, hb1, hn1, hz1⟩
    rw [hs, ← hnb] at hn1
    have hg : Gr u u' := Gr.of_sm0 hb1 fun _ h => h.elim
    refine ⟨_, rfl, by rw [hs, ← hnb], gm_noStk.keep u u' hg hu.1, ⟨by omega, hn1⟩, hgs.keep u u' hg hu.2⟩
  clear h
  obtain rfl : v = .pointer (some ⟨nb0, 0, none⟩) := by obtain ⟨u, _, hu⟩ := h2.get; exact hu.1
  have h : Kn ⟨none, n⟩ (fun u => NoStk (.pointer none) u ∧ NoteAt nb0 [] u ∧ Since B M u) w2 := h2.mono fun u hu => hu.2
  clear h2 hnb
  try walk_nrm
  refine valE O rfl (.pointer (some ⟨nb0, 0, none⟩)) rfl rfl (fun _ => by simp [go_sem]) (fun _ => by go_simp; try (first | rfl | (simp [*]))) ?_; try walk_nrm
  refine cpsR_nil O ?_
  show cps _ _ _ _ _ _
  repeat refine cps_seq O ?_
  (refine cps_region O ?_; simp only [List.size_toArray, List.length_cons, List.length_nil, Nat.reduceAdd, Nat.zero_add, List.range, List.range.loop])
  refine valE O rfl (.pointer none) rfl rfl (fun _ => by simp [go_sem]) (fun _ => by go_simp; try (first | rfl | (simp [*]))) ?_; try walk_nrm
  refine valE O rfl (.pointer (some ⟨nb0, 0, none⟩)) rfl rfl (fun _ => by simp [go_sem]) (fun _ => by go_simp; try (first | rfl | (simp [*]))) ?_; try walk_nrm
  refine valE O rfl (noteGate nb0) rfl rfl (fun _ => by simp [go_sem, mi_note]) (fun _ => by go_simp; try rfl) ?_
  try walk_nrm
  refine callE O rfl (f := 13) (vals := #[.pointer none, noteGate nb0, .int .u64 1]) rfl rfl rfl Try.func13 rfl rfl rfl (push_no h fun w3 h => ?_)
  try walk_nrm
  refine valE O rfl (.tuple #[.bool false, .int .i64 1]) rfl rfl (fun _ => by simp [go_sem]) (fun _ => by go_simp; try (first | rfl | (simp [*]))) ?_; try walk_nrm
  refine valE O rfl (.bool false) rfl rfl (fun _ => by simp [go_sem]) (fun _ => by go_simp; try (first | rfl | (simp [*]))) ?_; try walk_nrm
  refine valE O rfl (.int .i64 1) rfl rfl (fun _ => by simp [go_sem]) (fun _ => by go_simp; try (first | rfl | (simp [*]))) ?_; try walk_nrm
  refine valE O rfl (.bool false) rfl rfl (fun _ => by simp [go_sem]) (fun _ => by go_simp; try (first | rfl | (simp [*]))) ?_; try walk_nrm
  refine valE O rfl (.int .i64 1) rfl rfl (fun _ => by simp [go_sem]) (fun _ => by go_simp; try (first | rfl | (simp [*]))) ?_; try walk_nrm
  refine cpsR_nil O ?_
  show cps _ _ _ _ _ _
  repeat refine cps_seq O ?_
  (refine cps_region O ?_; simp only [List.size_toArray, List.length_cons, List.length_nil, Nat.reduceAdd, Nat.zero_add, List.range, List.range.loop])
  refine valE O rfl (.pointer none) rfl rfl (fun _ => by simp [go_sem]) (fun _ => by go_simp; try (first | rfl | (simp [*]))) ?_; try walk_nrm
  refine valE O rfl (.pointer (some ⟨nb0, 0, none⟩)) rfl rfl (fun _ => by simp [go_sem]) (fun _ => by go_simp; try (first | rfl | (simp [*]))) ?_; try walk_nrm
  refine valE O rfl (noteGate nb0) rfl rfl (fun _ => by simp [go_sem, mi_note]) (fun _ => by go_simp; try rfl) ?_
  try walk_nrm
  refine callE O rfl (f := 14) (vals := #[.pointer none, noteGate nb0]) rfl rfl rfl Try.func14 rfl rfl rfl (pop_no h fun w4 h => ?_)
  try walk_nrm
  refine valE O rfl (.tuple #[.int .u64 0, .bool false, .int .i64 1]) rfl rfl (fun _ => by simp [go_sem]) (fun _ => by go_simp; try (first | rfl | (simp [*]))) ?_; try walk_nrm
  refine valE O rfl (.int .u64 0) rfl rfl (fun _ => by simp [go_sem]) (fun _ => by go_simp; try (first | rfl | (simp [*]))) ?_; try walk_nrm
  refine valE O rfl (.bool false) rfl rfl (fun _ => by simp [go_sem]) (fun _ => by go_simp; try (first | rfl | (simp [*]))) ?_; try walk_nrm
  refine valE O rfl (.int .i64 1) rfl rfl (fun _ => by simp [go_sem]) (fun _ => by go_simp; try (first | rfl | (simp [*]))) ?_; try walk_nrm
  refine valE O rfl (.int .u64 0) rfl rfl (fun _ => by simp [go_sem]) (fun _ => by go_simp; try (first | rfl | (simp [*]))) ?_; try walk_nrm
  refine valE O rfl (.bool false) rfl rfl (fun _ => by simp [go_sem]) (fun _ => by go_simp; try (first | rfl | (simp [*]))) ?_; try walk_nrm
  refine valE O rfl (.int .i64 1) rfl rfl (fun _ => by simp [go_sem]) (fun _ => by go_simp; try (first | rfl | (simp [*]))) ?_; try walk_nrm
  refine cpsR_nil O ?_
  show cps _ _ _ _ _ _
  repeat refine cps_seq O ?_
  (refine cps_region O ?_; simp only [List.size_toArray, List.length_cons, List.length_nil, Nat.reduceAdd, Nat.zero_add, List.range, List.range.loop])
  refine valE O rfl (.bool false) rfl rfl (fun _ => by simp [go_sem]) (fun _ => by go_simp; try (first | rfl | (simp [*]))) ?_; try walk_nrm
  refine valE O rfl (.bool false) rfl rfl (fun _ => by simp [go_sem]) (fun _ => by go_simp; try (first | rfl | (simp [*]))) ?_; try walk_nrm
  refine valE O rfl (.int .i64 1) rfl rfl (fun _ => by simp [go_sem]) (fun _ => by go_simp; try (first | rfl | (simp [*]))) ?_; try walk_nrm
  refine valE O rfl (.bool false) rfl rfl (fun _ => by simp [go_sem]) (fun _ => by go_simp; try (first | rfl | (simp [*]))) ?_; try walk_nrm
  refine valE O rfl (.bool false) rfl rfl (fun _ => by simp [go_sem]) (fun _ => by go_simp; try (first | rfl | (simp [*]))) ?_; try walk_nrm
  refine valE O rfl (.bool false) rfl rfl (fun _ => by simp [go_sem]) (fun _ => by go_simp; try (first | rfl | (simp [*]))) ?_; try walk_nrm
  refine valE O rfl (.int .u64 0) rfl rfl (fun _ => by simp [go_sem]) (fun _ => by go_simp; try (first | rfl | (simp [*]))) ?_; try walk_nrm
  refine valE O rfl (.bool false) rfl rfl (fun _ => by simp [go_sem]) (fun _ => by go_simp; try (first | rfl | (simp [*]))) ?_; try walk_nrm
  refine valE O rfl (.bool false) rfl rfl (fun _ => by simp [go_sem]) (fun _ => by go_simp; try (first | rfl | (simp [*]))) ?_; try walk_nrm
  refine valE O rfl (.bool false) rfl rfl (fun _ => by simp [go_sem]) (fun _ => by go_simp; try (first | rfl | (simp [*]))) ?_; try walk_nrm
  refine valE O rfl (.bool false) rfl rfl (fun _ => by simp [go_sem]) (fun _ => by go_simp; try (first | rfl | (simp [*]))) ?_; try walk_nrm
  refine valE O rfl (.bool false) rfl rfl (fun _ => by simp [go_sem]) (fun _ => by go_simp; try (first | rfl | (simp [*]))) ?_; try walk_nrm
  refine valE O rfl (.bool false) rfl rfl (fun _ => by simp [go_sem]) (fun _ => by go_simp; try (first | rfl | (simp [*]))) ?_; try walk_nrm
  refine valE O rfl (.int .i64 1) rfl rfl (fun _ => by simp [go_sem]) (fun _ => by go_simp; try (first | rfl | (simp [*]))) ?_; try walk_nrm
  refine valE O rfl (.bool false) rfl rfl (fun _ => by simp [go_sem]) (fun _ => by go_simp; try (first | rfl | (simp [*]))) ?_; try walk_nrm
  refine valE O rfl (.bool false) rfl rfl (fun _ => by simp [go_sem]) (fun _ => by go_simp; try (first | rfl | (simp [*]))) ?_; try walk_nrm
  refine valE O rfl (.bool false) rfl rfl (fun _ => by simp [go_sem]) (fun _ => by go_simp; try (first | rfl | (simp [*]))) ?_; try walk_nrm
  refine valE O rfl (.pointer none) rfl rfl (fun _ => by simp [go_sem]) (fun _ => by go_simp; try (first | rfl | (simp [*]))) ?_; try walk_nrm
  refine opCallK (f := 15) (vals := #[.pointer none]) (M' := fun r u => r = .int .i64 0 ∧ NoteAt nb0 [] u ∧ Since B M u) (hM := fun v => gm_ho) h (by kernel_rfl) rfl rfl rfl Try.func15 rfl rfl rfl (fun u hu hs => (slots_zero (.pointer none) u hu.1).mono fun e u' ⟨h1, h2⟩ => ⟨_, h1, rfl, by subst h2; exact hu.2⟩) fun r w5 h5 _ => ?_
  obtain rfl : r = .int .i64 0 := by obtain ⟨u, _, hu⟩ := h5.get; exact hu.1
  clear h
  try walk_nrm
  refine valE O rfl (.bool false) rfl rfl (fun _ => by simp [go_sem]) (fun _ => by go_simp; try (first | rfl | (simp [*]))) ?_; try walk_nrm
  refine valE O rfl (.bool false) rfl rfl (fun _ => by simp [go_sem]) (fun _ => by go_simp; try (first | rfl | (simp [*]))) ?_; try walk_nrm
  refine valE O rfl (.bool false) rfl rfl (fun _ => by simp [go_sem]) (fun _ => by go_simp; try (first | rfl | (simp [*]))) ?_; try walk_nrm
  refine valE O rfl (.pointer (some ⟨nb0, 0, none⟩)) rfl rfl (fun _ => by simp [go_sem]) (fun _ => by go_simp; try (first | rfl | (simp [*]))) ?_; try walk_nrm
  refine opCallK (f := 37) (vals := #[.pointer (some ⟨nb0, 0, none⟩)]) (M' := fun v u => u.ownsRow 0 110 2 v 0 [] ∧ Since B M u) (hM := fun v => gm_ho) h5 (by kernel_rfl) rfl rfl rfl Try.func37 rfl rfl rfl (fun u hu hs => ?_) fun v w6 h6 _ => ?_
  · refine (marks_c nb0 [] u hu.2.1.2 (by decide)).mono ?_
    rintro e u' ⟨v', rfl, h3, h4⟩
    exact ⟨_, rfl, own_zero h3, hgs.keep u u' (Gr.of_sm0 h4 fun _ h => h.elim) hu.2.2⟩
  obtain ⟨va, vc, rfl⟩ : ∃ a c, v = .slice a 0 c := by obtain ⟨u, _, hu⟩ := h6.get; exact own_form0 hu.1
  have h : Kn ⟨none, n⟩ (Since B M) w6 := h6.mono fun u hu => hu.2
  clear h5 h6
  try walk_nrm
  refine valE O rfl (.int .i64 0) rfl rfl (fun _ => by simp [go_sem]) (fun _ => by go_simp; try (first | rfl | (simp [*]))) ?_; try walk_nrm
  refine valE O rfl (.bool false) rfl rfl (fun _ => by simp [go_sem]) (fun _ => by go_simp; try (first | rfl | (simp [*]))) ?_; try walk_nrm
  refine valE O rfl (.bool false) rfl rfl (fun _ => by simp [go_sem]) (fun _ => by go_simp; try (first | rfl | (simp [*]))) ?_; try walk_nrm
  refine cpsR_nil O ?_
  show cps _ _ _ _ _ _
  refine cps_cond O (v := false) rfl ?_
  simp only [Bool.false_eq_true, if_false]
  refine cps_skip O ?_
  show cps _ _ _ _ _ _
  obtain ⟨zb0, hzb0⟩ : ∃ zb0, zb0 = w6.heap.size := ⟨_, rfl⟩
  (refine cps_region O ?_; simp only [List.size_toArray, List.length_cons, List.length_nil, Nat.reduceAdd, Nat.zero_add, List.range, List.range.loop])
  refine valE O rfl (.agg #[.int .u64 0, .int .u64 0, .slice none 0 0]) rfl rfl (fun _ => by simp [go_sem]) (fun _ => by go_simp; try (first | rfl | (simp [*]))) ?_; try walk_nrm
  refine opK (M' := fun u => NoStk (.pointer (some ⟨zb0, 0, none⟩)) u ∧ Since B M u) h (.pointer (some ⟨zb0, 0, none⟩)) rfl (by kernel_rfl) rfl (fun u hu hs => ⟨u.alloc (Obj.cells #[.int .u64 0, .int .u64 0, .slice none 0 0] 107), .inl ?_, ?_⟩) fun w7 h7 _ => ?_
  · rw [hzb0, ← hs]; go_simp
  · have hg : Gr u (u.alloc (Obj.cells #[.int .u64 0, .int .u64 0, .slice none 0 0] 107)) := Gr.of_sm0 (F := fun _ => False) ((Sm.refl _ _).alloc _) fun _ h => h.elim
    exact ⟨.inr ⟨zb0, rfl, by rw [hzb0, ← hs]; exact Row.new u _ _⟩, hgs.keep u _ hg hu⟩
  clear h hzb0
  try walk_nrm
  refine valE O rfl (.pointer (some ⟨zb0, 0, none⟩)) rfl rfl (fun _ => by simp [go_sem]) (fun _ => by go_simp; try (first | rfl | (simp [*]))) ?_; try walk_nrm
  refine cpsR_nil O ?_
  show cps _ _ _ _ _ _
  (refine cps_region O ?_; simp only [List.size_toArray, List.length_cons, List.length_nil, Nat.reduceAdd, Nat.zero_add, List.range, List.range.loop])
  refine valE O rfl (.int .i64 0) rfl rfl (fun _ => by simp [go_sem]) (fun _ => by go_simp; try (first | rfl | (simp [*]))) ?_; try walk_nrm
  refine valE O rfl (.int .i64 1) rfl rfl (fun _ => by simp [go_sem]) (fun _ => by go_simp; try (first | rfl | (simp [*]))) ?_; try walk_nrm
  refine valE O rfl (.int .i64 1) rfl rfl (fun _ => by simp [go_sem]) (fun _ => by go_simp; try (first | rfl | (simp [*]))) ?_; try walk_nrm
  refine cpsR_nil O ?_
  have h := h7
  clear h7
  obtain ⟨w', rfl⟩ : ∃ w', w' = w7 := ⟨_, rfl⟩
  refine cpsL_step O ?_
  repeat refine cps_seq O ?_
  (refine cps_region O ?_; simp only [List.size_toArray, List.length_cons, List.length_nil, Nat.reduceAdd, Nat.zero_add, List.range, List.range.loop])
  refine valE O rfl (.int .i64 1) rfl rfl (fun _ => by simp [go_sem]) (fun _ => by go_simp; try (first | rfl | (simp [*]))) ?_; try walk_nrm
  refine valE O rfl (.bool true) rfl rfl (fun _ => by simp [go_sem]) (fun _ => by go_simp; try (first | rfl | (simp [*]))) ?_; try walk_nrm
  refine cpsR_nil O ?_
  show cps _ _ _ _ _ _
  refine cps_cond O (v := true) rfl ?_
  simp only [if_true]
  refine cps_skip O ?_
  show cps _ _ _ _ _ _
  repeat refine cps_seq O ?_
  refine cps_block O ?_
  repeat refine cps_seq O ?_
  (refine cps_region O ?_; simp only [List.size_toArray, List.length_cons, List.length_nil, Nat.reduceAdd, Nat.zero_add, List.range, List.range.loop])
  obtain ⟨nb1, hnb⟩ : ∃ nb1, nb1 = w'.heap.size := ⟨_, rfl⟩
  refine opCallK (f := 35) (vals := #[]) (M' := fun v u => v = .pointer (some ⟨nb1, 0, none⟩) ∧ NoStk (.pointer (some ⟨zb0, 0, none⟩)) u ∧ NoteAt nb1 [] u ∧ Since B M u) (hM := fun v => gm_ho) h (by kernel_rfl) rfl rfl rfl Try.func35 rfl rfl rfl (fun u hu hs => ?_) fun v w2 h2 _ => ?_
  · refine (newNotes_c u).mono ?_
    rintro e u' ⟨rfl, hb1, hn1, hz1⟩
    rw [hs, ← hnb] at hn1
    have hg : Gr u u' := Gr.of_sm0 hb1 fun _ h => h.elim
    refine ⟨_, rfl, by rw [hs, ← hnb], gm_noStk.keep u u' hg hu.1, ⟨by omega, hn1⟩, hgs.keep u u' hg hu.2⟩
  clear h
  obtain rfl : v = .pointer (some ⟨nb1, 0, none⟩) := by obtain ⟨u, _, hu⟩ := h2.get; exact hu.1
  have h : Kn ⟨none, n⟩ (fun u => NoStk (.pointer (some ⟨zb0, 0, none⟩)) u ∧ NoteAt nb1 [] u ∧ Since B M u) w2 := h2.mono fun u hu => hu.2
  clear h2 hnb
  try walk_nrm
  refine valE O rfl (.pointer (some ⟨nb1, 0, none⟩)) rfl rfl (fun _ => by simp [go_sem]) (fun _ => by go_simp; try (first | rfl | (simp [*]))) ?_; try walk_nrm
  refine cpsR_nil O ?_
  show cps _ _ _ _ _ _
  repeat refine cps_seq O ?_
  (refine cps_region O ?_; simp only [List.size_toArray, List.length_cons, List.length_nil, Nat.reduceAdd, Nat.zero_add, List.range, List.range.loop])
  refine valE O rfl (.pointer (some ⟨zb0, 0, none⟩)) rfl rfl (fun _ => by simp [go_sem]) (fun _ => by go_simp; try (first | rfl | (simp [*]))) ?_; try walk_nrm
  refine valE O rfl (.pointer (some ⟨nb1, 0, none⟩)) rfl rfl (fun _ => by simp [go_sem]) (fun _ => by go_simp; try (first | rfl | (simp [*]))) ?_; try walk_nrm
  refine valE O rfl (noteGate nb1) rfl rfl (fun _ => by simp [go_sem, mi_note]) (fun _ => by go_simp; try rfl) ?_
  try walk_nrm
  refine callE O rfl (f := 13) (vals := #[.pointer (some ⟨zb0, 0, none⟩), noteGate nb1, .int .u64 1]) rfl rfl rfl Try.func13 rfl rfl rfl (push_no h fun w3 h => ?_)
  try walk_nrm
  refine valE O rfl (.tuple #[.bool false, .int .i64 1]) rfl rfl (fun _ => by simp [go_sem]) (fun _ => by go_simp; try (first | rfl | (simp [*]))) ?_; try walk_nrm
  refine valE O rfl (.bool false) rfl rfl (fun _ => by simp [go_sem]) (fun _ => by go_simp; try (first | rfl | (simp [*]))) ?_; try walk_nrm
  refine valE O rfl (.int .i64 1) rfl rfl (fun _ => by simp [go_sem]) (fun _ => by go_simp; try (first | rfl | (simp [*]))) ?_; try walk_nrm
  refine valE O rfl (.bool false) rfl rfl (fun _ => by simp [go_sem]) (fun _ => by go_simp; try (first | rfl | (simp [*]))) ?_; try walk_nrm
  refine valE O rfl (.int .i64 1) rfl rfl (fun _ => by simp [go_sem]) (fun _ => by go_simp; try (first | rfl | (simp [*]))) ?_; try walk_nrm
  refine cpsR_nil O ?_
  show cps _ _ _ _ _ _
  repeat refine cps_seq O ?_
  (refine cps_region O ?_; simp only [List.size_toArray, List.length_cons, List.length_nil, Nat.reduceAdd, Nat.zero_add, List.range, List.range.loop])
  refine valE O rfl (.pointer (some ⟨zb0, 0, none⟩)) rfl rfl (fun _ => by simp [go_sem]) (fun _ => by go_simp; try (first | rfl | (simp [*]))) ?_; try walk_nrm
  refine valE O rfl (.pointer (some ⟨nb1, 0, none⟩)) rfl rfl (fun _ => by simp [go_sem]) (fun _ => by go_simp; try (first | rfl | (simp [*]))) ?_; try walk_nrm
  refine valE O rfl (noteGate nb1) rfl rfl (fun _ => by simp [go_sem, mi_note]) (fun _ => by go_simp; try rfl) ?_
  try walk_nrm
  refine callE O rfl (f := 14) (vals := #[.pointer (some ⟨zb0, 0, none⟩), noteGate nb1]) rfl rfl rfl Try.func14 rfl rfl rfl (pop_no h fun w4 h => ?_)
  try walk_nrm
  refine valE O rfl (.tuple #[.int .u64 0, .bool false, .int .i64 1]) rfl rfl (fun _ => by simp [go_sem]) (fun _ => by go_simp; try (first | rfl | (simp [*]))) ?_; try walk_nrm
  refine valE O rfl (.int .u64 0) rfl rfl (fun _ => by simp [go_sem]) (fun _ => by go_simp; try (first | rfl | (simp [*]))) ?_; try walk_nrm
  refine valE O rfl (.bool false) rfl rfl (fun _ => by simp [go_sem]) (fun _ => by go_simp; try (first | rfl | (simp [*]))) ?_; try walk_nrm
  refine valE O rfl (.int .i64 1) rfl rfl (fun _ => by simp [go_sem]) (fun _ => by go_simp; try (first | rfl | (simp [*]))) ?_; try walk_nrm
  refine valE O rfl (.int .u64 0) rfl rfl (fun _ => by simp [go_sem]) (fun _ => by go_simp; try (first | rfl | (simp [*]))) ?_; try walk_nrm
  refine valE O rfl (.bool false) rfl rfl (fun _ => by simp [go_sem]) (fun _ => by go_simp; try (first | rfl | (simp [*]))) ?_; try walk_nrm
  refine valE O rfl (.int .i64 1) rfl rfl (fun _ => by simp [go_sem]) (fun _ => by go_simp; try (first | rfl | (simp [*]))) ?_; try walk_nrm
  refine cpsR_nil O ?_
  show cps _ _ _ _ _ _
  repeat refine cps_seq O ?_
  (refine cps_region O ?_; simp only [List.size_toArray, List.length_cons, List.length_nil, Nat.reduceAdd, Nat.zero_add, List.range, List.range.loop])
  refine valE O rfl (.bool false) rfl rfl (fun _ => by simp [go_sem]) (fun _ => by go_simp; try (first | rfl | (simp [*]))) ?_; try walk_nrm
  refine valE O rfl (.bool false) rfl rfl (fun _ => by simp [go_sem]) (fun _ => by go_simp; try (first | rfl | (simp [*]))) ?_; try walk_nrm
  refine valE O rfl (.int .i64 1) rfl rfl (fun _ => by simp [go_sem]) (fun _ => by go_simp; try (first | rfl | (simp [*]))) ?_; try walk_nrm
  refine valE O rfl (.bool false) rfl rfl (fun _ => by simp [go_sem]) (fun _ => by go_simp; try (first | rfl | (simp [*]))) ?_; try walk_nrm
  refine valE O rfl (.bool false) rfl rfl (fun _ => by simp [go_sem]) (fun _ => by go_simp; try (first | rfl | (simp [*]))) ?_; try walk_nrm
  refine valE O rfl (.bool false) rfl rfl (fun _ => by simp [go_sem]) (fun _ => by go_simp; try (first | rfl | (simp [*]))) ?_; try walk_nrm
  refine valE O rfl (.int .u64 0) rfl rfl (fun _ => by simp [go_sem]) (fun _ => by go_simp; try (first | rfl | (simp [*]))) ?_; try walk_nrm
  refine valE O rfl (.bool false) rfl rfl (fun _ => by simp [go_sem]) (fun _ => by go_simp; try (first | rfl | (simp [*]))) ?_; try walk_nrm
  refine valE O rfl (.bool false) rfl rfl (fun _ => by simp [go_sem]) (fun _ => by go_simp; try (first | rfl | (simp [*]))) ?_; try walk_nrm
  refine valE O rfl (.bool false) rfl rfl (fun _ => by simp [go_sem]) (fun _ => by go_simp; try (first | rfl | (simp [*]))) ?_; try walk_nrm
  refine valE O rfl (.bool false) rfl rfl (fun _ => by simp [go_sem]) (fun _ => by go_simp; try (first | rfl | (simp [*]))) ?_; try walk_nrm
  refine valE O rfl (.bool false) rfl rfl (fun _ => by simp [go_sem]) (fun _ => by go_simp; try (first | rfl | (simp [*]))) ?_; try walk_nrm
  refine valE O rfl (.bool false) rfl rfl (fun _ => by simp [go_sem]) (fun _ => by go_simp; try (first | rfl | (simp [*]))) ?_; try walk_nrm
  refine valE O rfl (.int .i64 1) rfl rfl (fun _ => by simp [go_sem]) (fun _ => by go_simp; try (first | rfl | (simp [*]))) ?_; try walk_nrm
  refine valE O rfl (.bool false) rfl rfl (fun _ => by simp [go_sem]) (fun _ => by go_simp; try (first | rfl | (simp [*]))) ?_; try walk_nrm
  refine valE O rfl (.bool false) rfl rfl (fun _ => by simp [go_sem]) (fun _ => by go_simp; try (first | rfl | (simp [*]))) ?_; try walk_nrm
  refine valE O rfl (.bool false) rfl rfl (fun _ => by simp [go_sem]) (fun _ => by go_simp; try (first | rfl | (simp [*]))) ?_; try walk_nrm
  refine valE O rfl (.pointer (some ⟨zb0, 0, none⟩)) rfl rfl (fun _ => by simp [go_sem]) (fun _ => by go_simp; try (first | rfl | (simp [*]))) ?_; try walk_nrm
  refine opCallK (f := 15) (vals := #[.pointer (some ⟨zb0, 0, none⟩)]) (M' := fun r u => r = .int .i64 0 ∧ NoteAt nb1 [] u ∧ Since B M u) (hM := fun v => gm_ho) h (by kernel_rfl) rfl rfl rfl Try.func15 rfl rfl rfl (fun u hu hs => (slots_zero (.pointer (some ⟨zb0, 0, none⟩)) u hu.1).mono fun e u' ⟨h1, h2⟩ => ⟨_, h1, rfl, by subst h2; exact hu.2⟩) fun r w5 h5 _ => ?_
  obtain rfl : r = .int .i64 0 := by obtain ⟨u, _, hu⟩ := h5.get; exact hu.1
  clear h
  try walk_nrm
  refine valE O rfl (.bool false) rfl rfl (fun _ => by simp [go_sem]) (fun _ => by go_simp; try (first | rfl | (simp [*]))) ?_; try walk_nrm
  refine valE O rfl (.bool false) rfl rfl (fun _ => by simp [go_sem]) (fun _ => by go_simp; try (first | rfl | (simp [*]))) ?_; try walk_nrm
  refine valE O rfl (.bool false) rfl rfl (fun _ => by simp [go_sem]) (fun _ => by go_simp; try (first | rfl | (simp [*]))) ?_; try walk_nrm
  refine valE O rfl (.pointer (some ⟨nb1, 0, none⟩)) rfl rfl (fun _ => by simp [go_sem]) (fun _ => by go_simp; try (first | rfl | (simp [*]))) ?_; try walk_nrm
  refine opCallK (f := 37) (vals := #[.pointer (some ⟨nb1, 0, none⟩)]) (M' := fun v u => u.ownsRow 0 110 2 v 0 [] ∧ Since B M u) (hM := fun v => gm_ho) h5 (by kernel_rfl) rfl rfl rfl Try.func37 rfl rfl rfl (fun u hu hs => ?_) fun v w6 h6 _ => ?_
  · refine (marks_c nb1 [] u hu.2.1.2 (by decide)).mono ?_
    rintro e u' ⟨v', rfl, h3, h4⟩
    exact ⟨_, rfl, own_zero h3, hgs.keep u u' (Gr.of_sm0 h4 fun _ h => h.elim) hu.2.2⟩
  obtain ⟨va, vc, rfl⟩ : ∃ a c, v = .slice a 0 c := by obtain ⟨u, _, hu⟩ := h6.get; exact own_form0 hu.1
  have h : Kn ⟨none, n⟩ (Since B M) w6 := h6.mono fun u hu => hu.2
  clear h5 h6
  try walk_nrm
  refine valE O rfl (.int .i64 0) rfl rfl (fun _ => by simp [go_sem]) (fun _ => by go_simp; try (first | rfl | (simp [*]))) ?_; try walk_nrm
  refine valE O rfl (.bool false) rfl rfl (fun _ => by simp [go_sem]) (fun _ => by go_simp; try (first | rfl | (simp [*]))) ?_; try walk_nrm
  refine valE O rfl (.bool false) rfl rfl (fun _ => by simp [go_sem]) (fun _ => by go_simp; try (first | rfl | (simp [*]))) ?_; try walk_nrm
  refine cpsR_nil O ?_
  show cps _ _ _ _ _ _
  refine cps_cond O (v := false) rfl ?_
  simp only [Bool.false_eq_true, if_false]
  refine cps_skip O ?_
  show cps _ _ _ _ _ _
  obtain ⟨zb1, hzb1⟩ : ∃ zb1, zb1 = w6.heap.size := ⟨_, rfl⟩
  (refine cps_region O ?_; simp only [List.size_toArray, List.length_cons, List.length_nil, Nat.reduceAdd, Nat.zero_add, List.range, List.range.loop])
  refine valE O rfl (.agg #[.int .u64 0, .int .u64 0, .slice none 0 0]) rfl rfl (fun _ => by simp [go_sem]) (fun _ => by go_simp; try (first | rfl | (simp [*]))) ?_; try walk_nrm
  refine opK (M' := fun u => NoStk (.pointer (some ⟨zb1, 0, none⟩)) u ∧ Since B M u) h (.pointer (some ⟨zb1, 0, none⟩)) rfl (by kernel_rfl) rfl (fun u hu hs => ⟨u.alloc (Obj.cells #[.int .u64 0, .int .u64 0, .slice none 0 0] 107), .inl ?_, ?_⟩) fun w7 h7 _ => ?_
  · rw [hzb1, ← hs]; go_simp
  · have hg : Gr u (u.alloc (Obj.cells #[.int .u64 0, .int .u64 0, .slice none 0 0] 107)) := Gr.of_sm0 (F := fun _ => False) ((Sm.refl _ _).alloc _) fun _ h => h.elim
    exact ⟨.inr ⟨zb1, rfl, by rw [hzb1, ← hs]; exact Row.new u _ _⟩, hgs.keep u _ hg hu⟩
  clear h hzb1
  try walk_nrm
  refine valE O rfl (.pointer (some ⟨zb1, 0, none⟩)) rfl rfl (fun _ => by simp [go_sem]) (fun _ => by go_simp; try (first | rfl | (simp [*]))) ?_; try walk_nrm
  refine cpsR_nil O ?_
  show cps _ _ _ _ _ _
  (refine cps_region O ?_; simp only [List.size_toArray, List.length_cons, List.length_nil, Nat.reduceAdd, Nat.zero_add, List.range, List.range.loop])
  refine valE O rfl (.int .i64 1) rfl rfl (fun _ => by simp [go_sem]) (fun _ => by go_simp; try (first | rfl | (simp [*]))) ?_; try walk_nrm
  refine valE O rfl (.int .i64 2) rfl rfl (fun _ => by simp [go_sem]) (fun _ => by go_simp; try (first | rfl | (simp [*]))) ?_; try walk_nrm
  refine valE O rfl (.int .i64 2) rfl rfl (fun _ => by simp [go_sem]) (fun _ => by go_simp; try (first | rfl | (simp [*]))) ?_; try walk_nrm
  refine cpsR_nil O ?_
  have h := h7
  clear h7
  refine cpsL_step O ?_
  repeat refine cps_seq O ?_
  (refine cps_region O ?_; simp only [List.size_toArray, List.length_cons, List.length_nil, Nat.reduceAdd, Nat.zero_add, List.range, List.range.loop])
  refine valE O rfl (.int .i64 2) rfl rfl (fun _ => by simp [go_sem]) (fun _ => by go_simp; try (first | rfl | (simp [*]))) ?_; try walk_nrm
  refine valE O rfl (.bool false) rfl rfl (fun _ => by simp [go_sem]) (fun _ => by go_simp; try (first | rfl | (simp [*]))) ?_; try walk_nrm
  refine cpsR_nil O ?_
  show cps _ _ _ _ _ _
  refine cps_cond O (v := false) rfl ?_
  simp only [Bool.false_eq_true, if_false]
  refine cps_exit O ?_
  have h : Kn ⟨none, n⟩ (Since B M) _ := h.mono fun u hu => hu.2
  show cps _ _ _ _ _ _
  repeat refine cps_seq O ?_
  (refine cps_region O ?_; simp only [List.size_toArray, List.length_cons, List.length_nil, Nat.reduceAdd, Nat.zero_add, List.range, List.range.loop])
  refine opCallK (f := 12) (vals := #[.int .i64 0]) (M' := fun v u => v = .tuple #[.pointer none, .int .i64 2] ∧ Since B M u) (hM := fun v => gm_ho) h (by kernel_rfl) rfl rfl rfl Try.func12 rfl rfl rfl (fun u hu hs => (new_err 0 (by decide +kernel) u).mono fun e u' ⟨h1, h2⟩ => ⟨_, h1, rfl, by subst h2; exact hu⟩) fun v w8 h8 _ => ?_
  obtain rfl : v = .tuple #[.pointer none, .int .i64 2] := by obtain ⟨u, _, hu⟩ := h8.get; exact hu.1
  have h : Kn ⟨none, n⟩ (Since B M) w8 := h8.mono fun u hu => hu.2
  clear h8
  try walk_nrm
  refine valE O rfl (.tuple #[.pointer none, .int .i64 2]) rfl rfl (fun _ => by simp [go_sem]) (fun _ => by go_simp; try (first | rfl | (simp [*]))) ?_; try walk_nrm
  refine valE O rfl (.pointer none) rfl rfl (fun _ => by simp [go_sem]) (fun _ => by go_simp; try (first | rfl | (simp [*]))) ?_; try walk_nrm
  refine valE O rfl (.int .i64 2) rfl rfl (fun _ => by simp [go_sem]) (fun _ => by go_simp; try (first | rfl | (simp [*]))) ?_; try walk_nrm
  refine valE O rfl (.pointer none) rfl rfl (fun _ => by simp [go_sem]) (fun _ => by go_simp; try (first | rfl | (simp [*]))) ?_; try walk_nrm
  refine valE O rfl (.int .i64 2) rfl rfl (fun _ => by simp [go_sem]) (fun _ => by go_simp; try (first | rfl | (simp [*]))) ?_; try walk_nrm
  refine cpsR_nil O ?_
  show cps _ _ _ _ _ _
  repeat refine cps_seq O ?_
  (refine cps_region O ?_; simp only [List.size_toArray, List.length_cons, List.length_nil, Nat.reduceAdd, Nat.zero_add, List.range, List.range.loop])
  refine opCallK (f := 12) (vals := #[.int .i64 3]) (M' := fun v u => v = .tuple #[.pointer none, .int .i64 2] ∧ Since B M u) (hM := fun v => gm_ho) h (by kernel_rfl) rfl rfl rfl Try.func12 rfl rfl rfl (fun u hu hs => (new_err 3 (by decide +kernel) u).mono fun e u' ⟨h1, h2⟩ => ⟨_, h1, rfl, by subst h2; exact hu⟩) fun v w8 h8 _ => ?_
  obtain rfl : v = .tuple #[.pointer none, .int .i64 2] := by obtain ⟨u, _, hu⟩ := h8.get; exact hu.1
  have h : Kn ⟨none, n⟩ (Since B M) w8 := h8.mono fun u hu => hu.2
  clear h8
  try walk_nrm
  refine valE O rfl (.tuple #[.pointer none, .int .i64 2]) rfl rfl (fun _ => by simp [go_sem]) (fun _ => by go_simp; try (first | rfl | (simp [*]))) ?_; try walk_nrm
  refine valE O rfl (.pointer none) rfl rfl (fun _ => by simp [go_sem]) (fun _ => by go_simp; try (first | rfl | (simp [*]))) ?_; try walk_nrm
  refine valE O rfl (.int .i64 2) rfl rfl (fun _ => by simp [go_sem]) (fun _ => by go_simp; try (first | rfl | (simp [*]))) ?_; try walk_nrm
  refine valE O rfl (.pointer none) rfl rfl (fun _ => by simp [go_sem]) (fun _ => by go_simp; try (first | rfl | (simp [*]))) ?_; try walk_nrm
  refine valE O rfl (.int .i64 2) rfl rfl (fun _ => by simp [go_sem]) (fun _ => by go_simp; try (first | rfl | (simp [*]))) ?_; try walk_nrm
  refine cpsR_nil O ?_
  show cps _ _ _ _ _ _
  repeat refine cps_seq O ?_
  (refine cps_region O ?_; simp only [List.size_toArray, List.length_cons, List.length_nil, Nat.reduceAdd, Nat.zero_add, List.range, List.range.loop])
  refine opCallK (f := 12) (vals := #[.int .i64 2048]) (M' := fun v u => v = .tuple #[.pointer none, .int .i64 2] ∧ Since B M u) (hM := fun v => gm_ho) h (by kernel_rfl) rfl rfl rfl Try.func12 rfl rfl rfl (fun u hu hs => (new_err 2048 (by decide +kernel) u).mono fun e u' ⟨h1, h2⟩ => ⟨_, h1, rfl, by subst h2; exact hu⟩) fun v w8 h8 _ => ?_
  obtain rfl : v = .tuple #[.pointer none, .int .i64 2] := by obtain ⟨u, _, hu⟩ := h8.get; exact hu.1
  have h : Kn ⟨none, n⟩ (Since B M) w8 := h8.mono fun u hu => hu.2
  clear h8
  try walk_nrm
  refine valE O rfl (.tuple #[.pointer none, .int .i64 2]) rfl rfl (fun _ => by simp [go_sem]) (fun _ => by go_simp; try (first | rfl | (simp [*]))) ?_; try walk_nrm
  refine valE O rfl (.pointer none) rfl rfl (fun _ => by simp [go_sem]) (fun _ => by go_simp; try (first | rfl | (simp [*]))) ?_; try walk_nrm
  refine valE O rfl (.int .i64 2) rfl rfl (fun _ => by simp [go_sem]) (fun _ => by go_simp; try (first | rfl | (simp [*]))) ?_; try walk_nrm
  refine valE O rfl (.pointer none) rfl rfl (fun _ => by simp [go_sem]) (fun _ => by go_simp; try (first | rfl | (simp [*]))) ?_; try walk_nrm
  refine valE O rfl (.int .i64 2) rfl rfl (fun _ => by simp [go_sem]) (fun _ => by go_simp; try (first | rfl | (simp [*]))) ?_; try walk_nrm
  refine cpsR_nil O ?_
  show cps _ _ _ _ _ _
  repeat refine cps_seq O ?_
  (refine cps_region O ?_; simp only [List.size_toArray, List.length_cons, List.length_nil, Nat.reduceAdd, Nat.zero_add, List.range, List.range.loop])
  refine opCallK (f := 12) (vals := #[.int .i64 (-4)]) (M' := fun v u => v = .tuple #[.pointer none, .int .i64 2] ∧ Since B M u) (hM := fun v => gm_ho) h (by kernel_rfl) rfl rfl rfl Try.func12 rfl rfl rfl (fun u hu hs => (new_err (-4) (by decide +kernel) u).mono fun e u' ⟨h1, h2⟩ => ⟨_, h1, rfl, by subst h2; exact hu⟩) fun v w8 h8 _ => ?_
  obtain rfl : v = .tuple #[.pointer none, .int .i64 2] := by obtain ⟨u, _, hu⟩ := h8.get; exact hu.1
  have h : Kn ⟨none, n⟩ (Since B M) w8 := h8.mono fun u hu => hu.2
  clear h8
  try walk_nrm
  refine valE O rfl (.tuple #[.pointer none, .int .i64 2]) rfl rfl (fun _ => by simp [go_sem]) (fun _ => by go_simp; try (first | rfl | (simp [*]))) ?_; try walk_nrm
  refine valE O rfl (.pointer none) rfl rfl (fun _ => by simp [go_sem]) (fun _ => by go_simp; try (first | rfl | (simp [*]))) ?_; try walk_nrm
  refine valE O rfl (.int .i64 2) rfl rfl (fun _ => by simp [go_sem]) (fun _ => by go_simp; try (first | rfl | (simp [*]))) ?_; try walk_nrm
  refine valE O rfl (.pointer none) rfl rfl (fun _ => by simp [go_sem]) (fun _ => by go_simp; try (first | rfl | (simp [*]))) ?_; try walk_nrm
  refine valE O rfl (.int .i64 2) rfl rfl (fun _ => by simp [go_sem]) (fun _ => by go_simp; try (first | rfl | (simp [*]))) ?_; try walk_nrm
  refine cpsR_nil O ?_
  show cps _ _ _ _ _ _
  obtain ⟨N, hN⟩ : ∃ N, N = w8.heap.size := ⟨_, rfl⟩
  have hNB : B ≤ N := by
    obtain ⟨u, hp, u0, _, q2, q3⟩ := h.get
    rw [hN, ← hp.size, ← q3]; exact q2.size
  obtain ⟨S, hS⟩ : ∃ S, S = N + 1 := ⟨_, rfl⟩
  repeat refine cps_seq O ?_
  (refine cps_region O ?_; simp only [List.size_toArray, List.length_cons, List.length_nil, Nat.reduceAdd, Nat.zero_add, List.range, List.range.loop])
  refine opCallK (f := 12) (vals := #[.int .i64 1024]) (M' := fun v u => v = .tuple #[.pointer (some ⟨S, 0, none⟩), .int .i64 0] ∧ Row u S (hdr 0 1 N 1024) 107 ∧ Since B M u) (hM := fun v => gm_ho) h (by kernel_rfl) rfl rfl rfl Try.func12 rfl rfl rfl (fun u hu hs => ?_) fun v w9 h9 _ => ?_
  · refine (new_ok 1024 (by decide) (by decide) (by decide +kernel) u).mono ?_
    rintro e u' ⟨rfl, hb1, hs1⟩
    rw [hs, ← hN, ← hS] at hs1
    exact ⟨_, rfl, by rw [hs, ← hN, ← hS], hs1.rS, hgs.keep u u' (Gr.of_below hb1) hu⟩
  obtain rfl : v = .tuple #[.pointer (some ⟨S, 0, none⟩), .int .i64 0] := by obtain ⟨u, _, hu⟩ := h9.get; exact hu.1
  have h : Kn ⟨none, n⟩ (fun u => Row u S (hdr 0 1 N 1024) 107 ∧ Since B M u) w9 := h9.mono fun u hu => hu.2
  clear h9 hN
  try walk_nrm
  refine valE O rfl (.tuple #[.pointer (some ⟨S, 0, none⟩), .int .i64 0]) rfl rfl (fun _ => by simp [go_sem]) (fun _ => by go_simp; try (first | rfl | (simp [*]))) ?_; try walk_nrm
  refine valE O rfl (.pointer (some ⟨S, 0, none⟩)) rfl rfl (fun _ => by simp [go_sem]) (fun _ => by go_simp; try (first | rfl | (simp [*]))) ?_; try walk_nrm
  refine valE O rfl (.int .i64 0) rfl rfl (fun _ => by simp [go_sem]) (fun _ => by go_simp; try (first | rfl | (simp [*]))) ?_; try walk_nrm
  refine valE O rfl (.pointer (some ⟨S, 0, none⟩)) rfl rfl (fun _ => by simp [go_sem]) (fun _ => by go_simp; try (first | rfl | (simp [*]))) ?_; try walk_nrm
  refine valE O rfl (.int .i64 0) rfl rfl (fun _ => by simp [go_sem]) (fun _ => by go_simp; try (first | rfl | (simp [*]))) ?_; try walk_nrm
  refine cpsR_nil O ?_
  show cps _ _ _ _ _ _
  have hgs2 : GM fun u => Row u S (hdr 0 1 N 1024) 107 ∧ Since B M u := gm_and
  repeat refine cps_seq O ?_
  (refine cps_region O ?_; simp only [List.size_toArray, List.length_cons, List.length_nil, Nat.reduceAdd, Nat.zero_add, List.range, List.range.loop])
  refine valE O rfl (.bool true) rfl rfl (fun _ => by simp [go_sem]) (fun _ => by go_simp; try (first | rfl | (simp [*]))) ?_; try walk_nrm
  refine callE O rfl (f := 10) (vals := #[]) rfl rfl rfl Try.func10 rfl rfl rfl (awake_l h fun w10 h _ => ?_)
  try walk_nrm
  refine valE O rfl (.bool true) rfl rfl (fun _ => by simp [go_sem]) (fun _ => by go_simp; try (first | rfl | (simp [*]))) ?_; try walk_nrm
  refine valE O rfl (.bool true) rfl rfl (fun _ => by simp [go_sem]) (fun _ => by go_simp; try (first | rfl | (simp [*]))) ?_; try walk_nrm
  refine valE O rfl (.int .i64 2) rfl rfl (fun _ => by simp [go_sem]) (fun _ => by go_simp; try (first | rfl | (simp [*]))) ?_; try walk_nrm
  refine valE O rfl (.bool true) rfl rfl (fun _ => by simp [go_sem]) (fun _ => by go_simp; try (first | rfl | (simp [*]))) ?_; try walk_nrm
  refine valE O rfl (.bool true) rfl rfl (fun _ => by simp [go_sem]) (fun _ => by go_simp; try (first | rfl | (simp [*]))) ?_; try walk_nrm
  refine valE O rfl (.bool true) rfl rfl (fun _ => by simp [go_sem]) (fun _ => by go_simp; try (first | rfl | (simp [*]))) ?_; try walk_nrm
  refine valE O rfl (.int .i64 2) rfl rfl (fun _ => by simp [go_sem]) (fun _ => by go_simp; try (first | rfl | (simp [*]))) ?_; try walk_nrm
  refine valE O rfl (.bool true) rfl rfl (fun _ => by simp [go_sem]) (fun _ => by go_simp; try (first | rfl | (simp [*]))) ?_; try walk_nrm
  refine valE O rfl (.bool true) rfl rfl (fun _ => by simp [go_sem]) (fun _ => by go_simp; try (first | rfl | (simp [*]))) ?_; try walk_nrm
  refine valE O rfl (.bool true) rfl rfl (fun _ => by simp [go_sem]) (fun _ => by go_simp; try (first | rfl | (simp [*]))) ?_; try walk_nrm
  refine valE O rfl (.int .i64 2) rfl rfl (fun _ => by simp [go_sem]) (fun _ => by go_simp; try (first | rfl | (simp [*]))) ?_; try walk_nrm
  refine valE O rfl (.bool true) rfl rfl (fun _ => by simp [go_sem]) (fun _ => by go_simp; try (first | rfl | (simp [*]))) ?_; try walk_nrm
  refine valE O rfl (.bool true) rfl rfl (fun _ => by simp [go_sem]) (fun _ => by go_simp; try (first | rfl | (simp [*]))) ?_; try walk_nrm
  refine valE O rfl (.bool true) rfl rfl (fun _ => by simp [go_sem]) (fun _ => by go_simp; try (first | rfl | (simp [*]))) ?_; try walk_nrm
  refine valE O rfl (.int .i64 2) rfl rfl (fun _ => by simp [go_sem]) (fun _ => by go_simp; try (first | rfl | (simp [*]))) ?_; try walk_nrm
  refine valE O rfl (.bool true) rfl rfl (fun _ => by simp [go_sem]) (fun _ => by go_simp; try (first | rfl | (simp [*]))) ?_; try walk_nrm
  refine valE O rfl (.bool true) rfl rfl (fun _ => by simp [go_sem]) (fun _ => by go_simp; try (first | rfl | (simp [*]))) ?_; try walk_nrm
  refine valE O rfl (.bool true) rfl rfl (fun _ => by simp [go_sem]) (fun _ => by go_simp; try (first | rfl | (simp [*]))) ?_; try walk_nrm
  refine valE O rfl (.int .i64 0) rfl rfl (fun _ => by simp [go_sem]) (fun _ => by go_simp; try (first | rfl | (simp [*]))) ?_; try walk_nrm
  refine valE O rfl (.bool true) rfl rfl (fun _ => by simp [go_sem]) (fun _ => by go_simp; try (first | rfl | (simp [*]))) ?_; try walk_nrm
  refine valE O rfl (.bool true) rfl rfl (fun _ => by simp [go_sem]) (fun _ => by go_simp; try (first | rfl | (simp [*]))) ?_; try walk_nrm
  refine valE O rfl (.bool true) rfl rfl (fun _ => by simp [go_sem]) (fun _ => by go_simp; try (first | rfl | (simp [*]))) ?_; try walk_nrm
  refine valE O rfl (.pointer (some ⟨S, 0, none⟩)) rfl rfl (fun _ => by simp [go_sem]) (fun _ => by go_simp; try (first | rfl | (simp [*]))) ?_; try walk_nrm
  refine callE O rfl (f := 15) (vals := #[.pointer (some ⟨S, 0, none⟩)]) rfl rfl rfl Try.func15 rfl rfl rfl (slots_e (n := 1024) (M := fun u => Row u S (hdr 0 1 N 1024) 107 ∧ Since B M u) (fun u hu => hu.1) inferInstance (by decide) h fun w11 h => ?_)
  try walk_nrm
  refine valE O rfl (.bool true) rfl rfl (fun _ => by simp [go_sem]) (fun _ => by go_simp; try (first | rfl | (simp [*]))) ?_; try walk_nrm
  refine valE O rfl (.bool true) rfl rfl (fun _ => by simp [go_sem]) (fun _ => by go_simp; try (first | rfl | (simp [*]))) ?_; try walk_nrm
  refine valE O rfl (.bool true) rfl rfl (fun _ => by simp [go_sem]) (fun _ => by go_simp; try (first | rfl | (simp [*]))) ?_; try walk_nrm
  have hB11 : B ≤ w11.heap.size := by
    obtain ⟨u, hp, _, u0, _, q2, q3⟩ := h.get
    rw [← hp.size, ← q3]; exact q2.size
  refine callE O rfl (f := 7) (vals := #[.int .u64 1, .int .u64 2, .int .u64 3]) rfl rfl rfl Try.func7 rfl rfl rfl (tags_c (a := 1) (b := 2) (c := 3) hW hn0 hn (by decide) (by decide) (by decide) h fun Wg w12 hWg h12 => ?_)
  have h : Kn ⟨some Wg, n + 3⟩ M w12 := h12.mono fun u hu => by obtain ⟨_, u0, q1, q2, _⟩ := hu; exact GM.keep u0 u q2 q1
  try walk_nrm
  refine valE O rfl (.bool true) rfl rfl (fun _ => by simp [go_sem]) (fun _ => by go_simp; try (first | rfl | (simp [*]))) ?_; try walk_nrm
  refine valE O rfl (.bool true) rfl rfl (fun _ => by simp [go_sem]) (fun _ => by go_simp; try (first | rfl | (simp [*]))) ?_; try walk_nrm
  refine cpsR_nil O ?_
  exact cps_ret O (hQ _ _ _ _ (Hq.out Wg _ w12 (by omega) rfl h))
end
end Go.Proofs.Ytmcffabfghhpaaa
/- PROVED: patchbaylaw08.StackNames answers true, on every schedule. No condition. -/
namespace Go.Proofs.Ytmcffabfghhpaaa.stackNames
open Go.Conc Go.ChangeShapes Go.WideShapes Go.ChangeAt Go.RowKit Go.Deep
set_option linter.unusedVariables false

set_option maxRecDepth 100000 in
theorem run (W : World) : GoodEnd Try.prog (fun v W' => v = .bool true ∧ Gr W W') (solo (G (Frame.enter Try.prog 9 #[] .normal) []) W) #[] := by
  refine law_good (c := Try.f9.body.getD .skip) Try.func9 rfl (by decide) ?_
  simp only [Try.ntmps9]
  have e : (#[] : Array Value) ++ Array.replicate (119 - (#[] : Array Value).size) undef = Array.replicate 119 undef := by simp
  rw [e]
  refine names_b (M := Gr W) back_goodEnd (n := 1) (by decide) (by decide) (Kn.of_true rfl (Gr.refl W)) fun Wg t' w' hWg ht h => ⟨rfl, .bool true, fun w₁ hR => ⟨#[], ?_, ⟨Nat.le_refl _, by simp⟩⟩, fun w₁ hR => ⟨rfl, ?_⟩⟩
  · rw [Sem.runT_eq, results_tmp (t := 0) rfl, events_results_tmp (t := 0) rfl, ht]
  · obtain ⟨u, hu, hg⟩ := (h.at hR).get
    refine ⟨by rw [← hu.size]; exact hg.size, fun x hx => ?_, hu.os.symm.trans hg.os, hu.output.symm.trans hg.out⟩
    rw [← hu.heap x fun hF => ?_]
    · exact hg.block x hx
    · have hF : some Wg = some x := hF
      have := Option.some.inj hF
      omega

set_option maxRecDepth 100000 in
theorem lifted (os : Os) (started : os.Started) (H : Type) (enc : TypeId × Value → H) :
    ReturnsInLeavingWide {} Try.checked os 9 .any (Rows.stackNamesSpec.pre6 enc Try.prog Try.f9 Rows.stackNamesRow.domain false) (Rows.stackNamesSpec.post enc Try.prog Try.f9 false true false false) := by
  refine returnsInLeavingWide_of_change_sized (C := Try.checked) own_knob started Try.func9
    (ChangeSpec.witness6 (C := Try.checked) false ⟨#[], #[], []⟩ 8 (by kernel_rfl) (by kernel_rfl) (by kernel_rfl) (by kernel_rfl)) ?_
  intro W base args ds gs before hval hW _ _ _
  have hW' := hW
  obtain ⟨p, q, hA0, hV, rfl, hfz, hnd⟩ := hW
  have hA : DataW.TrodAll enc Try.prog W 0 (fun _ => true) true Try.f9.params.toList args.toList ds p := hA0
  rw [Try.params9] at hA hval
  obtain ⟨hargs, rfl, rfl⟩ := trodAll_nil hA
  obtain rfl : args = #[] := by cases args; simp_all
  obtain ⟨N, last, o, w', t', g1, g2, g3, g4⟩ := run W
  refine ⟨N, last, o, w', t', g1, g2, g3, g4.mono fun v hv => ?_⟩
  obtain ⟨rfl, hg⟩ := hv
  exact law_post_gr laid_out (readable_of _ (by kernel_rfl)) rfl (tb := 4) (by kernel_rfl) Try.underlying4 hW' rfl hg

theorem proved : Rows.StackNamesSaid :=
  OpenClaim.holds_of_wide_leaving 9 Try.f9 rfl rfl rfl rfl rfl rfl rfl ⟨rfl, rfl, rfl, rfl, rfl⟩ rfl rfl rfl rfl rfl (by kernel_rfl) Try.func9 (by kernel_rfl)
    (of_decide_eq_true (by kernel_rfl)) (by unfold Func.isWrapper; first | (rw [if_pos (by decide +kernel)]; kernel_rfl) | (rw [if_neg (by decide +kernel)]; exact ⟨rfl, rfl⟩))
    (fun os started H enc _ => lifted os started H enc)
#print axioms proved
end Go.Proofs.Ytmcffabfghhpaaa.stackNames
