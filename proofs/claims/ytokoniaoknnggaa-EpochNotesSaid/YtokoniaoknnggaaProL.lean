/- The plain law: the reference's programs, run, answer as a domain does. -/
import Derived.Test.YtokoniaoknnggaaProC
import Derived.Test.YtokoniaoknnggaaProB
namespace Go.Proofs.Ytokoniaoknnggaa
open Go.RowKit
set_option linter.unusedVariables false
set_option linter.unusedSimpArgs false

def zr : List Nat := List.replicate 24 0
/-- A thread in the midst of its one call. -/
def st (at_ : Nat) (r : List Nat) (told : List Nat) : MS := ⟨0, at_, r, [(false, told)], false⟩
def fin (told : List Nat) : MS := ⟨1, 0, zr, [(true, told)], true⟩
abbrev one (P : List In) : List (List In × List Nat) := [(P, [])]
theorem begun_st (a : Nat) (r told : List Nat) : begun (st a r told) = st a r told := rfl
theorem instr_st (P : List In) (a : Nat) (r told : List Nat) : instrAt (one P) (st a r told) = P[a]?.getD finishI := rfl
theorem st_over (a : Nat) (r told : List Nat) : ¬ (st a r told).over = true := fun h => Bool.noConfusion h
theorem st_call (P : List In) (a : Nat) (r told : List Nat) : ¬ (one P).length ≤ (st a r told).call := Nat.not_succ_le_zero 0
theorem on_start (P : List In) (k : Nat) : onF (one P) (k + 1) startS = onF (one P) (k + 1) (st 0 zr []) := rfl
theorem on_go {P : List In} {a : Nat} {r told : List Nat} {x : In} {k : Nat} {s2 : MS} (hx : P[a]? = some x) (h1 : ¬ (1 ≤ x.d ∧ x.d ≤ 5)) (h2 : x.d ≠ 23) (ho : ownS x (st a r told) = some s2) : onF (one P) (k + 1) (st a r told) = onF (one P) k s2 := by
  conv => lhs; unfold onF
  rw [begun_st, instr_st, hx]
  simp only [Option.getD_some]
  rw [if_neg (st_over a r told), if_neg (st_call P a r told), if_neg h1, if_neg h2, ho]
theorem on_told {P : List In} {a : Nat} {r told : List Nat} {x : In} {k : Nat} (hx : P[a]? = some x) (h1 : 1 ≤ x.d ∧ x.d ≤ 5) : onF (one P) (k + 1) (st a r told) = some (st a r told) := by
  conv => lhs; unfold onF
  rw [begun_st, instr_st, hx]
  simp only [Option.getD_some]
  rw [if_neg (st_over a r told), if_neg (st_call P a r told), if_pos h1]
theorem on_end {P : List In} {a : Nat} {r told : List Nat} {k : Nat} (hx : P[a]? = none) : onF (one P) (k + 2) (st a r told) = some (fin told) := by
  conv => lhs; unfold onF
  rw [begun_st, instr_st, hx]
  simp only [Option.getD_none]
  rw [if_neg (st_over a r told), if_neg (st_call P a r told), if_neg (by decide), if_pos (show finishI.d = 23 from rfl)]
  rfl
theorem on_tell {P : List In} {a : Nat} {r told : List Nat} {o x b c e n : Nat} {k : Nat} (hx : P[a]? = some ⟨22, o, x, b, c, e, n⟩) (h : x < 24 ∧ b < 24 ∧ c < 24 ∧ n < 18446744073709551616 ∧ a < 999999) (ht : told.length < 900000) : onF (one P) (k + 1) (st a r told) = onF (one P) k (st (a + 1) r (told ++ [r[x]?.getD 0])) :=
  on_go hx (by simp) (by simp) (by
    have h0 : (st a r told).ans[(st a r told).call]? = some (false, told) := rfl
    show (if x < 24 ∧ b < 24 ∧ c < 24 ∧ n < 18446744073709551616 ∧ a < 999999 then _ else _) = _
    rw [if_pos h]
    simp only [h0, ht, if_true]
    rfl)
theorem on_set {P : List In} {a : Nat} {r told : List Nat} {o x b c e n : Nat} {k : Nat} (hx : P[a]? = some ⟨6, o, x, b, c, e, n⟩) (h : x < 24 ∧ b < 24 ∧ c < 24 ∧ n < 18446744073709551616 ∧ a < 999999) : onF (one P) (k + 1) (st a r told) = onF (one P) k (st (a + 1) (r.set x n) told) :=
  on_go hx (by simp) (by simp) (by show (if x < 24 ∧ b < 24 ∧ c < 24 ∧ n < 18446744073709551616 ∧ a < 999999 then _ else _) = _; rw [if_pos h]; rfl)
theorem on_copy {P : List In} {a : Nat} {r told : List Nat} {o x b c e n : Nat} {k : Nat} (hx : P[a]? = some ⟨7, o, x, b, c, e, n⟩) (h : x < 24 ∧ b < 24 ∧ c < 24 ∧ n < 18446744073709551616 ∧ a < 999999) : onF (one P) (k + 1) (st a r told) = onF (one P) k (st (a + 1) (r.set x (r[b]?.getD 0)) told) :=
  on_go hx (by simp) (by simp) (by show (if x < 24 ∧ b < 24 ∧ c < 24 ∧ n < 18446744073709551616 ∧ a < 999999 then _ else _) = _; rw [if_pos h]; rfl)
theorem on_plus {P : List In} {a : Nat} {r told : List Nat} {o x b c e n : Nat} {k : Nat} (hx : P[a]? = some ⟨8, o, x, b, c, e, n⟩) (h : x < 24 ∧ b < 24 ∧ c < 24 ∧ n < 18446744073709551616 ∧ a < 999999) : onF (one P) (k + 1) (st a r told) = onF (one P) k (st (a + 1) (r.set x ((r[b]?.getD 0 + r[c]?.getD 0 + n) % 18446744073709551616)) told) :=
  on_go hx (by simp) (by simp) (by show (if x < 24 ∧ b < 24 ∧ c < 24 ∧ n < 18446744073709551616 ∧ a < 999999 then _ else _) = _; rw [if_pos h]; rfl)
theorem on_less {P : List In} {a : Nat} {r told : List Nat} {o x b c e n : Nat} {k : Nat} (hx : P[a]? = some ⟨9, o, x, b, c, e, n⟩) (h : x < 24 ∧ b < 24 ∧ c < 24 ∧ n < 18446744073709551616 ∧ a < 999999) : onF (one P) (k + 1) (st a r told) = onF (one P) k (st (a + 1) (r.set x ((r[b]?.getD 0 + 18446744073709551616 - r[c]?.getD 0) % 18446744073709551616)) told) :=
  on_go hx (by simp) (by simp) (by show (if x < 24 ∧ b < 24 ∧ c < 24 ∧ n < 18446744073709551616 ∧ a < 999999 then _ else _) = _; rw [if_pos h]; rfl)
theorem on_jump {P : List In} {a : Nat} {r told : List Nat} {o x b c e n : Nat} {k : Nat} (hx : P[a]? = some ⟨18, o, x, b, c, e, n⟩) (h : x < 24 ∧ b < 24 ∧ c < 24 ∧ n < 18446744073709551616 ∧ a < 999999) (hn : n < 1000000) : onF (one P) (k + 1) (st a r told) = onF (one P) k (st n r told) :=
  on_go hx (by simp) (by simp) (by show (if x < 24 ∧ b < 24 ∧ c < 24 ∧ n < 18446744073709551616 ∧ a < 999999 then _ else _) = _; rw [if_pos h]; simp only [hn, if_true]; rfl)
theorem on_same {P : List In} {a : Nat} {r told : List Nat} {o x b c e n : Nat} {k : Nat} (hx : P[a]? = some ⟨19, o, x, b, c, e, n⟩) (h : x < 24 ∧ b < 24 ∧ c < 24 ∧ n < 18446744073709551616 ∧ a < 999999) (hn : n < 1000000) : onF (one P) (k + 1) (st a r told) = onF (one P) k (st (if r[x]?.getD 0 = r[b]?.getD 0 then n else a + 1) r told) :=
  on_go hx (by simp) (by simp) (by show (if x < 24 ∧ b < 24 ∧ c < 24 ∧ n < 18446744073709551616 ∧ a < 999999 then _ else _) = _; rw [if_pos h]; simp only [hn, if_true]; rfl)
theorem on_below {P : List In} {a : Nat} {r told : List Nat} {o x b c e n : Nat} {k : Nat} (hx : P[a]? = some ⟨20, o, x, b, c, e, n⟩) (h : x < 24 ∧ b < 24 ∧ c < 24 ∧ n < 18446744073709551616 ∧ a < 999999) (hn : n < 1000000) : onF (one P) (k + 1) (st a r told) = onF (one P) k (st (if r[x]?.getD 0 < r[b]?.getD 0 then n else a + 1) r told) :=
  on_go hx (by simp) (by simp) (by show (if x < 24 ∧ b < 24 ∧ c < 24 ∧ n < 18446744073709551616 ∧ a < 999999 then _ else _) = _; rw [if_pos h]; simp only [hn, if_true]; rfl)
/-- Two tells at a program's end. -/
theorem on_tell2 {P : List In} {a : Nat} {r : List Nat} {k : Nat} (h0 : P[a]? = some ⟨22, 0, 0, 0, 0, 0, 0⟩) (h1 : P[a + 1]? = some ⟨22, 0, 1, 0, 0, 0, 0⟩) (h2 : P[a + 1 + 1]? = none) (ha : a < 999990) : onF (one P) (k + 4) (st a r []) = some (fin [r[0]?.getD 0, r[1]?.getD 0]) := by
  rw [on_tell h0 (by omega) (by simp), on_tell h1 (by omega) (by simp), on_end h2]
  rfl
theorem play_fin (P : List In) (N k : Nat) (W : List (List Nat)) (told : List Nat) (tr : List (Nat × Nat)) : playF (one P) N (k + 1) W (fin told) tr = some (fin told, W, tr) := by
  unfold playF
  rw [if_pos (show (fin told).over = true from rfl)]
theorem play_op {P : List In} {N k a : Nat} {W W1 : List (List Nat)} {r told : List Nat} {tr : List (Nat × Nat)} {x : In} {s1 s2 : MS} {mk : Nat × Nat} (hx : P[a]? = some x) (ho : opS x W (st a r told) = some (s1, W1, mk)) (hn : onF (one P) N s1 = some s2) : playF (one P) N (k + 1) W (st a r told) tr = playF (one P) N k W1 s2 (tr ++ [mk]) := by
  conv => lhs; unfold playF
  rw [if_neg (st_over a r told), instr_st, hx]
  simp only [Option.getD_some, ho, hn]
theorem op_ld {W : List Nat} {a : Nat} {r told : List Nat} {x b n v : Nat} (h : x < 24 ∧ b < 24 ∧ (0 : Nat) < 24 ∧ (0 : Nat) < 24 ∧ a < 999998) (hb : r[b]?.getD 0 = 0) (hv : W[n]? = some v) (hl : v < 18446744073709551616) : opS ⟨1, 0, x, b, 0, 0, n⟩ [W] (st a r told) = some (st (a + 1) (r.set x v) told, [W], (1, n)) := by
  show (if x < 24 ∧ b < 24 ∧ (0 : Nat) < 24 ∧ (0 : Nat) < 24 ∧ a < 999998 then _ else _) = _
  rw [if_pos h]
  have e : (st a r told).r[b]?.getD 0 + n = n := by
    show r[b]?.getD 0 + n = n
    omega
  simp only [List.getElem?_cons_zero, e, hv, hl, if_true]
  rfl
theorem op_st {W : List Nat} {a : Nat} {r told : List Nat} {x b n v : Nat} (h : x < 24 ∧ b < 24 ∧ (0 : Nat) < 24 ∧ (0 : Nat) < 24 ∧ a < 999998) (hb : r[b]?.getD 0 = 0) (hv : W[n]? = some v) : opS ⟨2, 0, x, b, 0, 0, n⟩ [W] (st a r told) = some (st (a + 1) r told, [W.set n (r[x]?.getD 0)], (2, n)) := by
  show (if x < 24 ∧ b < 24 ∧ (0 : Nat) < 24 ∧ (0 : Nat) < 24 ∧ a < 999998 then _ else _) = _
  rw [if_pos h]
  have e : (st a r told).r[b]?.getD 0 + n = n := by
    show r[b]?.getD 0 + n = n
    omega
  simp only [List.getElem?_cons_zero, e, hv]
  rfl
theorem op_cas {W : List Nat} {a : Nat} {r told : List Nat} {x b c d n v : Nat} (h : x < 24 ∧ b < 24 ∧ c < 24 ∧ d < 24 ∧ a < 999998) (hb : r[b]?.getD 0 = 0) (hv : W[n]? = some v) (hc : v = r[c]?.getD 0) : opS ⟨5, 0, x, b, c, d, n⟩ [W] (st a r told) = some (st (a + 1) (r.set x 1) told, [W.set n (r[d]?.getD 0)], (5, n)) := by
  show (if x < 24 ∧ b < 24 ∧ c < 24 ∧ d < 24 ∧ a < 999998 then _ else _) = _
  rw [if_pos h]
  have e : (st a r told).r[b]?.getD 0 + n = n := by
    show r[b]?.getD 0 + n = n
    omega
  have hc' : v = (st a r told).r[c]?.getD 0 := hc
  simp only [List.getElem?_cons_zero, e, hv]
  rw [if_pos hc']
  rfl
/-- The program P, by itself over the words W: what it tells, leaves and does. -/
def Runs (P : List In) (W W' told : List Nat) (tr : List (Nat × Nat)) : Prop :=
  ∃ s1 m, onF (one P) 200 startS = some s1 ∧ playF (one P) 200 m [W] s1 [] = some (fin told, [W'], tr) ∧ m ≤ 100
theorem run_now (W : List Nat) (v : Nat) (h0 : W[0]? = some v) (hl : v < 18446744073709551616) : Runs nowP W W [v] [(1, 0)] := by
  refine ⟨st 0 zr [], 2, ?_, ?_, by decide⟩
  · rw [on_start, on_told (x := ⟨1, 0, 17, 9, 0, 0, 0⟩) rfl (by decide)]
  · rw [play_op (x := ⟨1, 0, 17, 9, 0, 0, 0⟩) rfl (op_ld (by decide) rfl h0 hl) (s2 := fin [v]) (by
      rw [on_tell (o := 0) (x := 17) (b := 0) (c := 0) (e := 0) (n := 0) rfl (by decide) (by decide), on_end rfl]
      simp [zr]), play_fin]
    rfl
def failsP (z : Nat) : List In := ⟨6, 0, 20, 0, 0, 0, 5⟩ :: List.replicate z ⟨22, 0, 9, 0, 0, 0, 0⟩ ++ [⟨22, 0, 20, 0, 0, 0, 0⟩]
theorem run_fails0 (W : List Nat) : Runs (failsP 0) W W [5] [] := by
  refine ⟨fin [5], 1, ?_, play_fin _ _ _ _ _ _, by decide⟩
  rw [on_start, on_set (o := 0) (x := 20) (b := 0) (c := 0) (e := 0) (n := 5) rfl (by decide), on_tell (o := 0) (x := 20) (b := 0) (c := 0) (e := 0) (n := 0) rfl (by decide) (by decide), on_end rfl]
  simp [zr]
theorem run_fails1 (W : List Nat) : Runs (failsP 1) W W [0, 5] [] := by
  refine ⟨fin [0, 5], 1, ?_, play_fin _ _ _ _ _ _, by decide⟩
  rw [on_start, on_set (o := 0) (x := 20) (b := 0) (c := 0) (e := 0) (n := 5) rfl (by decide), on_tell (o := 0) (x := 9) (b := 0) (c := 0) (e := 0) (n := 0) rfl (by decide) (by decide), on_tell (o := 0) (x := 20) (b := 0) (c := 0) (e := 0) (n := 0) rfl (by decide) (by decide), on_end rfl]
  simp [zr]
theorem run_safe (W : List Nat) (v ep : Nat) (h0 : W[0]? = some v) (hl : v < 18446744073709551616) (he : ep < 18446744073709551616) : Runs (safeP ep) W W [yesN (decide (2 ≤ v ∧ ep ≤ v - 2))] [(1, 0)] := by
  refine ⟨st 0 zr [], 2, ?_, ?_, by decide⟩
  · rw [on_start, on_told (x := ⟨1, 0, 17, 9, 0, 0, 0⟩) rfl (by decide)]
  · rw [play_op (x := ⟨1, 0, 17, 9, 0, 0, 0⟩) rfl (op_ld (by decide) rfl h0 hl) (s2 := fin [yesN (decide (2 ≤ v ∧ ep ≤ v - 2))]) (by
      rw [on_set (o := 0) (x := 18) (b := 0) (c := 0) (e := 0) (n := 2) rfl (by decide), on_below (o := 0) (x := 17) (b := 18) (c := 0) (e := 0) (n := 8) rfl (by decide) (by decide)]
      have e1 : ((zr.set 17 v).set 18 2)[17]?.getD 0 = v := by simp [zr]
      have e2 : ((zr.set 17 v).set 18 2)[18]?.getD 0 = 2 := by simp [zr]
      rw [e1, e2]
      by_cases hv : v < 2
      · rw [if_pos hv, on_tell (o := 0) (x := 20) (b := 0) (c := 0) (e := 0) (n := 0) rfl (by decide) (by decide), on_end rfl]
        have : ¬ (2 ≤ v ∧ ep ≤ v - 2) := by omega
        simp [zr, this, yesN]
      · rw [if_neg hv, on_less (o := 0) (x := 17) (b := 17) (c := 18) (e := 0) (n := 0) rfl (by decide), e1, e2]
        have e3 : (v + 18446744073709551616 - 2) % 18446744073709551616 = v - 2 := by omega
        rw [e3, on_set (o := 0) (x := 19) (b := 0) (c := 0) (e := 0) (n := ep) rfl ⟨by decide, by decide, by decide, he, by decide⟩, on_below (o := 0) (x := 17) (b := 19) (c := 0) (e := 0) (n := 8) rfl (by decide) (by decide)]
        have e4 : ((((zr.set 17 v).set 18 2).set 17 (v - 2)).set 19 ep)[17]?.getD 0 = v - 2 := by simp [zr]
        have e5 : ((((zr.set 17 v).set 18 2).set 17 (v - 2)).set 19 ep)[19]?.getD 0 = ep := by simp [zr]
        rw [e4, e5]
        by_cases hw : v - 2 < ep
        · rw [if_pos hw, on_tell (o := 0) (x := 20) (b := 0) (c := 0) (e := 0) (n := 0) rfl (by decide) (by decide), on_end rfl]
          have : ¬ (2 ≤ v ∧ ep ≤ v - 2) := by omega
          simp [zr, this, yesN]
        · rw [if_neg hw, on_set (o := 0) (x := 20) (b := 0) (c := 0) (e := 0) (n := 1) rfl (by decide), on_jump (o := 0) (x := 0) (b := 0) (c := 0) (e := 0) (n := 8) rfl (by decide) (by decide), on_tell (o := 0) (x := 20) (b := 0) (c := 0) (e := 0) (n := 0) rfl (by decide) (by decide), on_end rfl]
          have : (2 ≤ v ∧ ep ≤ v - 2) := by omega
          simp [zr, this, yesN]), play_fin]
    rfl
theorem run_pin (W : List Nat) (s v u : Nat) (hs : s < 16) (h0 : W[0]? = some v) (h1 : W[1 + s]? = some u) (hl : v < 18446744073709551616) (hu : u < 18446744073709551616) :
    if u = 0 then Runs (pinP s ++ tell2) W (W.set (1 + s) v) [v, 0] [(1, 1 + s), (1, 0), (2, 1 + s), (1, 0)] else Runs (pinP s ++ tell2) W W [0, 90] [(1, 1 + s)] := by
  have hstart : ∀ R : Prop, (∀ (r : List Nat), r = (zr.set 0 0).set 1 90 → onF (one (pinP s ++ tell2)) 200 startS = some (st 2 r []) → R) → R := fun R h => h _ rfl (by
    rw [on_start, on_set (o := 0) (x := 0) (b := 0) (c := 0) (e := 0) (n := 0) rfl (by decide), on_set (o := 0) (x := 1) (b := 0) (c := 0) (e := 0) (n := 90) rfl (by decide), on_told (x := ⟨1, 0, 19, 9, 0, 0, 1 + s⟩) rfl (by simp)])
  by_cases hz : u = 0
  · rw [if_pos hz]
    subst hz
    refine hstart _ fun r hr h => ⟨_, 5, h, ?_, by decide⟩
    have g0 : W[0]? = some v := h0
    have g1 : (W.set (1 + s) v)[0]? = some v := by rw [List.getElem?_set_ne (by omega)]; exact h0
    rw [play_op (x := ⟨1, 0, 19, 9, 0, 0, 1 + s⟩) rfl (op_ld (by decide) (by rw [hr]; simp [zr]) h1 hu) (s2 := st 5 (r.set 19 0) []) (by
      rw [on_same (o := 0) (x := 19) (b := 9) (c := 0) (e := 0) (n := 5) rfl (by decide) (by decide), if_pos (by rw [hr]; simp [zr]), on_told (x := ⟨1, 0, 17, 9, 0, 0, 0⟩) rfl (by decide)])]
    rw [play_op (x := ⟨1, 0, 17, 9, 0, 0, 0⟩) rfl (op_ld (by decide) (by rw [hr]; simp [zr]) h0 hl) (s2 := st 6 ((r.set 19 0).set 17 v) []) (by
      rw [on_told (x := ⟨2, 0, 17, 9, 0, 0, 1 + s⟩) rfl (by simp)])]
    rw [play_op (x := ⟨2, 0, 17, 9, 0, 0, 1 + s⟩) rfl (op_st (by decide) (by rw [hr]; simp [zr]) h1) (s2 := st 7 ((r.set 19 0).set 17 v) []) (by
      rw [on_told (x := ⟨1, 0, 18, 9, 0, 0, 0⟩) rfl (by decide)])]
    have e1 : ((r.set 19 0).set 17 v)[17]?.getD 0 = v := by rw [hr]; simp [zr]
    rw [e1]
    rw [play_op (x := ⟨1, 0, 18, 9, 0, 0, 0⟩) rfl (op_ld (by decide) (by rw [hr]; simp [zr]) g1 hl) (s2 := fin [v, 0]) (by
      rw [on_copy (o := 0) (x := 0) (b := 17) (c := 0) (e := 0) (n := 0) rfl (by decide), on_copy (o := 0) (x := 17) (b := 18) (c := 0) (e := 0) (n := 0) rfl (by decide), on_same (o := 0) (x := 0) (b := 18) (c := 0) (e := 0) (n := 12) rfl (by decide) (by decide), if_pos (by rw [hr]; simp [zr]), on_set (o := 0) (x := 1) (b := 0) (c := 0) (e := 0) (n := 0) rfl (by decide), on_tell2 rfl rfl rfl (by decide)]
      rw [hr]
      simp [zr]), play_fin]
    rfl
  · rw [if_neg hz]
    refine hstart _ fun r hr h => ⟨_, 2, h, ?_, by decide⟩
    rw [play_op (x := ⟨1, 0, 19, 9, 0, 0, 1 + s⟩) rfl (op_ld (by decide) (by rw [hr]; simp [zr]) h1 hu) (s2 := fin [0, 90]) (by
      rw [on_same (o := 0) (x := 19) (b := 9) (c := 0) (e := 0) (n := 5) rfl (by decide) (by decide), if_neg (by rw [hr]; simpa [zr] using hz), on_jump (o := 0) (x := 0) (b := 0) (c := 0) (e := 0) (n := 13) rfl (by decide) (by decide), on_tell2 rfl rfl rfl (by decide)]
      rw [hr]
      simp [zr]), play_fin]
    rfl
theorem run_unpin (W : List Nat) (s u : Nat) (hs : s < 16) (h1 : W[1 + s]? = some u) (hu : u < 18446744073709551616) :
    if u = 0 then Runs (unpinP s ++ tell1) W W [90] [(1, 1 + s)] else Runs (unpinP s ++ tell1) W (W.set (1 + s) 0) [0] [(1, 1 + s), (2, 1 + s)] := by
  have hstart : ∀ R : Prop, (∀ (r : List Nat), r = zr.set 1 90 → onF (one (unpinP s ++ tell1)) 200 startS = some (st 1 r []) → R) → R := fun R h => h _ rfl (by
    rw [on_start, on_set (o := 0) (x := 1) (b := 0) (c := 0) (e := 0) (n := 90) rfl (by decide), on_told (x := ⟨1, 0, 19, 9, 0, 0, 1 + s⟩) rfl (by simp)])
  by_cases hz : u = 0
  · rw [if_pos hz]
    refine hstart _ fun r hr h => ⟨_, 2, h, ?_, by decide⟩
    rw [play_op (x := ⟨1, 0, 19, 9, 0, 0, 1 + s⟩) rfl (op_ld (by decide) (by rw [hr]; simp [zr]) h1 hu) (s2 := fin [90]) (by
      rw [on_same (o := 0) (x := 19) (b := 9) (c := 0) (e := 0) (n := 5) rfl (by decide) (by decide), if_pos (by rw [hr]; simpa [zr] using hz), on_tell (o := 0) (x := 1) (b := 0) (c := 0) (e := 0) (n := 0) rfl (by decide) (by decide), on_end rfl]
      rw [hr]
      simp [zr]), play_fin]
    rfl
  · rw [if_neg hz]
    refine hstart _ fun r hr h => ⟨_, 3, h, ?_, by decide⟩
    rw [play_op (x := ⟨1, 0, 19, 9, 0, 0, 1 + s⟩) rfl (op_ld (by decide) (by rw [hr]; simp [zr]) h1 hu) (s2 := st 4 ((r.set 19 u).set 1 0) []) (by
      rw [on_same (o := 0) (x := 19) (b := 9) (c := 0) (e := 0) (n := 5) rfl (by decide) (by decide), if_neg (by rw [hr]; simpa [zr] using hz), on_set (o := 0) (x := 1) (b := 0) (c := 0) (e := 0) (n := 0) rfl (by decide), on_told (x := ⟨2, 0, 9, 9, 0, 0, 1 + s⟩) rfl (by simp)])]
    rw [play_op (x := ⟨2, 0, 9, 9, 0, 0, 1 + s⟩) rfl (op_st (by decide) (by rw [hr]; simp [zr]) h1) (s2 := fin [0]) (by
      rw [on_tell (o := 0) (x := 1) (b := 0) (c := 0) (e := 0) (n := 0) rfl (by decide) (by decide), on_end rfl]
      rw [hr]
      simp [zr])]
    have e1 : ((r.set 19 u).set 1 0)[9]?.getD 0 = 0 := by rw [hr]; simp [zr]
    rw [e1, play_fin]
    rfl
theorem moveS_get (n : Nat) (i j : Nat) (hj : j < 4) : ∀ m, i < m → (moveS n m)[4 * i + 3 + j]? = (moveI n i)[j]?
  | 0, h => by omega
  | m + 1, h => by
    show (moveS n m ++ moveI n m)[4 * i + 3 + j]? = _
    by_cases e : i < m
    · rw [List.getElem?_append_left (by rw [moveS_len]; omega)]
      exact moveS_get n i j hj m e
    · have e2 : i = m := by omega
      subst e2
      rw [List.getElem?_append_right (by rw [moveS_len]; omega), moveS_len]
      congr 1
      omega
theorem moveS_head (n : Nat) (j : Nat) (hj : j < 3) : ∀ m, (moveS n m)[j]? = moveH[j]?
  | 0 => rfl
  | m + 1 => by
    show (moveS n m ++ moveI n m)[j]? = _
    rw [List.getElem?_append_left (by rw [moveS_len]; omega)]
    exact moveS_head n j hj m
theorem mp_loop {n i : Nat} (hi : i < n) (j : Nat) (hj : j < 4) : (moveP n ++ tell2)[4 * i + 3 + j]? = (moveI n i)[j]? := by
  show ((moveS n n ++ moveT n) ++ tell2)[4 * i + 3 + j]? = _
  rw [List.append_assoc, List.getElem?_append_left (by rw [moveS_len]; omega)]
  exact moveS_get n i j hj n hi
theorem mp_head (n j : Nat) (hj : j < 3) : (moveP n ++ tell2)[j]? = moveH[j]? := by
  show ((moveS n n ++ moveT n) ++ tell2)[j]? = _
  rw [List.append_assoc, List.getElem?_append_left (by rw [moveS_len]; omega)]
  exact moveS_head n j hj n
theorem mp_tail (n j : Nat) : (moveP n ++ tell2)[4 * n + 3 + j]? = (moveT n ++ tell2)[j]? := by
  show ((moveS n n ++ moveT n) ++ tell2)[4 * n + 3 + j]? = _
  rw [List.append_assoc, List.getElem?_append_right (by rw [moveS_len]; omega), moveS_len]
  congr 1
  omega
theorem op_ld' {P : List In} {W : List Nat} {k a : Nat} {r told : List Nat} {tr : List (Nat × Nat)} {x n v : Nat} {s2 : MS} (hx : P[a]? = some ⟨1, 0, x, 9, 0, 0, n⟩) (h : x < 24) (ha : a < 999998) (hb : r[9]?.getD 0 = 0) (hv : W[n]? = some v) (hl : v < 18446744073709551616) (hn : onF (one P) 200 (st (a + 1) (r.set x v) told) = some s2) :
    playF (one P) 200 (k + 1) [W] (st a r told) tr = playF (one P) 200 k [W] s2 (tr ++ [(1, n)]) := play_op hx (op_ld ⟨h, by decide, by decide, by decide, ha⟩ hb hv hl) hn
/-- The registers of Move within its loop. -/
def mr (now y : Nat) : List Nat := (((zr.set 0 0).set 1 0).set 17 now).set 19 y
theorem mr_set (now y z : Nat) : (mr now y).set 19 z = mr now z := by simp [mr, List.set_set]
theorem mr_9 (now y : Nat) : (mr now y)[9]?.getD 0 = 0 := by simp [mr, zr]
theorem mr_17 (now y : Nat) : (mr now y)[17]?.getD 0 = now := by simp [mr, zr]
theorem mr_19 (now y : Nat) : (mr now y)[19]?.getD 0 = y := by simp [mr, zr]
def endM (ws : List Nat) (now n k m : Nat) (tr : List (Nat × Nat)) (W : List Nat) : Option (MS × List (List Nat) × List (Nat × Nat)) :=
  if (scan ws now k m).1 = true then some (fin [0, 0], [W], tr ++ (scan ws now k m).2.map fun p => (p.1.toNat, p.2.toNat))
  else some (fin [now + 1, 1], [W.set 0 (now + 1)], tr ++ ((scan ws now k m).2.map fun p => (p.1.toNat, p.2.toNat)) ++ [(5, 0)])
theorem move_loop (n : Nat) (hn : 0 < n ∧ n ≤ 16) (ws W : List Nat) (now : Nat) (hW : ∀ k, k ≤ n → W[k]? = some (ws.getD k 0)) (hl : ∀ k, ws.getD k 0 < 18446744073709551616) (hnow : now = ws.getD 0 0) (hb : now < 18446744073709551615) :
    ∀ (m i y : Nat) (tr : List (Nat × Nat)), i + m = n → ∃ s1 k, (∀ f, 10 ≤ f → onF (one (moveP n ++ tell2)) f (st (4 * i + 3) (mr now y) []) = some s1) ∧ playF (one (moveP n ++ tell2)) 200 k [W] s1 tr = endM ws now n (1 + i) m tr W ∧ k ≤ 2 * m + 3
  | 0, i, y, tr, him => by
    have hi : i = n := by omega
    subst hi
    have t0 : (moveP i ++ tell2)[4 * i + 3]? = some ⟨8, 0, 18, 17, 9, 0, 1⟩ := mp_tail i 0
    have t1 : (moveP i ++ tell2)[4 * i + 3 + 1]? = some ⟨5, 0, 1, 9, 17, 18, 0⟩ := mp_tail i 1
    have t2 : (moveP i ++ tell2)[4 * i + 3 + 1 + 1]? = some ⟨19, 0, 1, 9, 0, 0, 3 + 4 * i + 4⟩ := mp_tail i 2
    have t3 : (moveP i ++ tell2)[4 * i + 3 + 1 + 1 + 1]? = some ⟨7, 0, 0, 18, 0, 0, 0⟩ := mp_tail i 3
    have t4 : (moveP i ++ tell2)[4 * i + 3 + 1 + 1 + 1 + 1]? = some ⟨22, 0, 0, 0, 0, 0, 0⟩ := mp_tail i 4
    have t5 : (moveP i ++ tell2)[4 * i + 3 + 1 + 1 + 1 + 1 + 1]? = some ⟨22, 0, 1, 0, 0, 0, 0⟩ := mp_tail i 5
    have t6 : (moveP i ++ tell2)[4 * i + 3 + 1 + 1 + 1 + 1 + 1 + 1]? = none := mp_tail i 6
    have e1 : ((mr now y)[17]?.getD 0 + (mr now y)[9]?.getD 0 + 1) % 18446744073709551616 = now + 1 := by
      rw [mr_17, mr_9]
      omega
    refine ⟨st (4 * i + 3 + 1) ((mr now y).set 18 (now + 1)) [], 2, ?_, ?_, by omega⟩
    · intro f hf
      obtain ⟨g, rfl⟩ : ∃ g, f = g + 2 := ⟨f - 2, by omega⟩
      rw [on_plus t0 ⟨by decide, by decide, by decide, by decide, by omega⟩, e1, on_told t1 (by decide)]
    · have hc : ws.getD 0 0 = ((mr now y).set 18 (now + 1))[17]?.getD 0 := by rw [← hnow]; simp [mr, zr]
      rw [play_op t1 (op_cas ⟨by decide, by decide, by decide, by decide, by omega⟩ (by simp [mr, zr]) (hW 0 (by omega)) hc) (s2 := fin [now + 1, 1]) (by
        rw [on_same t2 ⟨by decide, by decide, by decide, by omega, by omega⟩ (by omega), if_neg (by simp [mr, zr]), on_copy t3 ⟨by decide, by decide, by decide, by decide, by omega⟩, on_tell2 t4 t5 t6 (by omega)]
        simp [mr, zr]), play_fin]
      have e2 : ((mr now y).set 18 (now + 1))[18]?.getD 0 = now + 1 := by simp [mr, zr]
      rw [e2]
      simp [endM, scan]
  | m + 1, i, y, tr, him => by
    have hi : i < n := by omega
    have t0 : (moveP n ++ tell2)[4 * i + 3]? = some ⟨1, 0, 19, 9, 0, 0, 1 + i⟩ := mp_loop hi 0 (by decide)
    have t1 : (moveP n ++ tell2)[4 * i + 3 + 1]? = some ⟨19, 0, 19, 9, 0, 0, 4 * i + 3 + 4⟩ := mp_loop hi 1 (by decide)
    have t2 : (moveP n ++ tell2)[4 * i + 3 + 1 + 1]? = some ⟨19, 0, 19, 17, 0, 0, 4 * i + 3 + 4⟩ := mp_loop hi 2 (by decide)
    have t3 : (moveP n ++ tell2)[4 * i + 3 + 1 + 1 + 1]? = some ⟨18, 0, 0, 0, 0, 0, 3 + 4 * n + 4⟩ := mp_loop hi 3 (by decide)
    have hx := hW (1 + i) (by omega)
    obtain ⟨x, hxe⟩ : ∃ x, x = ws.getD (1 + i) 0 := ⟨_, rfl⟩
    rw [← hxe] at hx
    have hxl : x < 18446744073709551616 := by rw [hxe]; exact hl _
    have hs : scan ws now (1 + i) (m + 1) = if x ≠ 0 ∧ x ≠ now then (true, [((1 : Int), ((1 + i : Nat) : Int))]) else ((scan ws now (1 + i + 1) m).1, ((1 : Int), ((1 + i : Nat) : Int)) :: (scan ws now (1 + i + 1) m).2) := by
      conv => lhs; unfold scan
      rw [← hxe]
    by_cases hblk : x ≠ 0 ∧ x ≠ now
    · have u0 : (moveP n ++ tell2)[3 + 4 * n + 4]? = some ⟨22, 0, 0, 0, 0, 0, 0⟩ := by rw [show 3 + 4 * n + 4 = 4 * n + 3 + 4 by omega]; exact mp_tail n 4
      have u1 : (moveP n ++ tell2)[3 + 4 * n + 4 + 1]? = some ⟨22, 0, 1, 0, 0, 0, 0⟩ := by rw [show 3 + 4 * n + 4 + 1 = 4 * n + 3 + 5 by omega]; exact mp_tail n 5
      have u2 : (moveP n ++ tell2)[3 + 4 * n + 4 + 1 + 1]? = none := by rw [show 3 + 4 * n + 4 + 1 + 1 = 4 * n + 3 + 6 by omega]; exact mp_tail n 6
      refine ⟨st (4 * i + 3) (mr now y) [], 2, fun f hf => by obtain ⟨g, rfl⟩ : ∃ g, f = g + 1 := ⟨f - 1, by omega⟩; exact on_told t0 (by simp), ?_, by omega⟩
      rw [op_ld' t0 (by decide) (by omega) (mr_9 _ _) hx hxl (s2 := fin [0, 0]) (by
        rw [mr_set, on_same t1 ⟨by decide, by decide, by decide, by omega, by omega⟩ (by omega), mr_19, mr_9, if_neg hblk.1, on_same t2 ⟨by decide, by decide, by decide, by omega, by omega⟩ (by omega), mr_19, mr_17, if_neg hblk.2, on_jump t3 ⟨by decide, by decide, by decide, by omega, by omega⟩ (by omega), on_tell2 u0 u1 u2 (by omega)]
        simp [mr, zr]), play_fin]
      simp [endM, hs, hblk]
      omega
    · obtain ⟨s1, k, q1, q2, q3⟩ := move_loop n hn ws W now hW hl hnow hb m (i + 1) x (tr ++ [(1, 1 + i)]) (by omega)
      refine ⟨st (4 * i + 3) (mr now y) [], k + 1, fun f hf => by obtain ⟨g, rfl⟩ : ∃ g, f = g + 1 := ⟨f - 1, by omega⟩; exact on_told t0 (by simp), ?_, by omega⟩
      have e4 : 4 * i + 3 + 4 = 4 * (i + 1) + 3 := by omega
      rw [op_ld' t0 (by decide) (by omega) (mr_9 _ _) hx hxl (s2 := s1) (by
        rw [mr_set, on_same t1 ⟨by decide, by decide, by decide, by omega, by omega⟩ (by omega), mr_19, mr_9]
        by_cases hz : x = 0
        · rw [if_pos hz, e4]
          exact q1 199 (by decide)
        · have hy : x = now := Classical.byContradiction fun h => hblk ⟨hz, h⟩
          rw [if_neg hz, on_same t2 ⟨by decide, by decide, by decide, by omega, by omega⟩ (by omega), mr_19, mr_17, if_pos hy, e4]
          exact q1 198 (by decide)), q2]
      have e5 : 1 + (i + 1) = 1 + i + 1 := by omega
      have e6 : (1 + (i : Int)).toNat = 1 + i := by omega
      rw [e5]
      simp only [endM, hs, if_neg hblk]
      split
      · simp [e6]
      · simp [e6]
theorem run_move (n : Nat) (hn : 0 < n ∧ n ≤ 16) (ws W : List Nat) (hW : ∀ k, k ≤ n → W[k]? = some (ws.getD k 0)) (hl : ∀ k, ws.getD k 0 < 18446744073709551616) (hb : ws.getD 0 0 < 18446744073709551615) :
    Runs (moveP n ++ tell2) W (if (moveR ws n).2 = true then W.set 0 (ws.getD 0 0 + 1) else W) [(moveR ws n).1, yesN (moveR ws n).2] ((moveM ws n).map fun p => (p.1.toNat, p.2.toNat)) := by
  obtain ⟨s1, k, q1, q2, q3⟩ := move_loop n hn ws W (ws.getD 0 0) hW hl rfl hb n 0 0 [(1, 0)] (by omega)
  have h0 : (moveP n ++ tell2)[0]? = some ⟨6, 0, 0, 0, 0, 0, 0⟩ := mp_head n 0 (by decide)
  have h1 : (moveP n ++ tell2)[1]? = some ⟨6, 0, 1, 0, 0, 0, 0⟩ := mp_head n 1 (by decide)
  have h2 : (moveP n ++ tell2)[2]? = some ⟨1, 0, 17, 9, 0, 0, 0⟩ := mp_head n 2 (by decide)
  refine ⟨st 2 ((zr.set 0 0).set 1 0) [], k + 1, ?_, ?_, by omega⟩
  · rw [on_start, on_set h0 (by decide), on_set h1 (by decide), on_told h2 (by decide)]
  · rw [op_ld' h2 (by decide) (by decide) (by simp [zr]) (hW 0 (by omega)) (hl 0) (s2 := s1) (by
      have e : ((zr.set 0 0).set 1 0).set 17 (ws.getD 0 0) = mr (ws.getD 0 0) 0 := by simp [mr, zr]
      rw [e]
      exact q1 200 (by decide))]
    show playF (one (moveP n ++ tell2)) 200 k [W] s1 [(1, 0)] = _
    rw [q2]
    unfold moveR moveM endM
    rw [show 1 + 0 = 1 from rfl]
    generalize ws.getD 0 0 = now
    by_cases hs : (scan ws now 1 n).1 = true
    · simp [hs, yesN]
    · simp [hs, yesN]
end Go.Proofs.Ytokoniaoknnggaa
