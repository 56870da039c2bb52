/- The plain law of LaneOut: stamps of lanes, put in any order, come out once each, each lane's in order. -/
import Derived.Test.YthjdnhlckjchgaaLanJ
namespace Go.Proofs.Ythjdnhlckjchgaa
open Go.RowKit
set_option linter.unusedVariables false
set_option linter.unusedSimpArgs false

theorem nodup_sub : ∀ (l d : List Nat), l.Nodup → (∀ x ∈ l, x ∈ d) → l.length ≤ d.length
  | [], d, _, _ => Nat.zero_le _
  | x :: l, d, hn, hs => by
    have hx := hs x (by simp)
    rw [List.nodup_cons] at hn
    have := nodup_sub l (d.erase x) hn.2 (fun y hy => (List.mem_erase_of_ne (fun e => hn.1 (by rw [← e]; exact hy))).2 (hs y (by simp [hy])))
    rw [List.length_erase_of_mem hx] at this
    have h0 : 0 < d.length := List.length_pos_of_mem hx
    simp only [List.length_cons]
    omega
theorem nodup_lt (l : List Nat) (L : Nat) (hn : l.Nodup) (h : ∀ x ∈ l, x < L) : l.length ≤ L := by
  have := nodup_sub l (List.range L) hn (fun x hx => List.mem_range.2 (h x hx))
  simpa using this

/-- How many ahead of i are of lane a. -/
def cnt (ln : Nat → Nat) : Nat → Nat → Nat
  | 0, _ => 0
  | i + 1, a => cnt ln i a + if ln i = a then 1 else 0
def sq (ln : Nat → Nat) (j : Nat) : Nat := cnt ln j (ln j)
theorem cnt_mono (ln : Nat → Nat) (a : Nat) : ∀ {i j : Nat}, i ≤ j → cnt ln i a ≤ cnt ln j a := by
  intro i j h
  induction h with
  | refl => exact Nat.le_refl _
  | step h ih => exact Nat.le_trans ih (Nat.le_add_right _ _)
theorem cnt_le (ln : Nat → Nat) (a : Nat) : ∀ i, cnt ln i a ≤ i
  | 0 => Nat.le_refl _
  | i + 1 => by have := cnt_le ln a i; unfold cnt; split <;> omega
theorem sq_lt {ln : Nat → Nat} {i j : Nat} (h : i < j) (e : ln i = ln j) : sq ln i < sq ln j := by
  have h1 : cnt ln (i + 1) (ln j) ≤ cnt ln j (ln j) := cnt_mono ln (ln j) h
  have h2 : cnt ln (i + 1) (ln j) = cnt ln i (ln j) + 1 := by
    show cnt ln i (ln j) + (if ln i = ln j then 1 else 0) = _
    rw [if_pos e]
  unfold sq
  rw [e]
  omega
theorem sq_inj {ln : Nat → Nat} {i j : Nat} (e : ln i = ln j) (h : sq ln i = sq ln j) : i = j := by
  rcases Nat.lt_trichotomy i j with h1 | h1 | h1
  · have := sq_lt h1 e; omega
  · exact h1
  · have := sq_lt h1 e.symm; omega
theorem sq_surj (ln : Nat → Nat) (a : Nat) : ∀ (i s : Nat), s < cnt ln i a → ∃ j, j < i ∧ ln j = a ∧ sq ln j = s
  | 0, s, h => absurd h (Nat.not_lt_zero _)
  | i + 1, s, h => by
    by_cases h1 : s < cnt ln i a
    · obtain ⟨j, hj, r⟩ := sq_surj ln a i s h1
      exact ⟨j, by omega, r⟩
    · unfold cnt at h
      split at h
      · rename_i he
        exact ⟨i, by omega, he, by unfold sq; rw [he]; omega⟩
      · omega

/-- A stamp that waits, with its number. -/
def wt (ln : Nat → Nat) (j : Nat) : Wt := (((ln j : Int), sq ln j), (j : Int))
/-- What is known of an order: which are put, what is let out next, what waits, what is out. -/
structure LI (L n : Nat) (ln : Nat → Nat) (put : Nat → Prop) (nx : List Nat) (ws : List Wt) (d : List Nat) : Prop where
  len : nx.length = n
  ws1 : ∀ p ∈ ws, ∃ j, j < L ∧ put j ∧ nx.getD (ln j) 0 ≤ sq ln j ∧ p = wt ln j
  ws2 : ∀ j, j < L → put j → nx.getD (ln j) 0 ≤ sq ln j → wt ln j ∈ ws
  nd : (ws.map (·.1)).Nodup
  d1 : ∀ j, j ∈ d ↔ j < L ∧ sq ln j < nx.getD (ln j) 0
  dn : d.Nodup
  front : ∀ j, j < L → sq ln j < nx.getD (ln j) 0 → put j
  srt : d.Pairwise (fun i j => ln i = ln j → i < j)
def Full (L : Nat) (ln : Nat → Nat) (put : Nat → Prop) (nx : List Nat) : Prop := ∀ j, j < L → put j → sq ln j ≠ nx.getD (ln j) 0

theorem LI.start (L n : Nat) (ln : Nat → Nat) (put : Nat → Prop) (h : ∀ j, j < L → ¬ put j) : LI L n ln put (List.replicate n 0) [] [] where
  len := by simp
  ws1 := by simp
  ws2 := fun j hj hp => absurd hp (h j hj)
  nd := by simp
  d1 := fun j => by simp [List.getD, List.getElem?_replicate]; intro hj; split <;> simp
  dn := by simp
  front := fun j hj => by simp [List.getD, List.getElem?_replicate]; intro hj; split at hj <;> simp at hj
  srt := by simp
theorem getD_set_self {nx : List Nat} {A : Nat} (h : A < nx.length) (v : Nat) : (nx.set A v).getD A 0 = v := by simp [List.getD, h]
theorem getD_set_ne {nx : List Nat} {A B : Nat} (h : A ≠ B) (v : Nat) : (nx.set A v).getD B 0 = nx.getD B 0 := by simp [List.getD, List.getElem?_set, h]
theorem wt_inj {ln : Nat → Nat} {i j : Nat} (h : (wt ln i).1 = (wt ln j).1) : i = j := by
  simp [wt] at h
  exact sq_inj (by omega) h.2
theorem put_getD {L n : Nat} {ln : Nat → Nat} {put : Nat → Prop} {nx : List Nat} {ws : List Wt} {d : List Nat} (h : LI L n ln put nx ws d) {j A : Nat} (hA : ln j = A) (hn : A < n) (v : Nat) (i : Nat) :
    (nx.set A v).getD (ln i) 0 = if ln i = A then v else nx.getD (ln i) 0 := by
  by_cases e : ln i = A
  · rw [if_pos e, e, getD_set_self (by rw [h.len]; exact hn)]
  · rw [if_neg e, getD_set_ne (fun e2 => e e2.symm)]

/-- One whose turn it is comes out. -/
theorem LI.out {L n : Nat} {ln : Nat → Nat} {put : Nat → Prop} {nx : List Nat} {ws : List Wt} {d : List Nat} (h : LI L n ln put nx ws d) {put' : Nat → Prop} {j : Nat} (hj : j < L) (hln : ln j < n) (hs : sq ln j = nx.getD (ln j) 0)
    (hput : ∀ i, put' i ↔ put i ∨ i = j) {ws' : List Wt} (hws : ∀ p, p ∈ ws' ↔ p ∈ ws ∧ p ≠ wt ln j) (hnd : (ws'.map (·.1)).Nodup) : LI L n ln put' (nx.set (ln j) (sq ln j + 1)) ws' (d ++ [j]) := by
  have hg := put_getD h rfl hln (sq ln j + 1)
  refine ⟨by simpa using h.len, ?_, ?_, hnd, ?_, ?_, ?_, ?_⟩
  · intro p hp
    obtain ⟨hp1, hp2⟩ := (hws p).1 hp
    obtain ⟨i, hi, hip, hle, rfl⟩ := h.ws1 p hp1
    refine ⟨i, hi, (hput i).2 (.inl hip), ?_, rfl⟩
    rw [hg]
    split
    · rename_i e
      have : sq ln i ≠ sq ln j := fun e2 => hp2 (by rw [sq_inj e e2])
      rw [e] at hle
      omega
    · exact hle
  · intro i hi hip hle
    rw [hg] at hle
    have hne : i ≠ j := by
      rintro rfl
      rw [if_pos rfl] at hle
      omega
    refine (hws _).2 ⟨h.ws2 i hi ?_ ?_, fun e => hne (wt_inj (by rw [e]))⟩
    · rcases (hput i).1 hip with h1 | h1
      · exact h1
      · exact absurd h1 hne
    · split at hle
      · rename_i e; rw [e]; omega
      · exact hle
  · intro i
    rw [List.mem_append, h.d1, hg]
    simp only [List.mem_singleton]
    constructor
    · rintro (⟨h1, h2⟩ | rfl)
      · refine ⟨h1, ?_⟩
        split
        · rename_i e; rw [e] at h2; omega
        · exact h2
      · exact ⟨hj, by rw [if_pos rfl]; omega⟩
    · rintro ⟨h1, h2⟩
      split at h2
      · rename_i e
        by_cases h3 : sq ln i = sq ln j
        · exact .inr (sq_inj e h3)
        · exact .inl ⟨h1, by rw [e]; omega⟩
      · exact .inl ⟨h1, h2⟩
  · rw [List.nodup_append]
    refine ⟨h.dn, by simp, ?_⟩
    intro a ha b hb e
    simp at hb
    subst hb
    subst e
    have := ((h.d1 a).1 ha).2
    omega
  · intro i hi hlt
    rw [hg] at hlt
    rw [hput]
    split at hlt
    · rename_i e
      by_cases h3 : sq ln i = sq ln j
      · exact .inr (sq_inj e h3)
      · exact .inl (h.front i hi (by rw [e]; omega))
    · exact .inl (h.front i hi hlt)
  · rw [List.pairwise_append]
    refine ⟨h.srt, by simp, ?_⟩
    intro a ha b hb e
    simp at hb
    subst hb
    have h1 := ((h.d1 a).1 ha).2
    rw [e, ← hs] at h1
    rcases Nat.lt_trichotomy a b with h2 | h2 | h2
    · exact h2
    · subst h2; omega
    · have := sq_lt h2 e.symm; omega
theorem delL_mem {ws : List Wt} {ln : Nat → Nat} {j : Nat} (h : ∀ p ∈ ws, ∃ i, p = wt ln i) (p : Wt) : p ∈ delL ws (ln j : Int) (sq ln j) ↔ p ∈ ws ∧ p ≠ wt ln j := by
  unfold delL
  rw [List.mem_filter]
  refine and_congr_right fun hp => ?_
  obtain ⟨i, rfl⟩ := h p hp
  constructor
  · intro h1 e
    rw [e] at h1
    simp [wt] at h1
  · intro h1
    have : ¬ (wt ln i).1 = ((ln j : Int), sq ln j) := fun e => h1 (by rw [wt_inj (i := i) (j := j) (by rw [e]; rfl)])
    simp [this]
theorem lookL_wt {ws : List Wt} {ln : Nat → Nat} (h : ∀ p ∈ ws, ∃ i, p = wt ln i) {A s : Nat} {y : Int} (hl : lookL ws (A : Int) s = some y) : ∃ j, wt ln j ∈ ws ∧ y = (j : Int) ∧ ln j = A ∧ sq ln j = s := by
  have hm := lookL_mem hl
  obtain ⟨j, e⟩ := h _ hm
  simp [wt] at e
  refine ⟨j, ?_, e.2, by omega, by omega⟩
  rw [e.1.1, e.1.2, e.2] at hm
  exact hm
theorem look_none {ws : List Wt} {ln : Nat → Nat} {j : Nat} (hl : lookL ws (ln j : Int) (sq ln j) = none) : wt ln j ∉ ws := fun hm => by
  exact lookL_none hl _ hm rfl
/-- What waited comes out. -/
theorem drain_law {L n : Nat} {ln : Nat → Nat} {put : Nat → Prop} {A s0 : Nat} (hA : A < n) : ∀ (k : Nat) (nx : List Nat) (ws : List Wt) (d js : List Nat), LI L n ln put nx ws d → ws.length ≤ k → nx.getD A 0 = s0 + js.length →
    (∀ m (hm : m < js.length), js[m] < L ∧ put js[m] ∧ ln js[m] = A ∧ sq ln js[m] = s0 + m) →
    (∀ j, j < L → put j → ln j ≠ A → sq ln j ≠ nx.getD (ln j) 0) →
    ∃ js' ds, drain k (A : Int) (nx.getD A 0) ws (js.map fun (j : Nat) => (j : Int)) = (s0 + js'.length, (drain k (A : Int) (nx.getD A 0) ws (js.map fun (j : Nat) => (j : Int))).2.1, js'.map fun (j : Nat) => (j : Int)) ∧
      js' = js ++ ds ∧ (∀ m (hm : m < js'.length), js'[m] < L ∧ put js'[m] ∧ ln js'[m] = A ∧ sq ln js'[m] = s0 + m) ∧
      LI L n ln put (nx.set A (s0 + js'.length)) (drain k (A : Int) (nx.getD A 0) ws (js.map fun (j : Nat) => (j : Int))).2.1 (d ++ ds) ∧ Full L ln put (nx.set A (s0 + js'.length))
  | k, nx, ws, d, js, h, hk, hs, hj, hf => by
    have hwt : ∀ p ∈ ws, ∃ i, p = wt ln i := fun p hp => by
      obtain ⟨i, -, -, -, e⟩ := h.ws1 p hp
      exact ⟨i, e⟩
    cases hl : lookL ws (A : Int) (nx.getD A 0) with
    | none =>
      rw [drain_none hl]
      have hset : nx.set A (s0 + js.length) = nx := by
        rw [← hs]
        apply List.ext_getElem?
        intro i
        rw [List.getElem?_set]
        split
        · rename_i e
          subst e
          have : A < nx.length := by rw [h.len]; exact hA
          simp [this, List.getD]
        · rfl
      refine ⟨js, [], by rw [hs], by simp, hj, ?_, ?_⟩
      · rw [hset, List.append_nil]
        exact h
      · rw [hset]
        intro j hjL hp
        by_cases e : ln j = A
        · intro e2
          rw [← e, ← e2] at hl
          exact look_none hl (h.ws2 j hjL hp (by omega))
        · exact hf j hjL hp e
    | some y =>
      obtain ⟨j, hm, rfl, hlj, hsj⟩ := lookL_wt hwt hl
      obtain ⟨j2, hjL, hjp, hjle, e2⟩ := h.ws1 _ hm
      have : j = j2 := wt_inj (by rw [e2])
      subst this
      have hlen := delL_len h.nd hl
      cases k with
      | zero => omega
      | succ k =>
        rw [drain_some hl]
        have hsj' : sq ln j = nx.getD (ln j) 0 := by rw [hlj]; exact hsj
        have hdel := delL_mem (j := j) hwt
        rw [hlj, hsj] at hdel
        have h2 := h.out (put' := put) hjL (by rw [hlj]; exact hA) hsj' (fun i => ⟨fun h => .inl h, fun h => by rcases h with h | rfl; exact h; exact hjp⟩) hdel (h.nd.sublist ((List.filter_sublist).map _))
        rw [hlj, hsj] at h2
        have hg : (nx.set A (nx.getD A 0 + 1)).getD A 0 = nx.getD A 0 + 1 := getD_set_self (by rw [h.len]; exact hA) _
        have hj2 : ∀ m (hm : m < (js ++ [j]).length), (js ++ [j])[m] < L ∧ put (js ++ [j])[m] ∧ ln (js ++ [j])[m] = A ∧ sq ln (js ++ [j])[m] = s0 + m := by
          intro m hm
          by_cases e : m < js.length
          · rw [List.getElem_append_left e]
            exact hj m e
          · have e2 : m = js.length := by simp at hm; omega
            subst e2
            simp
            exact ⟨hjL, hjp, hlj, by omega⟩
        obtain ⟨js', ds, r1, r2, r3, r4, r5⟩ := drain_law (s0 := s0) hA k _ _ _ (js ++ [j]) h2 (by omega) (by rw [hg, hs]; simp; omega) hj2 (fun i hi hp hne => by
          rw [getD_set_ne (fun e => hne e.symm)]
          exact hf i hi hp hne)
        rw [hg] at r1 r4
        rw [List.set_set] at r4 r5
        rw [show (js ++ [j]).map (fun (j : Nat) => (j : Int)) = js.map (fun (j : Nat) => (j : Int)) ++ [(j : Int)] by simp] at r1 r4
        refine ⟨js', j :: ds, r1, by rw [r2]; simp, r3, ?_, r5⟩
        have : d ++ j :: ds = d ++ [j] ++ ds := by simp
        rw [this]
        exact r4
theorem LI.few {L n : Nat} {ln : Nat → Nat} {put : Nat → Prop} {nx : List Nat} {ws : List Wt} {d : List Nat} (h : LI L n ln put nx ws d) {x : Nat} (hx : x < L) (hp : ¬ put x) : ws.length < L := by
  have e : ∀ p ∈ ws, ∃ j, j < L ∧ put j ∧ p = wt ln j := fun p hp => by
    obtain ⟨i, h1, h2, -, h3⟩ := h.ws1 p hp
    exact ⟨i, h1, h2, h3⟩
  have h1 : (ws.map fun p => p.2.toNat).Nodup := by
    have := h.nd
    rw [List.nodup_iff_pairwise_ne, List.pairwise_map] at this ⊢
    refine this.imp_of_mem fun {a b} ha hb hne e2 => hne ?_
    obtain ⟨i, -, -, rfl⟩ := e a ha
    obtain ⟨j, -, -, rfl⟩ := e b hb
    simp [wt] at e2
    rw [e2]
  have h2 := nodup_lt (x :: ws.map fun p => p.2.toNat) L (by
    rw [List.nodup_cons]
    refine ⟨fun hm => ?_, h1⟩
    obtain ⟨p, hp1, hp2⟩ := List.mem_map.1 hm
    obtain ⟨i, -, hi, rfl⟩ := e p hp1
    simp [wt] at hp2
    rw [hp2] at hi
    exact hp hi) (by
    intro y hy
    rcases List.mem_cons.1 hy with rfl | hy
    · exact hx
    · obtain ⟨p, hp1, rfl⟩ := List.mem_map.1 hy
      obtain ⟨i, hi, -, rfl⟩ := e p hp1
      simpa [wt] using hi)
  simp only [List.length_cons, List.length_map] at h2
  omega
/-- One is put. -/
theorem putL_law {L n : Nat} {ln : Nat → Nat} {put put' : Nat → Prop} {nx : List Nat} {ws : List Wt} {d : List Nat} (h : LI L n ln put nx ws d) (hf : Full L ln put nx) {x : Nat} (hx : x < L) (hln : ∀ j, ln j < n) (hp : ¬ put x) (hput : ∀ i, put' i ↔ put i ∨ i = x) :
    ∃ js : List Nat, (putL nx L ws (ln x : Int) (sq ln x) (x : Int)).err = 0 ∧ (putL nx L ws (ln x : Int) (sq ln x) (x : Int)).out = js.map (fun (j : Nat) => (j : Int)) ∧
      (putL nx L ws (ln x : Int) (sq ln x) (x : Int)).nx = nx.set (ln x) (nx.getD (ln x) 0 + js.length) ∧
      (∀ m (hm : m < js.length), js[m] < L ∧ put' js[m] ∧ ln js[m] = ln x ∧ sq ln js[m] = nx.getD (ln x) 0 + m) ∧
      LI L n ln put' (putL nx L ws (ln x : Int) (sq ln x) (x : Int)).nx (putL nx L ws (ln x : Int) (sq ln x) (x : Int)).ws (d ++ js) ∧ Full L ln put' (putL nx L ws (ln x : Int) (sq ln x) (x : Int)).nx := by
  have hfew := h.few hx hp
  have hnx : ∀ i, put i → put' i := fun i hi => (hput i).2 (.inl hi)
  have hlnx := hln x
  have hl : lookL ws (ln x : Int) (sq ln x) = none := by
    cases hl : lookL ws (ln x : Int) (sq ln x) with
    | none => rfl
    | some y =>
      have hm := lookL_mem hl
      obtain ⟨i, -, hi, -, e⟩ := h.ws1 _ hm
      have : x = i := wt_inj (by rw [← e]; rfl)
      subst this
      exact absurd hi hp
  have hge : nx.getD (ln x) 0 ≤ sq ln x := by
    rcases Nat.lt_or_ge (sq ln x) (nx.getD (ln x) 0) with h1 | h1
    · exact absurd (h.front x hx h1) hp
    · exact h1
  have hwx : wt ln x ∉ ws := look_none hl
  unfold putL
  rw [if_neg (by rw [h.len]; omega), if_neg (by rw [hl]; simp only [Int.toNat_natCast]; simp; simpa using hge)]
  simp only [Int.toNat_natCast]
  by_cases hlt : nx.getD (ln x) 0 < sq ln x
  · rw [if_pos hlt, if_neg (by omega)]
    refine ⟨[], rfl, rfl, ?_, fun m hm => absurd hm (Nat.not_lt_zero _), ?_, ?_⟩
    · show nx = _
      apply List.ext_getElem?
      intro i
      rw [List.getElem?_set]
      split
      · rename_i e
        have : ln x < nx.length := by rw [h.len]; exact hln x
        rw [← e]
        simp [this, List.getD]
      · rfl
    · show LI L n ln put' nx (ws ++ [wt ln x]) (d ++ [])
      rw [List.append_nil]
      refine ⟨h.len, ?_, ?_, ?_, h.d1, h.dn, fun i hi hs => hnx i (h.front i hi hs), h.srt⟩
      · intro p hp1
        rcases List.mem_append.1 hp1 with hp1 | hp1
        · obtain ⟨i, h1, h2, h3⟩ := h.ws1 p hp1
          exact ⟨i, h1, hnx i h2, h3⟩
        · rw [List.mem_singleton.1 hp1]
          exact ⟨x, hx, (hput x).2 (.inr rfl), hge, rfl⟩
      · intro i hi hpi hle
        rw [List.mem_append]
        rcases (hput i).1 hpi with h1 | rfl
        · exact .inl (h.ws2 i hi h1 hle)
        · exact .inr (by simp)
      · rw [List.map_append, List.nodup_append]
        refine ⟨h.nd, by simp, ?_⟩
        intro a ha b hb e
        simp at hb
        subst hb
        subst e
        obtain ⟨p, hp1, hp2⟩ := List.mem_map.1 ha
        obtain ⟨i, -, hi, -, rfl⟩ := h.ws1 p hp1
        rw [wt_inj hp2] at hi
        exact hp hi
    · intro j hj hpj
      rcases (hput j).1 hpj with h1 | rfl
      · exact hf j hj h1
      · show _ ≠ nx.getD (ln j) 0
        omega
  · rw [if_neg hlt]
    have hs : sq ln x = nx.getD (ln x) 0 := by omega
    have h2 := h.out hx (hln x) hs hput (ws' := ws) (fun p => ⟨fun hp1 => ⟨hp1, fun e => hwx (by rw [← e]; exact hp1)⟩, fun hp1 => hp1.1⟩) h.nd
    have hg : (nx.set (ln x) (sq ln x + 1)).getD (ln x) 0 = sq ln x + 1 := getD_set_self (by rw [h.len]; exact hln x) _
    obtain ⟨js, ds, r1, r2, r3, r4, r5⟩ := drain_law (s0 := sq ln x) (hln x) ws.length _ _ _ [x] h2 (Nat.le_refl _) (by rw [hg]; rfl) (fun m hm => by
      have e : m = 0 := by simpa using hm
      subst e
      exact ⟨hx, (hput x).2 (.inr rfl), rfl, rfl⟩) (fun j hj hpj hne => by
      rw [getD_set_ne (fun e => hne e.symm)]
      rcases (hput j).1 hpj with h1 | rfl
      · exact hf j hj h1
      · exact absurd rfl hne)
    rw [hg] at r1 r4
    rw [List.set_set] at r4 r5
    rw [← hs]
    simp only [List.map_cons, List.map_nil] at r1 r4
    have q1 : (drain ws.length (ln x : Int) (sq ln x + 1) ws [(x : Int)]).1 = sq ln x + js.length := by rw [r1]
    have q2 : (drain ws.length (ln x : Int) (sq ln x + 1) ws [(x : Int)]).2.2 = js.map fun (j : Nat) => (j : Int) := by rw [r1]
    refine ⟨js, rfl, q2, ?_, ?_, ?_, ?_⟩
    · show nx.set _ (drain _ _ _ _ _).1 = _
      rw [q1]
    · exact r3
    · show LI L n ln put' (nx.set _ (drain _ _ _ _ _).1) _ _
      rw [q1, r2]
      rw [r2] at r4
      simpa using r4
    · show Full L ln put' (nx.set _ (drain _ _ _ _ _).1)
      rw [q1]
      exact r5
/-- When all are put, all are out. -/
theorem LI.all {L n : Nat} {ln : Nat → Nat} {put : Nat → Prop} {nx : List Nat} {ws : List Wt} {d : List Nat} (h : LI L n ln put nx ws d) (hf : Full L ln put nx) (hp : ∀ j, j < L → put j) : d.length = L ∧ ws = [] := by
  have hlt : ∀ j, j < L → sq ln j < nx.getD (ln j) 0 := by
    intro j hj
    rcases Nat.lt_or_ge (sq ln j) (nx.getD (ln j) 0) with h1 | h1
    · exact h1
    · have h3 : nx.getD (ln j) 0 ≠ sq ln j := fun e => hf j hj (hp j hj) e.symm
      obtain ⟨i, hi, h4, h5⟩ := sq_surj ln (ln j) j (nx.getD (ln j) 0) (by show _ < sq ln j; omega)
      exact absurd (by rw [h4]; exact h5) (hf i (by omega) (hp i (by omega)))
  constructor
  · have h1 := nodup_lt d L h.dn (fun x hx => ((h.d1 x).1 hx).1)
    have h2 := nodup_sub (List.range L) d List.nodup_range (fun x hx => (h.d1 x).2 ⟨List.mem_range.1 hx, hlt x (List.mem_range.1 hx)⟩)
    simp at h2
    omega
  · cases ws with
    | nil => rfl
    | cons p r =>
      obtain ⟨j, hj, -, h1, -⟩ := h.ws1 p (by simp)
      have := hlt j hj
      omega
/-- Rising numbers of each key are in order. -/
theorem keptF_ok (ks : List KeyV) : ∀ (r : List Nat) (i : Nat) (g : KeyV → Int), (∀ j ∈ r, j < ks.length) → r.Pairwise (fun i j => ks[i]? = ks[j]? → i < j) → (∀ j ∈ r, ∀ k, ks[j]? = some k → g k ≤ (j : Int)) →
    keptF ks (r.map fun (j : Nat) => (j : Int)) i g = (i + r.length, true)
  | [], i, g, _, _, _ => rfl
  | x :: r, i, g, hl, hp, hg => by
    have hx := hl x (by simp)
    rw [List.pairwise_cons] at hp
    have hk : ks[((x : Nat) : Int).toNat]? = some ks[x] := by simp [hx]
    rw [List.map_cons]
    unfold keptF
    rw [if_neg (by omega), hk]
    have h1 : ¬ (x : Int) < g ks[x] := by
      have := hg x (by simp) ks[x] (by simp [hx])
      omega
    simp only [if_neg h1]
    rw [keptF_ok ks r (i + 1) _ (fun j hj => hl j (by simp [hj])) hp.2 (fun j hj k hk2 => ?_)]
    · simp; omega
    · by_cases e : k = ks[x]
      · rw [if_pos e]
        have := hp.1 j hj (by rw [hk2, e]; simp [hx])
        omega
      · rw [if_neg e]
        exact hg j (by simp [hj]) k hk2
end Go.Proofs.Ythjdnhlckjchgaa
