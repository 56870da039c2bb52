/- Plain: what a histogram of a list of numbers is; joined histograms. -/
import Derived.Test.YtdedmmjmiakidaaTalR
namespace Go.Proofs.Ytdedmmjmiakidaa
set_option linter.unusedVariables false

def hspecAt (l : List Nat) (i : Nat) : Nat :=
  if i < 65 then (l.countP fun x => Lib.bitLen x == i) % 18446744073709551616 else if i = 65 then l.sum % 18446744073709551616 else l.foldr max 0
def hspec (l : List Nat) : List Nat := (List.range 67).map (hspecAt l)
theorem hspec_len (l : List Nat) : (hspec l).length = 67 := by simp [hspec]
theorem hspec_get (l : List Nat) (i : Nat) (h : i < 67) : (hspec l).getD i 0 = hspecAt l i := by simp [hspec, h]
theorem hspec_nil : hspec [] = hzero := by decide

theorem ext67 (a b : List Nat) (ha : a.length = 67) (hb : b.length = 67) (h : ∀ i, i < 67 → a.getD i 0 = b.getD i 0) : a = b := by
  apply List.ext_getElem
  · omega
  · intro i h1 h2
    have := h i (by omega)
    simpa [List.getD, h1, h2] using this

theorem foldr_max_append (a b : List Nat) : (a ++ b).foldr max 0 = max (a.foldr max 0) (b.foldr max 0) := by
  induction a with
  | nil => simp
  | cons x a ih => simp [ih, Nat.max_assoc]

theorem hspecAt_append (a b : List Nat) (i : Nat) : hspecAt (a ++ b) i = if i < 66 then (hspecAt a i + hspecAt b i) % 18446744073709551616 else max (hspecAt a i) (hspecAt b i) := by
  unfold hspecAt
  by_cases h : i < 65
  · rw [if_pos h, if_pos h, if_pos h, if_pos (by omega), List.countP_append]
    omega
  · rw [if_neg h, if_neg h, if_neg h]
    by_cases h5 : i = 65
    · rw [if_pos h5, if_pos h5, if_pos h5, if_pos (by omega), List.sum_append]
      omega
    · rw [if_neg h5, if_neg h5, if_neg h5, if_neg (by omega), foldr_max_append]

theorem hjoin_get (a b : List Nat) (i : Nat) (h : i < 67) : (hjoin a b).getD i 0 = if i < 66 then (a.getD i 0 + b.getD i 0) % 18446744073709551616 else max (a.getD i 0) (b.getD i 0) := by
  unfold hjoin
  by_cases h6 : i < 66
  · have e : ((hup a b 66).set 66 (max (a.getD 66 0) (b.getD 66 0))).getD i 0 = (hup a b 66).getD i 0 := by
      simp [List.getD, List.getElem?_set_ne (show 66 ≠ i by omega)]
    rw [e, hup_getD a b 66 i h, if_pos h6, if_pos h6]
  · obtain rfl : i = 66 := by omega
    simp [List.getD, hup_len]

theorem hjoin_spec (a b : List Nat) : hjoin (hspec a) (hspec b) = hspec (a ++ b) := by
  apply ext67 _ _ (hjoin_len _ _) (hspec_len _)
  intro i h
  rw [hjoin_get _ _ i h, hspec_get _ i h, hspec_get _ i h, hspec_get _ i h, hspecAt_append]
theorem hspec_comm (a b : List Nat) : hspec (a ++ b) = hspec (b ++ a) := by
  apply ext67 _ _ (hspec_len _) (hspec_len _)
  intro i h
  rw [hspec_get _ i h, hspec_get _ i h, hspecAt_append, hspecAt_append]
  split
  · rw [Nat.add_comm]
  · rw [Nat.max_comm]
theorem hjoin_zero (a : List Nat) : hjoin hzero (hspec a) = hspec a := by
  rw [← hspec_nil, hjoin_spec]; rfl

theorem getD_set (m : List Nat) (j x i : Nat) (hi : i < m.length) : (m.set j x).getD i 0 = if j = i then x else m.getD i 0 := by
  by_cases h : j = i
  · subst h
    simp [List.getD, hi]
  · simp [List.getD, h]

theorem come_spec (l : List Nat) (v : Nat) (hv : v < 18446744073709551616) : come (hspec l) v = hspec (l ++ [v]) := by
  have hk : Lib.bitLen v ≤ 64 := bitLen_le 64 v hv (by decide)
  apply ext67 _ _ (by rw [come_len, hspec_len]) (hspec_len _)
  intro i h
  rw [hspec_get _ i h, hspecAt_append]
  have hl := hspec_len l
  have e0 := hspec_get l (Lib.bitLen v) (by omega)
  have e5 := hspec_get l 65 (by omega)
  have e6 := hspec_get l 66 (by omega)
  have ei := hspec_get l i h
  have base : (((hspec l).set (Lib.bitLen v) (((hspec l).getD (Lib.bitLen v) 0 + 1) % 18446744073709551616)).set 65 (((hspec l).getD 65 0 + v) % 18446744073709551616)).getD i 0 = if i < 66 then (hspecAt l i + hspecAt [v] i) % 18446744073709551616 else hspecAt l i := by
    rw [getD_set _ _ _ _ (by simp [hl]; omega), getD_set _ _ _ _ (by omega), e0, e5, ei]
    by_cases h5 : i = 65
    · subst h5
      simp [hspecAt]
    · by_cases h6 : i = 66
      · subst h6
        simp
        omega
      · have hi : i < 65 := by omega
        rw [if_neg (show ¬ 65 = i by omega), if_pos (show i < 66 by omega)]
        by_cases hb : Lib.bitLen v = i
        · rw [if_pos hb, hb]
          simp [hspecAt, hi, hb]
        · rw [if_neg hb]
          simp [hspecAt, hi, hb]
  unfold come
  simp only
  rw [e6]
  have hv6 : hspecAt [v] 66 = v := by simp [hspecAt]
  split
  · rename_i hle
    rw [base]
    by_cases h6 : i < 66
    · rw [if_pos h6, if_pos h6]
    · obtain rfl : i = 66 := by omega
      rw [if_neg h6, if_neg h6, hv6]
      omega
  · rename_i hgt
    rw [getD_set _ _ _ _ (by simp [hl]; omega)]
    by_cases h6 : i < 66
    · rw [if_neg (by omega), base, if_pos h6, if_pos h6]
    · obtain rfl : i = 66 := by omega
      rw [if_pos rfl, if_neg h6, hv6]
      omega

theorem lt_pow_bitLen : ∀ (n v : Nat), v ≤ n → v < 18446744073709551616 → v < 2 ^ Lib.bitLen v
  | 0, v, h, _ => by
    obtain rfl : v = 0 := by omega
    simp [bitLen_zero]
  | n + 1, v, h, hv => by
    by_cases h0 : v = 0
    · subst h0; simp [bitLen_zero]
    · rw [Lib.bitLen_half v h0 hv]
      have := lt_pow_bitLen n (v / 2) (by omega) (by omega)
      rw [Nat.pow_add]
      omega
theorem bitLen_iff (v k : Nat) (hv : v < 18446744073709551616) (hk : k ≤ 64) : Lib.bitLen v ≤ k ↔ v ≤ 2 ^ k - 1 := by
  have hp : 0 < 2 ^ k := Nat.pow_pos (by decide)
  constructor
  · intro h
    have h1 := lt_pow_bitLen v v (Nat.le_refl _) hv
    have h2 : 2 ^ Lib.bitLen v ≤ 2 ^ k := Nat.pow_le_pow_right (by decide) h
    omega
  · intro h
    exact bitLen_le k v (by omega) hk

theorem upS_spec (l : List Nat) (hl : l.length < 1000000) : ∀ k, k ≤ 65 → upS (hspec l) k = l.countP fun x => decide (Lib.bitLen x < k)
  | 0, _ => by simp [upS_zero]
  | k + 1, hk => by
    rw [upS_succ _ _ (by rw [hspec_len]; omega), upS_spec l hl k (by omega)]
    have e : (hspec l)[k]'(by rw [hspec_len]; omega) = l.countP fun x => Lib.bitLen x == k := by
      have h1 := hspec_get l k (by omega)
      have h2 : (hspec l).getD k 0 = (hspec l)[k]'(by rw [hspec_len]; omega) := by simp [List.getD, hspec_len, show k < 67 by omega]
      rw [← h2, h1, hspecAt, if_pos (by omega)]
      have := List.countP_le_length (p := fun x => Lib.bitLen x == k) (l := l)
      omega
    rw [e]
    clear e
    induction l with
    | nil => simp
    | cons x l ih =>
      have ih := ih (by simp at hl; omega)
      simp only [List.countP_cons]
      by_cases h1 : Lib.bitLen x < k
      · have a1 : Lib.bitLen x < k + 1 := by omega
        have a2 : ¬ Lib.bitLen x = k := by omega
        simp [h1, a1, a2]; omega
      · by_cases h2 : Lib.bitLen x = k
        · have a1 : Lib.bitLen x < k + 1 := by omega
          simp [h2]; omega
        · have a1 : ¬ Lib.bitLen x < k + 1 := by omega
          simp [h1, a1, h2]; omega

theorem upS_all (l : List Nat) (hl : l.length < 1000000) (hv : ∀ x ∈ l, x < 18446744073709551616) : upS (hspec l) 65 = l.length := by
  rw [upS_spec l hl 65 (by omega)]
  rw [List.countP_eq_length.2]
  intro x hx
  have := bitLen_le 64 x (hv x hx) (by decide)
  simp; omega

theorem upS_le (l : List Nat) (hl : l.length < 1000000) (hv : ∀ x ∈ l, x < 18446744073709551616) (k : Nat) (hk : k ≤ 64) : upS (hspec l) (k + 1) = l.countP fun x => decide (x ≤ 2 ^ k - 1) := by
  rw [upS_spec l hl (k + 1) (by omega)]
  refine List.countP_congr fun x hx => ?_
  have := bitLen_iff x k (hv x hx) hk
  simp
  omega

theorem joins_law (l : List Nat) (hl : l.length < 1000000) (hv : ∀ x ∈ l, x < 18446744073709551616) (part o : Nat) (h0 : 0 < o) (h1 : o ≤ 1048576) (h2 : part ≤ o) (v r w s : Nat)
    (hb : BelowIs (hspec l) part o v r) (hw : BelowIs (hspec l) o o w s) :
    r = 0 ∧ s = 0 ∧ v ≤ w ∧ l.length * part ≤ (l.countP fun x => decide (x ≤ v)) * o ∧ (v = 0 ∨ (l.countP fun x => decide (x ≤ v / 2)) * o < l.length * part) := by
  have hall := upS_all l hl hv
  have nb : ∀ q, q ≤ o → ¬ badArgs q o := by unfold badArgs; omega
  rcases hb with ⟨hb, _⟩ | ⟨_, hb, _⟩ | ⟨_, _, k, hk, hk1, hk2, rfl, rfl⟩
  · exact absurd hb (nb part h2)
  · omega
  rcases hw with ⟨hw, _⟩ | ⟨_, hw, _⟩ | ⟨_, _, j, hj, hj1, hj2, rfl, rfl⟩
  · exact absurd hw (nb o (Nat.le_refl _))
  · omega
  have hmono : needOf (hspec l) part o ≤ needOf (hspec l) o o := by
    unfold needOf
    apply Nat.div_le_div_right
    have : upS (hspec l) 65 * part ≤ upS (hspec l) 65 * o := Nat.mul_le_mul_left _ h2
    omega
  have hkj : k ≤ j := by
    rcases Nat.lt_or_ge j k with h | h
    · have := hk2 j h; omega
    · exact h
  have hpw : 2 ^ k ≤ 2 ^ j := Nat.pow_le_pow_right (by decide) hkj
  refine ⟨rfl, rfl, by omega, ?_, ?_⟩
  · rw [← upS_le l hl hv k (by omega)]
    unfold needOf at hk1
    rw [hall] at hk1
    have h3 := Nat.lt_of_le_of_lt hk1 (Nat.lt_succ_self _)
    have h4 := (Nat.div_lt_iff_lt_mul h0).1 h3
    rw [Nat.succ_mul] at h4
    omega
  · rcases Nat.eq_zero_or_pos k with hk0 | hk0
    · subst hk0
      exact .inl rfl
    · right
      obtain ⟨i, rfl⟩ : ∃ i, k = i + 1 := ⟨k - 1, by omega⟩
      have e : (2 ^ (i + 1) - 1) / 2 = 2 ^ i - 1 := by
        have : 0 < 2 ^ i := Nat.pow_pos (by decide)
        rw [Nat.pow_succ]; omega
      rw [e, ← upS_le l hl hv i (by omega)]
      have h3 := hk2 i (by omega)
      unfold needOf at h3
      rw [hall] at h3
      have h4 : upS (hspec l) (i + 1) + 1 ≤ (l.length * part + o - 1) / o := h3
      have h5 := (Nat.le_div_iff_mul_le h0).1 h4
      rw [Nat.succ_mul] at h5
      omega
end Go.Proofs.Ytdedmmjmiakidaa
