/- The walk of patchbaylaw08.StackNews. -/
import Derived.Test.YtmcffabfghhpaaaAloneW
namespace Go.Proofs.Ytmcffabfghhpaaa
open Go.RowKit
set_option linter.unusedVariables false

def mayF (s : Int) : Nat → Bool
  | 0 => false
  | j + 1 => mayF s j || (s == ((2 ^ j : Nat) : Int))

theorem mayF_of (s : Int) (j k : Nat) (h : k < j) (e : s = ((2 ^ k : Nat) : Int)) : mayF s j = true := by
  induction j with
  | zero => omega
  | succ j ih =>
    by_cases hk : k = j
    · subst hk; simp [mayF, e]
    · simp [mayF, ih (by omega)]
theorem mayF_pow (s : Int) (j : Nat) (h : mayF s j = true) : ∃ k, k < j ∧ s = ((2 ^ k : Nat) : Int) := by
  induction j with
  | zero => simp [mayF] at h
  | succ j ih =>
    simp only [mayF, Bool.or_eq_true, beq_iff_eq] at h
    rcases h with h | h
    · obtain ⟨k, h1, h2⟩ := ih h
      exact ⟨k, by omega, h2⟩
    · exact ⟨j, by omega, h⟩

theorem bits_not : ∀ s : Fin 1025, 0 < s.val → mayF (s.val : Int) 11 = false → (bits .and .i64 (s.val : Int) ((s.val : Int) - 1) != 0) = true := by decide +kernel

set_option maxRecDepth 100000 in
theorem new_err (s : Int) (hs : mayF s 11 = false) (w : World) :
    Calls Try.prog 12 #[.int .i64 s] w fun e w' => e = .returned (.tuple #[.pointer none, .int .i64 2]) ∧ w = w' := by
  by_cases h1 : s < 1
  · go_enter Try.func12, Try.ntmps12
    go_wp2
    go_ret2
    exact ⟨rfl, rfl⟩
  · by_cases h2 : 1024 < s
    · clear hs
      go_enter Try.func12, Try.ntmps12
      go_wp2
      go_ret2
      exact ⟨rfl, rfl⟩
    · have hb : (bits .and .i64 s (s - 1) != 0) = true := by
        have := bits_not ⟨s.toNat, by omega⟩ (by show 0 < s.toNat; omega)
        simp only [Int.toNat_of_nonneg (show 0 ≤ s by omega)] at this
        exact this hs
      clear hs
      go_enter Try.func12, Try.ntmps12
      go_wp2
      go_ret2
      exact ⟨rfl, rfl⟩
/-- The loop that looks for a power of two, on the way of a refused number. -/
theorem pow2_le (j : Nat) (h : j ≤ 10) : 2 ^ j ≤ 1024 := Nat.pow_le_pow_right (n := 2) (j := 10) (by decide) h
theorem pow2_ge (j : Nat) (h : 11 ≤ j) (h' : j ≤ 11) : 2 ^ j = 2048 := by
  have : j = 11 := by omega
  subst this; rfl

set_option maxRecDepth 100000 in
set_option maxHeartbeats 1600000 in
theorem news_bad (s : Int) (hs : mayF s 11 = false) (W : World) :
    Calls Try.prog 4 #[.int .i64 s] W fun e w => e = .returned (.bool true) ∧ Below W.heap.size W w := by
  have HE := Lib.hid (new_err s hs W)
  have HS := Lib.hid hs
  clear hs
  go_enter Try.func4, Try.ntmps4
  go_wp2_with fail
  refine HE.out.mono ?_
  rintro e W' ⟨rfl, rfl⟩
  go_wp2
  go_loop [5, 6] (fun s5 s6 => ∃ j : Nat, j ≤ 11 ∧ s6 = .int .i64 ((2 ^ j : Nat) : Int) ∧ s5 = .bool false) (fun _ s6 => 2049 - (intOf s6).toNat)
  case atStart => exact ⟨0, by omega, rfl, rfl⟩
  case round =>
    obtain ⟨j, hj, rfl, rfl⟩ := hrel
    by_cases hlt : j ≤ 10
    · have h1 : 2 ^ j ≤ 1024 := pow2_le j hlt
      have h0 : 0 < 2 ^ j := Nat.two_pow_pos j
      have hne : (s == ((2 ^ j : Nat) : Int)) = false := by
        cases h : (s == ((2 ^ j : Nat) : Int)) with
        | false => rfl
        | true => exact absurd (mayF_of s 11 j (by omega) (by simpa using h)) (by rw [HS.out]; simp)
      have hp : 2 ^ (j + 1) = 2 * 2 ^ j := by rw [Nat.pow_succ]; omega
      generalize 2 ^ j = q at *
      have HP := Lib.hid hp
      clear hp
      go_wp2
      go_round
      case rel => exact ⟨j + 1, by omega, by rw [HP.out]; go_num, rfl⟩
      case measure => simp [intOf]; omega
    · have h1 : 2 ^ j = 2048 := pow2_ge j (by omega) hj
      have h2 : ¬ ((2 ^ j : Nat) : Int) ≤ 1024 := by omega
      generalize 2 ^ j = q at *
      clear h1
      go_wp2_with (go_at_call 10; refine (awake_c _).mono ?_; rintro e w' ⟨rfl, hw⟩; have HW := Lib.hid hw; clear hw)
      go_ret
      exact ⟨rfl, (HW.out).below (Nat.le_refl _) (fun _ h => h.elim)⟩
theorem bits_pow (k : Nat) (hk : k < 11) : bits .and .i64 ((2 ^ k : Nat) : Int) (((2 ^ k : Nat) : Int) - 1) = 0 := by
  have : k = 0 ∨ k = 1 ∨ k = 2 ∨ k = 3 ∨ k = 4 ∨ k = 5 ∨ k = 6 ∨ k = 7 ∨ k = 8 ∨ k = 9 ∨ k = 10 := by omega
  rcases this with rfl | rfl | rfl | rfl | rfl | rfl | rfl | rfl | rfl | rfl | rfl <;> decide

theorem range_rev (q : Nat) : (List.range (q + 1)).reverse = q :: (List.range q).reverse := by rw [List.range_succ]; simp

set_option maxRecDepth 100000 in
set_option maxHeartbeats 3200000 in
theorem news_good (k0 : Nat) (hk0 : k0 < 11) (W : World) :
    Calls Try.prog 4 #[.int .i64 ((2 ^ k0 : Nat) : Int)] W fun e w => e = .returned (.bool true) ∧ Below W.heap.size W w := by
  have HB := Lib.hid (bits_pow k0 hk0)
  have hn0 : 0 < 2 ^ k0 := Nat.two_pow_pos k0
  have hn1 : 2 ^ k0 ≤ 1024 := pow2_le k0 (by omega)
  have hmay : ∀ j, mayF ((2 ^ k0 : Nat) : Int) j = decide (k0 < j) := by
    intro j
    by_cases h : k0 < j
    · rw [mayF_of _ j k0 h rfl]; simp [h]
    · have : mayF ((2 ^ k0 : Nat) : Int) j = false := by
        cases hm : mayF ((2 ^ k0 : Nat) : Int) j with
        | false => rfl
        | true =>
          obtain ⟨k, h1, h2⟩ := mayF_pow _ j hm
          have : 2 ^ k0 = 2 ^ k := by omega
          rcases Nat.lt_trichotomy k0 k with h3 | h3 | h3
          · have := Nat.pow_lt_pow_right (a := 2) (by decide) h3; omega
          · omega
          · have := Nat.pow_lt_pow_right (a := 2) (by decide) h3; omega
      rw [this]; simp [h]
  generalize hn : 2 ^ k0 = n at *
  clear hn
  have HMAY := Lib.hid hmay
  have HNEW := Lib.hid (new_a n hn0 hn1 HB.out W)
  clear hmay
  go_enter Try.func4, Try.ntmps4
  go_wp2_with fail
  refine HNEW.out.mono ?_
  rintro e w1 ⟨rfl, hs1, ha1⟩
  have ha1' := Lib.hid ha1
  have hz1 : W.heap.size + 1 < w1.heap.size := by
    obtain ⟨_, _, _, _, _, h, _⟩ := ha1
    exact h.rS.lt
  clear ha1
  obtain ⟨S, hS⟩ : ∃ S, S = W.heap.size + 1 := ⟨_, rfl⟩
  obtain ⟨N, hN⟩ : ∃ N, N = W.heap.size := ⟨_, rfl⟩
  rw [← hS, ← hN] at ha1'
  rw [← hS]
  have hWS : W.heap.size ≤ S ∧ W.heap.size ≤ N := by omega
  obtain ⟨hWS1, hWN1⟩ := hWS
  have HSS := Lib.hid hS
  have HNN := Lib.hid hN
  have hbel1 : Below W.heap.size W w1 := hs1.below (Nat.le_refl _) (fun _ h => h.elim)
  clear hS hN hs1
  go_wp2
  go_loop [5, 6] (fun s5 s6 => ∃ j : Nat, j ≤ 11 ∧ s6 = .int .i64 ((2 ^ j : Nat) : Int) ∧ s5 = .bool (mayF (n : Int) j)) (fun _ s6 => 2049 - (intOf s6).toNat)
  case atStart => exact ⟨0, by omega, rfl, rfl⟩
  case round =>
    obtain ⟨j, hj, rfl, rfl⟩ := hrel
    by_cases hlt : j ≤ 10
    · have h1 : 2 ^ j ≤ 1024 := pow2_le j hlt
      have h0 : 0 < 2 ^ j := Nat.two_pow_pos j
      have hsu : mayF (n : Int) (j + 1) = (mayF (n : Int) j || ((n : Int) == ((2 ^ j : Nat) : Int))) := rfl
      have hp : 2 ^ (j + 1) = 2 * 2 ^ j := by rw [Nat.pow_succ]; omega
      have HM := Lib.hid hsu
      clear hsu
      cases hm : mayF (n : Int) j with
      | true =>
        rw [hm] at HM
        have HM2 : Hid (mayF (n : Int) (j + 1) = true) := by have := HM.out; exact this.trans (by simp)
        clear HM hm
        generalize 2 ^ j = q at *
        have HP := Lib.hid hp
        clear hp
        go_wp2
        go_round
        case rel => exact ⟨j + 1, by omega, by rw [HP.out]; go_num, by rw [HM2.out]⟩
        case measure => simp [intOf]; omega
      | false =>
        rw [hm] at HM
        clear hm
        generalize 2 ^ j = q at *
        have HP := Lib.hid hp
        clear hp
        go_wp2
        go_round
        case rel => exact ⟨j + 1, by omega, by rw [HP.out]; go_num, by rw [HM.out]; simp⟩
        case measure => simp [intOf]; omega
    · have h1 : 2 ^ j = 2048 := pow2_ge j (by omega) hj
      have h2 : ¬ ((2 ^ j : Nat) : Int) ≤ 1024 := by omega
      have hm : mayF (n : Int) j = true := by rw [HMAY.out]; simp; omega
      generalize 2 ^ j = q at *
      rw [hm]
      clear h1 hm
      have HSL : Hid (∀ wx, AS S N n [] wx → Calls Try.prog 15 #[.pointer (some ⟨S, 0, none⟩)] wx fun e w' => e = .returned (.int .i64 n) ∧ wx = w') := fun wx h => by
        obtain ⟨t0, t1, m, l, f, hs, _⟩ := h
        exact slots_c S (hdr t0 t1 N n) N n rfl hn0 wx hs.rS
      go_wp2_with fail
      refine (HSL.out _ ha1'.out).mono ?_
      rintro e w' ⟨rfl, rfl⟩
      go_wp2
      go_loopw [7] (fun s7 wr => ∃ i : Nat, i ≤ n + 1 ∧ s7 = .int .i64 i ∧ Hid (AS S N n (List.range (min i n)).reverse wr) ∧ Below W.heap.size W wr) (fun s7 _ => n + 1 - (intOf s7).toNat)
      case atStart => exact ⟨0, by omega, rfl, Lib.hid (by simpa using ha1'.out), hbel1⟩
      case round =>
        rename_i wr _
        obtain ⟨i, hi, rfl, hA, hbr⟩ := hrel
        by_cases hin : i < n
        · have P := Lib.hid (push_a (S := S) (N := N) (n := n) (List.range (min i n)).reverse i (by omega) wr hA.out (by simp; omega))
          have j1 : (i : Int) < (n : Int) := by omega
          go_wp2_with fail
          refine P.out.mono ?_
          rintro e w3 ⟨rfl, hAS3, hs3⟩
          have HAS3 := Lib.hid hAS3
          have hbel3 : Below W.heap.size W w3 := hbr.trans (hs3.below (by have := hbr.size; omega) (fun k hk => by rcases hk with rfl | rfl <;> omega))
          clear hAS3 hs3
          go_wp2
          go_roundw
          case rel => exact ⟨i + 1, by omega, by go_num, Lib.hid (by
            have := HAS3.out
            rw [show min i n = i from by omega, ← range_rev] at this
            rw [show min (i + 1) n = i + 1 from by omega]
            exact this), hbel3⟩
          case measure => simp [intOf]; omega
        · by_cases hie : i = n
          · have P := Lib.hid (push_b (S := S) (N := N) (n := n) (List.range (min i n)).reverse (i : Int) wr hA.out (by simp; omega))
            have j1 : ¬ (i : Int) < (n : Int) := by omega
            have j2 : (i : Int) ≤ (n : Int) := by omega
            have HIE := Lib.hid hie
            clear hie
            go_wp2_with fail
            refine P.out.mono ?_
            rintro e w3 ⟨rfl, hAS3, hs3⟩
            have HAS3 := Lib.hid hAS3
            have hbel3 : Below W.heap.size W w3 := hbr.trans (hs3.below (by have := hbr.size; omega) (fun k hk => by rcases hk with rfl | rfl <;> omega))
            clear hAS3 hs3
            go_wp2
            go_roundw
            case rel => exact ⟨i + 1, by omega, by go_num, Lib.hid (by
              have := HAS3.out
              rw [show min (i + 1) n = min i n from by have := HIE.out; omega]
              exact this), hbel3⟩
            case measure => simp [intOf]; omega
          · have j1 : ¬ (i : Int) ≤ (n : Int) := by omega
            have hA' : Hid (AS S N n (List.range n).reverse wr) := by
              have := hA.out
              rw [show min i n = n from by omega] at this
              exact this
            clear hA hie
            go_wp2
            go_loopw [10] (fun s10 wx => ∃ (q : Nat) (z : Int), q ≤ n ∧ (z + 1 = (q : Int) ∨ (z = -2 ∧ q = 0)) ∧ s10 = .int .i64 z ∧ Hid (AS S N n (List.range q).reverse wx) ∧ Below W.heap.size W wx) (fun s10 _ => (intOf s10 + 2).toNat)
            case atStart => exact ⟨n, _, Nat.le_refl _, .inl (by omega), rfl, hA', hbr⟩
            case round =>
              obtain ⟨q, z, hq, hz, rfl, hA3, hbel3⟩ := hrel
              rcases hz with hz | ⟨hz, rfl⟩
              · cases q with
                | zero =>
                  obtain rfl : z = -1 := by omega
                  have P := Lib.hid (pop_b (S := S) (N := N) (n := n) _ (by simpa using hA3.out))
                  clear hz
                  go_wp2_with fail
                  refine P.out.mono ?_
                  rintro e w4 ⟨rfl, hAS4, hs4⟩
                  have HAS4 := Lib.hid hAS4
                  have hbel4 : Below W.heap.size W w4 := hbel3.trans (hs4.below (by have := hbel3.size; omega) (fun k hk => by rcases hk with rfl | rfl <;> omega))
                  clear hAS4 hs4
                  go_wp2
                  go_roundw
                  case rel => exact ⟨0, -2, by omega, .inr ⟨rfl, rfl⟩, rfl, Lib.hid (by simpa using HAS4.out), hbel4⟩
                  case measure => simp [intOf]
                | succ q =>
                  obtain rfl : z = (q : Int) := by omega
                  have P := Lib.hid (pop_a (S := S) (N := N) (n := n) (List.range q).reverse q _ (by rw [← range_rev]; exact hA3.out))
                  have HZ := Lib.hid hz
                  clear hz
                  go_wp2_with fail
                  refine P.out.mono ?_
                  rintro e w4 ⟨rfl, hAS4, hs4⟩
                  have HAS4 := Lib.hid hAS4
                  have hbel4 : Below W.heap.size W w4 := hbel3.trans (hs4.below (by have := hbel3.size; omega) (fun k hk => by rcases hk with rfl | rfl <;> omega))
                  clear hAS4 hs4
                  go_wp2
                  go_roundw
                  case rel => exact ⟨q, (q : Int) - 1, by omega, .inl (by omega), rfl, HAS4, hbel4⟩
                  case measure => simp [intOf] <;> omega
              · subst hz
                clear hA3
                go_wp2_with (go_at_call 10; refine (awake_c _).mono ?_; rintro e w' ⟨rfl, hw⟩; have HW := Lib.hid hw; clear hw)
                go_ret
                exact ⟨rfl, hbel3.trans ((HW.out).below (by have := hbel3.size; omega) (fun _ h => h.elim))⟩

theorem news_w (s : Int) (W : World) :
    Calls Try.prog 4 #[.int .i64 s] W fun e w => e = .returned (.bool true) ∧ Below W.heap.size W w := by
  cases h : mayF s 11 with
  | false => exact news_bad s h W
  | true =>
    obtain ⟨k, h1, rfl⟩ := mayF_pow s 11 h
    exact news_good k h1 W
end Go.Proofs.Ytmcffabfghhpaaa
