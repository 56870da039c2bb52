/- patchbayref11.Below, walked alone. -/
import Derived.Test.YtdedmmjmiakidaaTalH
namespace Go.Proofs.Ytdedmmjmiakidaa
open Go.RowKit
set_option linter.unusedVariables false
set_option linter.unusedSimpArgs false

set_option maxRecDepth 100000 in
theorem rbelow_bad (m : List Nat) (hlen : m.length = 67) (part ofN : Nat) (hb : badArgs part ofN) (w : World) :
    Calls Try.prog 13 #[.agg (uw m), .int .u64 part, .int .u64 ofN] w fun e w' => e = .returned (.tuple #[.int .u64 0, .int .i64 2]) ∧ Sm (fun _ => False) w w' := by
  by_cases h0 : ofN = 0
  · subst h0
    go_enter Try.func13, Try.ntmps13
    go_wp2
    go_ret2
    exact ⟨rfl, (Sm.refl _ _).alloc _⟩
  · by_cases h1 : 1048576 < ofN
    · have i1 : (1048576 : Int) < (ofN : Int) := by omega
      have i0 : ((ofN : Int) == 0) = false := by rw [beq_eq_false_iff_ne]; omega
      go_enter Try.func13, Try.ntmps13
      go_wp2
      go_ret2
      exact ⟨rfl, (Sm.refl _ _).alloc _⟩
    · have h2 : ofN < part := by rcases hb with h | h | h <;> first | omega | exact h
      have i1 : ¬ (1048576 : Int) < (ofN : Int) := by omega
      have i2 : (ofN : Int) < (part : Int) := by omega
      have i0 : ((ofN : Int) == 0) = false := by rw [beq_eq_false_iff_ne]; omega
      go_enter Try.func13, Try.ntmps13
      go_wp2
      go_ret2
      exact ⟨rfl, (Sm.refl _ _).alloc _⟩

theorem need_up (p o : Nat) (ho : 0 < o) : (p + o - 1) / o = if p % o = 0 then p / o else p / o + 1 := by
  have h1 := Nat.div_add_mod p o
  have h2 := Nat.mod_lt p ho
  obtain ⟨q, hq⟩ : ∃ q, q = p / o := ⟨_, rfl⟩
  obtain ⟨r, hr⟩ : ∃ r, r = p % o := ⟨_, rfl⟩
  rw [← hq, ← hr] at h1
  rw [← hr] at h2 ⊢
  rw [← hq]
  split
  · rename_i h
    rw [← h1, h, Nat.add_zero, show o * q + o - 1 = (o - 1) + o * q by omega, Nat.add_mul_div_left _ _ ho, Nat.div_eq_of_lt (by omega), Nat.zero_add]
  · rename_i h
    rw [← h1, show o * q + r + o - 1 = (r - 1) + o * (q + 1) by rw [Nat.mul_succ]; omega, Nat.add_mul_div_left _ _ ho, Nat.div_eq_of_lt (by omega), Nat.zero_add]

set_option maxRecDepth 100000 in
set_option maxHeartbeats 1600000 in
theorem rbelow_ok (m : List Nat) (hlen : m.length = 67) (hm : ∀ x ∈ m, x < 18446744073709551616) (part ofN : Nat) (hb : ¬ badArgs part ofN) (w : World) :
    Calls Try.prog 13 #[.agg (uw m), .int .u64 part, .int .u64 ofN] w fun e w' => Sm (fun _ => False) w w' ∧
      ((1099511627776 < upS m 65 ∧ e = .returned (.tuple #[.int .u64 0, .int .i64 4])) ∨
       (upS m 65 ≤ 1099511627776 ∧ ∃ k, k < 65 ∧ needOf m part ofN ≤ upS m (k + 1) ∧ (∀ j, j < k → upS m (j + 1) < needOf m part ofN) ∧ e = .returned (.tuple #[.int .u64 ((2 ^ k - 1 : Nat) : Int), .int .i64 0]))) := by
  have h0 : ofN ≠ 0 := fun h => hb (.inl h)
  have h1 : ¬ 1048576 < ofN := fun h => hb (.inr (.inl h))
  have h2 : ¬ ofN < part := fun h => hb (.inr (.inr h))
  have i1 : ¬ (1048576 : Int) < (ofN : Int) := by omega
  have i2 : ¬ (ofN : Int) < (part : Int) := by omega
  have i0 : ((ofN : Int) == 0) = false := by rw [beq_eq_false_iff_ne]; omega
  have hr0 := Row.new w (uw m) 26
  obtain ⟨w1, hw1⟩ : ∃ w1, w1 = w.alloc (.cells (uw m) 26) := ⟨_, rfl⟩
  have hs1 : Sm (fun _ => False) w w1 := by rw [hw1]; exact (Sm.refl _ _).alloc _
  clear hb
  go_enter Try.func13, Try.ntmps13
  go_wp2
  rw [← hw1]
  rw [← hw1] at hr0
  obtain ⟨Bx, hBx⟩ : ∃ Bx, Bx = w.heap.size := ⟨_, rfl⟩
  rw [← hBx] at hr0
  simp only [← hBx]
  have HR0 := Lib.hid hr0
  have HS1 := Lib.hid hs1
  clear hr0 hs1 hw1 hBx
  go_loop [8, 9] (fun s8 s9 => ∃ k : Nat, k ≤ 65 ∧ s9 = .int .i64 k ∧ s8 = .int .u64 (upS m k : Nat) ∧ upS m k ≤ 1099511627776) (fun s8 s9 => 65 - (intOf s9).toNat)
  case atStart => exact ⟨0, by omega, rfl, by rw [upS_zero]; rfl, by rw [upS_zero]; decide⟩
  case round =>
    obtain ⟨k, hk, rfl, rfl, hS⟩ := hrel
    by_cases hlt : k < 65
    · have j1 : (k : Int) < 65 := by omega
      have hp : wrap64 ((k : Int) + 1) = ((k + 1 : Nat) : Int) := by unfold wrap64; omega
      have HP := Lib.hid hp
      clear hp
      have hkm : k < m.length := by omega
      obtain ⟨x, hx⟩ : ∃ x, x = m[k] := ⟨_, rfl⟩
      have hc : w1.cell? ⟨Bx, k, none⟩ = some (.int .u64 (x : Int)) := by rw [hx]; exact (HR0.out.cell k).trans (uw_get m k hkm)
      have hsucc := upS_succ m k hkm
      rw [← hx] at hsucc
      have hmono := upS_mono m (k + 1) 65 (by omega)
      clear hx
      obtain ⟨S1, hS1⟩ : ∃ S1, S1 = upS m (k + 1) := ⟨_, rfl⟩
      rw [← hS1] at hsucc hmono
      have H1 := Lib.hid hS1
      have HSU := Lib.hid hsucc
      have HM := Lib.hid hmono
      clear hS1 hsucc hmono
      by_cases hbig : (1099511627776 : Int) < (x : Int)
      · go_wp2
        go_ret2
        have := HSU.out
        have := HM.out
        exact ⟨HS1.out, .inl ⟨by omega, rfl⟩⟩
      · have hadd : IntKind.u64.wrap ((upS m k : Nat) + (x : Int)) = (S1 : Int) := by rw [IntKind.wrap_u64, HSU.out]; omega
        have hadd2 : ((upS m k : Nat) : Int) + (x : Int) = (S1 : Int) := by rw [HSU.out]; omega
        by_cases hbig2 : (1099511627776 : Int) < (S1 : Int)
        · go_wp2
          go_ret2
          have := HM.out
          exact ⟨HS1.out, .inl ⟨by omega, rfl⟩⟩
        · go_wp2
          go_round
          case rel => exact ⟨k + 1, by omega, by first | rw [HP.out] | go_num, by rw [H1.out], by rw [← H1.out]; omega⟩
          case measure => (try rw [HP.out]); simp only [intOf]; omega
    · have hkk : k = 65 := by omega
      subst hkk
      have j1 : ¬ (65 : Int) < 65 := by omega
      obtain ⟨p, hp⟩ : ∃ p, p = upS m 65 * part := ⟨_, rfl⟩
      have hp60 : p ≤ 1152921504606846976 := by
        rw [hp]; exact Nat.le_trans (Nat.mul_le_mul hS (show part ≤ 1048576 by omega)) (by decide)
      have hmul0 : ((upS m 65 : Nat) : Int) * (part : Int) = (p : Int) := by rw [hp]; simp
      have hmul : IntKind.u64.wrap ((upS m 65 : Nat) * (part : Int)) = (p : Int) := by
        rw [hmul0, IntKind.wrap_u64]; omega
      obtain ⟨N, hN⟩ : ∃ N, N = needOf m part ofN := ⟨_, rfl⟩
      have hNup : N = if p % ofN = 0 then p / ofN else p / ofN + 1 := by rw [hN, needOf, ← hp, need_up p ofN (by omega)]
      have hNle : N ≤ upS m 65 := by
        rw [hN, needOf]
        have h3 : upS m 65 * part ≤ upS m 65 * ofN := Nat.mul_le_mul_left _ (by omega)
        have h4 : ofN * (upS m 65 + 1) = upS m 65 * ofN + ofN := by rw [Nat.mul_succ, Nat.mul_comm]
        have h5 : upS m 65 * part + ofN - 1 < ofN * (upS m 65 + 1) := by rw [h4]; omega
        exact Nat.lt_succ_iff.1 (Nat.div_lt_of_lt_mul h5)
      have HN := Lib.hid hN
      have HPP := Lib.hid hp
      clear hp hN
      obtain ⟨q, hq⟩ : ∃ q, q = p / ofN := ⟨_, rfl⟩
      have hdv : (p : Int) / (ofN : Int) = (q : Int) := by rw [hq, Int.natCast_ediv]
      have hqN : q ≤ N := by rw [hNup, ← hq]; split <;> omega
      have hqw : IntKind.u64.wrap (q : Int) = (q : Int) := by rw [IntKind.wrap_u64]; omega
      rw [← hq] at hNup
      have HQ := Lib.hid hq
      clear hq
      by_cases hmod : p % ofN = 0
      · have im : ((p : Int) % (ofN : Int) == 0) = true := by rw [← Int.natCast_emod, hmod]; rfl
        rw [if_pos hmod] at hNup
        have HNQ := Lib.hid hNup
        clear hNup
        go_wp2
        rw [← HNQ.out]
        have HSZ := Lib.hid hS
        go_loop [11, 12, 13] (fun s11 s12 s13 => ∃ k : Nat, k ≤ 65 ∧ s13 = .int .i64 k ∧ s12 = .int .u64 (upS m k : Nat) ∧ (k < 65 → s11 = .int .u64 ((2 ^ k - 1 : Nat) : Int)) ∧ ∀ j, j < k → upS m (j + 1) < N) (fun s11 s12 s13 => 65 - (intOf s13).toNat)
        case atStart => exact ⟨0, by omega, rfl, by rw [upS_zero]; rfl, fun _ => rfl, fun j h => absurd h (by omega)⟩
        case round =>
          obtain ⟨k, hk, rfl, rfl, hv, hJ⟩ := hrel
          have HJ := Lib.hid hJ
          clear hJ
          by_cases hlt : k < 65
          · obtain rfl := hv hlt
            have j1 : (k : Int) < 65 := by omega
            have hp : wrap64 ((k : Int) + 1) = ((k + 1 : Nat) : Int) := by unfold wrap64; omega
            have HP := Lib.hid hp
            clear hp hv
            have hkm : k < m.length := by omega
            obtain ⟨x, hx⟩ : ∃ x, x = m[k] := ⟨_, rfl⟩
            have hc : w1.cell? ⟨Bx, k, none⟩ = some (.int .u64 (x : Int)) := by rw [hx]; exact (HR0.out.cell k).trans (uw_get m k hkm)
            have hsucc := upS_succ m k hkm
            rw [← hx] at hsucc
            have hmono := upS_mono m (k + 1) 65 (by omega)
            clear hx
            obtain ⟨S1, hS1⟩ : ∃ S1, S1 = upS m (k + 1) := ⟨_, rfl⟩
            rw [← hS1] at hsucc hmono
            have hadd : IntKind.u64.wrap ((upS m k : Nat) + (x : Int)) = (S1 : Int) := by rw [IntKind.wrap_u64, hsucc]; omega
            have hadd' : ((upS m k : Nat) : Int) + (x : Int) = (S1 : Int) := by rw [hsucc]; omega
            obtain ⟨V, hV⟩ : ∃ V : Nat, V = 2 ^ k - 1 := ⟨_, rfl⟩
            rw [← hV]
            have hVW : k + 1 < 65 → IntKind.u64.wrap (IntKind.u64.wrap (2 * (V : Int)) + 1) = ((2 ^ (k + 1) - 1 : Nat) : Int) := by
              intro h
              have h64 : 2 ^ (k + 1) ≤ 2 ^ 64 := Nat.pow_le_pow_right (by decide) (by omega)
              rw [show (2 : Nat) ^ 64 = 18446744073709551616 from rfl] at h64
              have hp2 : 0 < 2 ^ k := Nat.pow_pos (by decide)
              have e2 : 2 ^ (k + 1) = 2 * 2 ^ k := by rw [Nat.pow_succ, Nat.mul_comm]
              simp only [IntKind.wrap_u64]
              omega
            have H1 := Lib.hid hS1
            have HV := Lib.hid hV
            have HVW := Lib.hid hVW
            clear hS1 hsucc hV hVW
            by_cases hge : (N : Int) ≤ (S1 : Int)
            · go_wp2
              go_ret2
              refine ⟨HS1.out, .inr ?_⟩
              rw [H1.out, HN.out] at hge
              first
                | exact ⟨HSZ.out, k, hlt, by omega, fun j hj => by rw [← HN.out]; exact HJ.out j hj, by rw [HV.out]; rfl⟩
                | exact ⟨k, hlt, by omega, fun j hj => by rw [← HN.out]; exact HJ.out j hj, by rw [HV.out]; rfl⟩
            · go_wp2
              go_round
              case rel => exact ⟨k + 1, by omega, by first | rw [HP.out] | go_num, by rw [H1.out], fun h => by rw [HVW.out h], fun j hj => by
                rcases Nat.lt_or_ge j k with h | h
                · exact HJ.out j h
                · obtain rfl : j = k := by omega
                  rw [← H1.out]; omega⟩
              case measure => (try rw [HP.out]); simp only [intOf]; omega
          · have hkk : k = 65 := by omega
            subst hkk
            have := HJ.out 64 (by omega)
            simp only [Nat.reduceAdd] at this
            omega
      · have im : ((p : Int) % (ofN : Int) == 0) = false := by rw [← Int.natCast_emod, beq_eq_false_iff_ne]; omega
        rw [if_neg hmod] at hNup
        have hq1 : IntKind.u64.wrap ((q : Int) + 1) = (N : Int) := by rw [IntKind.wrap_u64, hNup]; omega
        clear hNup
        go_wp2
        have HSZ := Lib.hid hS
        go_loop [11, 12, 13] (fun s11 s12 s13 => ∃ k : Nat, k ≤ 65 ∧ s13 = .int .i64 k ∧ s12 = .int .u64 (upS m k : Nat) ∧ (k < 65 → s11 = .int .u64 ((2 ^ k - 1 : Nat) : Int)) ∧ ∀ j, j < k → upS m (j + 1) < N) (fun s11 s12 s13 => 65 - (intOf s13).toNat)
        case atStart => exact ⟨0, by omega, rfl, by rw [upS_zero]; rfl, fun _ => rfl, fun j h => absurd h (by omega)⟩
        case round =>
          obtain ⟨k, hk, rfl, rfl, hv, hJ⟩ := hrel
          have HJ := Lib.hid hJ
          clear hJ
          by_cases hlt : k < 65
          · obtain rfl := hv hlt
            have j1 : (k : Int) < 65 := by omega
            have hp : wrap64 ((k : Int) + 1) = ((k + 1 : Nat) : Int) := by unfold wrap64; omega
            have HP := Lib.hid hp
            clear hp hv
            have hkm : k < m.length := by omega
            obtain ⟨x, hx⟩ : ∃ x, x = m[k] := ⟨_, rfl⟩
            have hc : w1.cell? ⟨Bx, k, none⟩ = some (.int .u64 (x : Int)) := by rw [hx]; exact (HR0.out.cell k).trans (uw_get m k hkm)
            have hsucc := upS_succ m k hkm
            rw [← hx] at hsucc
            have hmono := upS_mono m (k + 1) 65 (by omega)
            clear hx
            obtain ⟨S1, hS1⟩ : ∃ S1, S1 = upS m (k + 1) := ⟨_, rfl⟩
            rw [← hS1] at hsucc hmono
            have hadd : IntKind.u64.wrap ((upS m k : Nat) + (x : Int)) = (S1 : Int) := by rw [IntKind.wrap_u64, hsucc]; omega
            have hadd' : ((upS m k : Nat) : Int) + (x : Int) = (S1 : Int) := by rw [hsucc]; omega
            obtain ⟨V, hV⟩ : ∃ V : Nat, V = 2 ^ k - 1 := ⟨_, rfl⟩
            rw [← hV]
            have hVW : k + 1 < 65 → IntKind.u64.wrap (IntKind.u64.wrap (2 * (V : Int)) + 1) = ((2 ^ (k + 1) - 1 : Nat) : Int) := by
              intro h
              have h64 : 2 ^ (k + 1) ≤ 2 ^ 64 := Nat.pow_le_pow_right (by decide) (by omega)
              rw [show (2 : Nat) ^ 64 = 18446744073709551616 from rfl] at h64
              have hp2 : 0 < 2 ^ k := Nat.pow_pos (by decide)
              have e2 : 2 ^ (k + 1) = 2 * 2 ^ k := by rw [Nat.pow_succ, Nat.mul_comm]
              simp only [IntKind.wrap_u64]
              omega
            have H1 := Lib.hid hS1
            have HV := Lib.hid hV
            have HVW := Lib.hid hVW
            clear hS1 hsucc hV hVW
            by_cases hge : (N : Int) ≤ (S1 : Int)
            · go_wp2
              go_ret2
              refine ⟨HS1.out, .inr ?_⟩
              rw [H1.out, HN.out] at hge
              first
                | exact ⟨HSZ.out, k, hlt, by omega, fun j hj => by rw [← HN.out]; exact HJ.out j hj, by rw [HV.out]; rfl⟩
                | exact ⟨k, hlt, by omega, fun j hj => by rw [← HN.out]; exact HJ.out j hj, by rw [HV.out]; rfl⟩
            · go_wp2
              go_round
              case rel => exact ⟨k + 1, by omega, by first | rw [HP.out] | go_num, by rw [H1.out], fun h => by rw [HVW.out h], fun j hj => by
                rcases Nat.lt_or_ge j k with h | h
                · exact HJ.out j h
                · obtain rfl : j = k := by omega
                  rw [← H1.out]; omega⟩
              case measure => (try rw [HP.out]); simp only [intOf]; omega
          · have hkk : k = 65 := by omega
            subst hkk
            have := HJ.out 64 (by omega)
            simp only [Nat.reduceAdd] at this
            omega
end Go.Proofs.Ytdedmmjmiakidaa
