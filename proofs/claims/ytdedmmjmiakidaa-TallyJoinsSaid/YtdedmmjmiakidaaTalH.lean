/- tally.Below, walked alone. -/
import Derived.Test.YtdedmmjmiakidaaTalE
import Derived.Deep.MidRow
namespace Go.Proofs.Ytdedmmjmiakidaa
open Go.RowKit
set_option linter.unusedVariables false

/-- How many numbers lie in the first k buckets. -/
def upS (m : List Nat) (k : Nat) : Nat := (m.take k).sum
theorem upS_zero (m : List Nat) : upS m 0 = 0 := by simp [upS]
theorem upS_succ (m : List Nat) (k : Nat) (h : k < m.length) : upS m (k + 1) = upS m k + m[k] := by
  unfold upS
  rw [List.take_add_one, List.sum_append, List.getElem?_eq_getElem h]
  simp
theorem upS_mono (m : List Nat) (j k : Nat) (h : j ≤ k) : upS m j ≤ upS m k := by
  induction k with
  | zero => simp at h; simp [h]
  | succ k ih =>
    rcases Nat.lt_or_ge j (k + 1) with h1 | h1
    · have := ih (by omega)
      by_cases hk : k < m.length
      · rw [upS_succ m k hk]; omega
      · have e : upS m (k + 1) = upS m k := by
          simp only [upS]
          rw [List.take_of_length_le (by omega), List.take_of_length_le (by omega)]
        omega
    · have : j = k + 1 := by omega
      subst this; exact Nat.le_refl _

def badArgs (part ofN : Nat) : Prop := ofN = 0 ∨ 1048576 < ofN ∨ ofN < part
def needOf (m : List Nat) (part ofN : Nat) : Nat := (upS m 65 * part + ofN - 1) / ofN

set_option maxRecDepth 100000 in
theorem tbelow_bad (m : List Nat) (hlen : m.length = 67) (part ofN : Nat) (hb : badArgs part ofN) (w : World) :
    Calls Try.prog 12 #[.agg (uw m), .int .u64 part, .int .u64 ofN] w fun e w' => e = .returned (.tuple #[.int .u64 0, .int .i64 2]) ∧ Sm (fun _ => False) w w' := by
  by_cases h0 : ofN = 0
  · subst h0
    go_enter Try.func12, Try.ntmps12
    go_wp2
    go_ret2
    exact ⟨rfl, (Sm.refl _ _).alloc _⟩
  · by_cases h1 : 1048576 < ofN
    · have i1 : (1048576 : Int) < (ofN : Int) := by omega
      have i0 : ((ofN : Int) == 0) = false := by rw [beq_eq_false_iff_ne]; omega
      go_enter Try.func12, Try.ntmps12
      go_wp2
      go_ret2
      exact ⟨rfl, (Sm.refl _ _).alloc _⟩
    · have h2 : ofN < part := by rcases hb with h | h | h <;> first | omega | exact h
      have i1 : ¬ (1048576 : Int) < (ofN : Int) := by omega
      have i2 : (ofN : Int) < (part : Int) := by omega
      have i0 : ((ofN : Int) == 0) = false := by rw [beq_eq_false_iff_ne]; omega
      go_enter Try.func12, Try.ntmps12
      go_wp2
      go_ret2
      exact ⟨rfl, (Sm.refl _ _).alloc _⟩

theorem row_range (w : World) (b T : Nat) (m : List Nat) (k : Nat) (h : Row w b (uw m) T) : w.rangeAt b 0 (uw (m.take k)).toList := by
  intro j v hv
  rw [Nat.zero_add, h.cell j]
  simp only [uw, List.map_take] at hv ⊢
  simp only [List.getElem?_take] at hv
  split at hv
  · simpa using hv
  · cases hv

theorem size_u65 : (Try.prog.info? 24).map (·.size) = some 65 := by kernel_rfl
theorem wpList_load_u65 {ops : Array Oper} {rest : List Oper} {o : Oper} {a : Act} {w : World} {Q : Exit → Act → World → Prop} (hgd : o.guard = none) (x : Operand) (ho : o.op = .load 24 x)
    (b T : Nat) (hx : a.eval x = .pointer (some ⟨b, 0, none⟩)) (m : List Nat) (hlen : m.length = 67) (hr : Row w b (uw m) T) (h : wpList Try.prog ops Q rest (a.put o.dst (.agg (uw (m.take 65)))) w) : wpList Try.prog ops Q (o :: rest) a w := by
  refine wpList_load_mid hgd 24 x ho b 0 hx (uw (m.take 65)).toList _ (row_range _ _ _ m 65 hr) Try.underlying24 rfl (by rw [Array.length_toList, uw_size, List.length_take, hlen, size_u65]; rfl) ?_
  exact h

theorem pow_wrap (k : Nat) (hk : k < 65) : IntKind.u64.wrap (IntKind.u64.wrap (2 ^ k) - 1) = ((2 ^ k - 1 : Nat) : Int) := by
  have e : (2 : Int) ^ k = ((2 ^ k : Nat) : Int) := by simp
  have hp : 0 < 2 ^ k := Nat.pow_pos (by decide)
  rw [e]
  rcases Nat.lt_or_ge k 64 with h | h
  · have : 2 ^ k < 2 ^ 64 := Nat.pow_lt_pow_right (by decide) h
    rw [show (2 : Nat) ^ 64 = 18446744073709551616 from rfl] at this
    simp only [IntKind.wrap_u64]
    omega
  · obtain rfl : k = 64 := by omega
    decide
theorem size_u64 : (Try.prog.info? 23).map (·.size) = some 1 := by kernel_rfl
theorem index_u65 (w : World) (c : List Nat) (k x : Nat) (hk : k < 65) (hc : (uw c)[k]? = some (.int .u64 (x : Int))) : (Instr.index 24 (.agg (uw c)) (.int .i64 (k : Int))).run Try.prog w = .ok (.int .u64 (x : Int)) w := by
  have hn : 0 ≤ (k : Int) ∧ (k : Int) < ((65 : Nat) : Int) := by omega
  cases hq : Try.prog.info? 23 with
  | none => have := size_u64; simp [hq] at this
  | some i =>
    have hs : i.size = 1 := by have := size_u64; simpa [hq] using this
    simp [Instr.index, run_underlying Try.underlying24, asIntOf, hn, hk, part, sizeOf, typeInfo, hq, hs, hc]

set_option maxRecDepth 100000 in
set_option maxHeartbeats 800000 in
theorem tbelow_ok (m : List Nat) (hlen : m.length = 67) (hm : ∀ x ∈ m, x < 18446744073709551616) (part ofN : Nat) (hb : ¬ badArgs part ofN) (w : World) :
    Calls Try.prog 12 #[.agg (uw m), .int .u64 part, .int .u64 ofN] w fun e w' => Sm (fun _ => False) w w' ∧
      ((1099511627776 < upS m 65 ∧ e = .returned (.tuple #[.int .u64 0, .int .i64 4])) ∨
       (upS m 65 ≤ 1099511627776 ∧ ∃ k, k < 65 ∧ needOf m part ofN ≤ upS m (k + 1) ∧ (∀ j, j < k → upS m (j + 1) < needOf m part ofN) ∧ e = .returned (.tuple #[.int .u64 ((2 ^ k - 1 : Nat) : Int), .int .i64 0]))) := by
  have h0 : ofN ≠ 0 := fun h => hb (.inl h)
  have h1 : ¬ 1048576 < ofN := fun h => hb (.inr (.inl h))
  have h2 : ¬ ofN < part := fun h => hb (.inr (.inr h))
  have i1 : ¬ (1048576 : Int) < (ofN : Int) := by omega
  have i2 : ¬ (ofN : Int) < (part : Int) := by omega
  have i0 : ((ofN : Int) == 0) = false := by rw [beq_eq_false_iff_ne]; omega
  have hr0 := Row.new w (uw m) 26
  obtain ⟨w1, hw1⟩ : ∃ w1, w1 = w.alloc (.cells (uw m) 26) := ⟨_, rfl⟩
  have hs1 : Sm (fun _ => False) w w1 := by rw [hw1]; exact (Sm.refl _ _).alloc _
  have HB := Lib.hid hb
  clear hb
  go_enter Try.func12, Try.ntmps12
  go_wp2_with (refine wpList_load_u65 rfl (.tmp 26) rfl w.heap.size _ (by simp [Act.eval]) m hlen hr0 ?_)
  rw [← hw1]
  rw [← hw1] at hr0
  have HR0 := Lib.hid hr0
  have HS1 := Lib.hid hs1
  clear hr0 hs1 hw1
  go_loop [8, 10, 28] (fun s8 s10 s28 => ∃ k : Nat, k ≤ 65 ∧ s28 = .int .i64 k ∧ s8 = .int .u64 (upS m k : Nat) ∧ upS m k ≤ 1099511627776) (fun s8 s10 s28 => 65 - (intOf s28).toNat)
  case atStart => exact ⟨0, by omega, rfl, by rw [upS_zero]; rfl, by rw [upS_zero]; decide⟩
  case round =>
    obtain ⟨k, hk, rfl, rfl, hS⟩ := hrel
    by_cases hlt : k < 65
    · have j1 : (k : Int) < 65 := by omega
      have hp : wrap64 ((k : Int) + 1) = ((k + 1 : Nat) : Int) := by unfold wrap64; omega
      have HP := Lib.hid hp
      clear hp
      have hkm : k < m.length := by omega
      obtain ⟨x, hx⟩ : ∃ x, x = m[k] := ⟨_, rfl⟩
      have hc : (uw (m.take 65))[k]? = some (.int .u64 (x : Int)) := by
        rw [uw_get (m.take 65) k (by simp; omega), hx]; simp
      have hix := index_u65 w1 (m.take 65) k x hlt hc
      have hx64 : x < 18446744073709551616 := by rw [hx]; exact hm _ (List.getElem_mem hkm)
      have hsub : IntKind.u64.wrap (1099511627776 - (upS m k : Nat)) = 1099511627776 - (upS m k : Nat) := by rw [IntKind.wrap_u64]; omega
      have hsucc := upS_succ m k hkm
      rw [← hx] at hsucc
      clear hx
      by_cases hbig : 1099511627776 - (upS m k : Int) < (x : Int)
      · go_wp2
        go_ret2
        refine ⟨HS1.out, .inl ⟨?_, rfl⟩⟩
        have := upS_mono m (k + 1) 65 (by omega)
        omega
      · have hadd : IntKind.u64.wrap ((upS m k : Nat) + (x : Int)) = ((upS m (k + 1) : Nat) : Int) := by rw [IntKind.wrap_u64, hsucc]; omega
        go_wp2
        go_round
        case rel => exact ⟨k + 1, by omega, by first | rw [HP.out] | go_num, by congr 1; omega, by omega⟩
        case measure => (try rw [HP.out]); simp only [intOf]; omega
    · have hkk : k = 65 := by omega
      subst hkk
      have j1 : ¬ (65 : Int) < 65 := by omega
      obtain ⟨p, hp⟩ : ∃ p, p = upS m 65 * part := ⟨_, rfl⟩
      have hp60 : p ≤ 1152921504606846976 := by
        rw [hp]; exact Nat.le_trans (Nat.mul_le_mul hS (show part ≤ 1048576 by omega)) (by decide)
      have hmul : IntKind.u64.wrap ((upS m 65 : Nat) * (part : Int)) = (p : Int) := by
        rw [show ((upS m 65 : Nat) : Int) * (part : Int) = (p : Int) by rw [hp]; simp, IntKind.wrap_u64]; omega
      have hadd : IntKind.u64.wrap ((p : Int) + (ofN : Int)) = (p : Int) + (ofN : Int) := by rw [IntKind.wrap_u64]; omega
      have hsub : IntKind.u64.wrap ((p : Int) + (ofN : Int) - 1) = ((p + ofN - 1 : Nat) : Int) := by rw [IntKind.wrap_u64]; omega
      clear HB
      go_wp2_with (refine wpList_load_u65 rfl (.tmp 47) rfl w.heap.size _ (by simp [Act.eval]) m hlen HR0.out ?_)
      obtain ⟨N, hN⟩ : ∃ N, N = needOf m part ofN := ⟨_, rfl⟩
      have hneed : (((upS m 65 : Nat) : Int) * (part : Int) + (ofN : Int) - 1) / (ofN : Int) = (N : Int) := by
        rw [hN, show ((upS m 65 : Nat) : Int) * (part : Int) = (p : Int) by rw [hp]; simp, show (p : Int) + (ofN : Int) - 1 = ((p + ofN - 1 : Nat) : Int) by omega, needOf, Int.natCast_ediv, ← hp]
      have hNle : N ≤ upS m 65 := by
        rw [hN, needOf]
        have h3 : upS m 65 * part ≤ upS m 65 * ofN := Nat.mul_le_mul_left _ (by omega)
        have h4 : ofN * (upS m 65 + 1) = upS m 65 * ofN + ofN := by rw [Nat.mul_succ, Nat.mul_comm]
        have h5 : upS m 65 * part + ofN - 1 < ofN * (upS m 65 + 1) := by rw [h4]; omega
        exact Nat.lt_succ_iff.1 (Nat.div_lt_of_lt_mul h5)
      rw [hneed]
      have HN := Lib.hid hN
      have HSZ := Lib.hid hS
      clear hmul hadd hsub hneed hp hN
      go_loop [12, 13, 14, 49] (fun s12 s13 s14 s49 => ∃ k : Nat, k ≤ 65 ∧ s49 = .int .i64 k ∧ s12 = .int .u64 (upS m k : Nat) ∧ ∀ j, j < k → upS m (j + 1) < N) (fun s12 s13 s14 s49 => 65 - (intOf s49).toNat)
      case atStart => exact ⟨0, by omega, rfl, by rw [upS_zero]; rfl, fun j h => absurd h (by omega)⟩
      case round =>
        obtain ⟨k, hk, rfl, rfl, hJ⟩ := hrel
        have HJ := Lib.hid hJ
        clear hJ
        by_cases hlt : k < 65
        · have j1 : (k : Int) < 65 := by omega
          have hp : wrap64 ((k : Int) + 1) = ((k + 1 : Nat) : Int) := by unfold wrap64; omega
          have HP := Lib.hid hp
          clear hp
          have hkm : k < m.length := by omega
          obtain ⟨x, hx⟩ : ∃ x, x = m[k] := ⟨_, rfl⟩
          have hc : (uw (m.take 65))[k]? = some (.int .u64 (x : Int)) := by
            rw [uw_get (m.take 65) k (by simp; omega), hx]; simp
          have hix := index_u65 w1 (m.take 65) k x hlt hc
          have hsucc := upS_succ m k hkm
          rw [← hx] at hsucc
          have hmono := upS_mono m (k + 1) 65 (by omega)
          clear hx
          obtain ⟨S1, hS1⟩ : ∃ S1, S1 = upS m (k + 1) := ⟨_, rfl⟩
          rw [← hS1] at hsucc hmono
          have hadd : IntKind.u64.wrap ((upS m k : Nat) + (x : Int)) = (S1 : Int) := by rw [IntKind.wrap_u64, hsucc]; omega
          have hadd' : ((upS m k : Nat) : Int) + (x : Int) = (S1 : Int) := by rw [hsucc]; omega
          have H1 := Lib.hid hS1
          clear hS1 hsucc
          by_cases hge : (N : Int) ≤ (S1 : Int)
          · go_wp2
            rw [pow_wrap k hlt]
            go_ret2
            refine ⟨HS1.out, .inr ?_⟩
            rw [H1.out, HN.out] at hge
            first
              | exact ⟨HSZ.out, k, hlt, by omega, fun j hj => by rw [← HN.out]; exact HJ.out j hj, rfl⟩
              | exact ⟨k, hlt, by omega, fun j hj => by rw [← HN.out]; exact HJ.out j hj, rfl⟩
          · go_wp2
            go_round
            case rel => exact ⟨k + 1, by omega, by first | rw [HP.out] | go_num, by rw [H1.out], fun j hj => by
              rcases Nat.lt_or_ge j k with h | h
              · exact HJ.out j h
              · obtain rfl : j = k := by omega
                rw [← H1.out]; omega⟩
            case measure => (try rw [HP.out]); simp only [intOf]; omega
        · have hkk : k = 65 := by omega
          subst hkk
          have := HJ.out 64 (by omega)
          simp only [Nat.reduceAdd] at this
          omega
end Go.Proofs.Ytdedmmjmiakidaa
