/- What Below tells, as a relation; both Belows tell it. -/
import Derived.Test.YtdedmmjmiakidaaTalK
import Derived.Test.YtdedmmjmiakidaaTalQ
namespace Go.Proofs.Ytdedmmjmiakidaa
open Go.RowKit
set_option linter.unusedVariables false

def BelowIs (m : List Nat) (part ofN : Nat) (r1 r2 : Nat) : Prop :=
  (badArgs part ofN ∧ r1 = 0 ∧ r2 = 2) ∨ (¬ badArgs part ofN ∧ 1099511627776 < upS m 65 ∧ r1 = 0 ∧ r2 = 4) ∨
    (¬ badArgs part ofN ∧ upS m 65 ≤ 1099511627776 ∧ ∃ k, k < 65 ∧ needOf m part ofN ≤ upS m (k + 1) ∧ (∀ j, j < k → upS m (j + 1) < needOf m part ofN) ∧ r1 = 2 ^ k - 1 ∧ r2 = 0)
theorem BelowIs.uniq {m : List Nat} {p o a b a' b' : Nat} (h : BelowIs m p o a b) (h' : BelowIs m p o a' b') : a = a' ∧ b = b' := by
  rcases h with ⟨h1, rfl, rfl⟩ | ⟨h1, h2, rfl, rfl⟩ | ⟨h1, h2, k, hk, hk1, hk2, rfl, rfl⟩ <;> rcases h' with ⟨g1, rfl, rfl⟩ | ⟨g1, g2, rfl, rfl⟩ | ⟨g1, g2, j, hj, hj1, hj2, rfl, rfl⟩
  · exact ⟨rfl, rfl⟩
  · exact absurd h1 g1
  · exact absurd h1 g1
  · exact absurd g1 h1
  · exact ⟨rfl, rfl⟩
  · omega
  · exact absurd g1 h1
  · omega
  · have : k = j := by
      rcases Nat.lt_trichotomy k j with h | h | h
      · have := hj2 k h; omega
      · exact h
      · have := hk2 j h; omega
    subst this
    exact ⟨rfl, rfl⟩

theorem tbelow_c (m : List Nat) (hlen : m.length = 67) (hm : ∀ x ∈ m, x < 18446744073709551616) (part ofN : Nat) (w : World) :
    Calls Try.prog 12 #[.agg (uw m), .int .u64 part, .int .u64 ofN] w fun e w' => ∃ r1 r2 : Nat, BelowIs m part ofN r1 r2 ∧ e = .returned (.tuple #[.int .u64 (r1 : Int), .int .i64 (r2 : Int)]) ∧ Sm (fun _ => False) w w' := by
  by_cases hb : badArgs part ofN
  · exact (tbelow_bad m hlen part ofN hb w).mono fun e w' ⟨h1, h2⟩ => ⟨0, 2, .inl ⟨hb, rfl, rfl⟩, h1, h2⟩
  · refine (tbelow_ok m hlen hm part ofN hb w).mono fun e w' ⟨h1, h2⟩ => ?_
    rcases h2 with ⟨h2, h3⟩ | ⟨h2, k, h3, h4, h5, h6⟩
    · exact ⟨0, 4, .inr (.inl ⟨hb, h2, rfl, rfl⟩), h3, h1⟩
    · exact ⟨2 ^ k - 1, 0, .inr (.inr ⟨hb, h2, k, h3, h4, h5, rfl, rfl⟩), h6, h1⟩
theorem rbelow_c (m : List Nat) (hlen : m.length = 67) (hm : ∀ x ∈ m, x < 18446744073709551616) (part ofN : Nat) (w : World) :
    Calls Try.prog 13 #[.agg (uw m), .int .u64 part, .int .u64 ofN] w fun e w' => ∃ r1 r2 : Nat, BelowIs m part ofN r1 r2 ∧ e = .returned (.tuple #[.int .u64 (r1 : Int), .int .i64 (r2 : Int)]) ∧ Sm (fun _ => False) w w' := by
  by_cases hb : badArgs part ofN
  · exact (rbelow_bad m hlen part ofN hb w).mono fun e w' ⟨h1, h2⟩ => ⟨0, 2, .inl ⟨hb, rfl, rfl⟩, h1, h2⟩
  · refine (rbelow_ok m hlen hm part ofN hb w).mono fun e w' ⟨h1, h2⟩ => ?_
    rcases h2 with ⟨h2, h3⟩ | ⟨h2, k, h3, h4, h5, h6⟩
    · exact ⟨0, 4, .inr (.inl ⟨hb, h2, rfl, rfl⟩), h3, h1⟩
    · exact ⟨2 ^ k - 1, 0, .inr (.inr ⟨hb, h2, k, h3, h4, h5, rfl, rfl⟩), h6, h1⟩

theorem wp_load_h67 {o : Oper} {a : Act} {w : World} {K : Act → World → Prop} {Q : Exit → Act → World → Prop} (x : Operand) (ho : o.op = .load 26 x)
    (b off : Nat) (hx : a.eval x = .pointer (some ⟨b, off, none⟩)) (m : List Nat) (hlen : m.length = 67) (hr : w.rangeAt b off (uw m).toList) (h : K (a.put o.dst (.agg (uw m))) w) : o.wp Try.prog a w K Q :=
  wp_load_mid 26 x ho b off hx (uw m).toList _ hr Try.underlying26 rfl (by rw [Array.length_toList, uw_size, hlen, size_h67]) h
end Go.Proofs.Ytdedmmjmiakidaa
