/- Small facts for the walk of TallyJoins. -/
import Derived.Test.YtdedmmjmiakidaaTalU
import Derived.Test.YtdedmmjmiakidaaTalQ
namespace Go.Proofs.Ytdedmmjmiakidaa
open Go.RowKit
set_option linter.unusedVariables false

def u64s (l : List Nat) : List Value := l.map fun (x : Nat) => Value.int .u64 (x : Int)
theorem u64s_len (l : List Nat) : (u64s l).length = l.length := by simp [u64s]
theorem u64s_snoc (l : List Nat) (x : Nat) : u64s (l ++ [x]) = u64s l ++ [.int .u64 (x : Int)] := by simp [u64s]
theorem u64s_get (l : List Nat) (i : Nat) (h : i < l.length) : (u64s l)[i]? = some (.int .u64 ((l.getD i 0 : Nat) : Int)) := by simp [u64s, h]

theorem own_keep {F : Nat → Prop} {w w' : World} {base : Nat} {e : TypeId} {size : Nat} {v : Value} {n : Nat} {xs : List Value} (h : w.ownsRow base e size v n xs) (k : Sm F w w') (hF : ∀ b, v.ownBlock = some b → ¬ F b) :
    w'.ownsRow base e size v n xs := by
  obtain ⟨h1, h2⟩ := h
  refine ⟨h1, ?_⟩
  rcases h2 with h2 | ⟨g, cap, cur, hv, hg, hh, r⟩
  · exact .inl h2
  · refine .inr ⟨g, cap, cur, hv, hg, ?_, r⟩
    rw [k.block g (Array.getElem?_eq_some_iff.1 hh).1 (hF g (by rw [hv]; rfl))]
    exact hh

theorem own_not_his {w : World} {base size n H : Nat} {e : TypeId} {v : Value} {xs : List Value} {m : List Nat} (h : w.ownsRow base e size v n xs) (hh : His H m w) (he : e ≠ 58) : ∀ b, v.ownBlock = some b → ¬ b = H := by
  intro b hb e1
  subst e1
  exact own_ne_row h hh.r he hb

/-- Where a number of a row lies. -/
theorem RowsOwn.look {g m : Nat} {Z : Nat → List Nat} {A : Nat → Option Addr} {C : Nat → Nat} {w : World} (h : RowsOwn g m Z A C w) {r j b o : Nat} (hr : r < m) (hj : j < (Z r).length) (hA : A r = some ⟨b, o, none⟩) :
    w.cell? ⟨g, r, none⟩ = some (.slice (some ⟨b, o, none⟩) (Z r).length (C r)) ∧ w.cell? ⟨b, o + j, none⟩ = some (.int .u64 (((Z r).getD j 0 : Nat) : Int)) := by
  obtain ⟨b', o', h1, h2, h3⟩ := h.dat r hr j hj
  rw [hA] at h1
  simp only [Option.some.injEq, Addr.mk.injEq] at h1
  obtain ⟨rfl, rfl, -⟩ := h1
  exact ⟨by rw [h.hd r hr, hA], h3⟩

theorem RowsOwn.sm' {F : Nat → Prop} {g m : Nat} {Z : Nat → List Nat} {A : Nat → Option Addr} {C : Nat → Nat} {w w' : World} (h : RowsOwn g m Z A C w) (k : Sm F w w') (hF : ∀ b, b < w.heap.size → ¬ F b) : RowsOwn g m Z A C w' :=
  h.sm (Sm.refl _ w) k hF

theorem take_snoc' (l : List Nat) (j : Nat) (h : j < l.length) : l.take (j + 1) = l.take j ++ [l.getD j 0] := by
  rw [List.take_succ_eq_append_getElem h]
  simp [List.getD, h]

theorem flatH_succ (f : Nat → List Nat) (n : Nat) : flatH f (n + 1) = flatH f n ++ (uw (f n)).toList := rfl
theorem hspec_lt (l : List Nat) (h : ∀ x ∈ l, x < 18446744073709551616) : ∀ x ∈ hspec l, x < 18446744073709551616 := by
  intro x hx
  simp only [hspec, List.mem_map, List.mem_range] at hx
  obtain ⟨i, hi, rfl⟩ := hx
  unfold hspecAt
  split
  · exact Nat.mod_lt _ (by decide)
  · split
    · exact Nat.mod_lt _ (by decide)
    · clear hi
      induction l with
      | nil => simp
      | cons y l ih =>
        have := h y (by simp)
        have := ih (fun x hx => h x (by simp [hx]))
        simp only [List.foldr_cons]
        omega

/-- Joined from the front, and from the back. -/
theorem joinN_cat (Z : Nat → List Nat) : ∀ n, joinN (fun j => hspec (Z j)) n = hspec (cat Z n)
  | 0 => by rw [cat, hspec_nil]; rfl
  | n + 1 => by
    rw [cat, ← hjoin_spec, ← joinN_cat Z n]
    rfl
def catB (Z : Nat → List Nat) (n : Nat) : Nat → List Nat
  | 0 => []
  | k + 1 => catB Z n k ++ Z (n - 1 - k)
theorem catB_spec (Z : Nat → List Nat) (n : Nat) : ∀ k, k ≤ n → hspec (cat Z (n - k) ++ catB Z n k) = hspec (cat Z n)
  | 0, _ => by simp [catB]
  | k + 1, h => by
    have e : n - k = n - (k + 1) + 1 := by omega
    have ih := catB_spec Z n k (by omega)
    rw [← ih, e, cat, catB]
    have e2 : n - 1 - k = n - (k + 1) := by omega
    rw [e2]
    have h1 : ∀ a b c : List Nat, hspec (a ++ (b ++ c)) = hspec (a ++ (c ++ b)) := fun a b c => by
      rw [← hjoin_spec, hspec_comm b c, hjoin_spec]
    rw [h1, ← List.append_assoc]
theorem catB_all (Z : Nat → List Nat) (n : Nat) : hspec (catB Z n n) = hspec (cat Z n) := by
  have := catB_spec Z n n (Nat.le_refl _)
  rw [Nat.sub_self, cat, List.nil_append] at this
  exact this
theorem joinN_two (a b : List Nat) : joinN (fun j => if j = 0 then a else b) 2 = hjoin (hjoin hzero a) b := rfl
end Go.Proofs.Ytdedmmjmiakidaa
