/- A whole slice of histograms appended to nil. -/
import Derived.Test.YtdedmmjmiakidaaTalJ
import Derived.Laws.AppendOwnNone
namespace Go.Proofs.Ytdedmmjmiakidaa
open Go.RowKit
set_option linter.unusedVariables false

def flatH (f : Nat → List Nat) : Nat → List Value
  | 0 => []
  | n + 1 => flatH f n ++ (uw (f n)).toList
theorem flatH_len (f : Nat → List Nat) : ∀ n, (∀ j, j < n → (f j).length = 67) → (flatH f n).length = n * 67
  | 0, _ => rfl
  | n + 1, h => by
    rw [flatH, List.length_append, flatH_len f n (fun j hj => h j (by omega)), Array.length_toList, uw_size, h n (by omega)]
    omega
theorem flatH_get (f : Nat → List Nat) : ∀ n, (∀ j, j < n → (f j).length = 67) → ∀ j i, j < n → i < 67 → (flatH f n)[j * 67 + i]? = (uw (f j)).toList[i]?
  | 0, _ => fun j i hj _ => absurd hj (by omega)
  | n + 1, h => fun j i hj hi => by
    have hl := flatH_len f n (fun j hj => h j (by omega))
    rw [flatH]
    rcases Nat.lt_or_ge j n with h1 | h1
    · rw [List.getElem?_append_left (by omega)]
      exact flatH_get f n (fun j hj => h j (by omega)) j i h1 hi
    · obtain rfl : j = n := by omega
      rw [List.getElem?_append_right (by omega), hl]
      congr 1
      omega
theorem flatH_one (f : Nat → List Nat) : ∀ n, ∀ v ∈ flatH f n, v.oneCell' = true
  | 0 => fun v hv => by simp [flatH] at hv
  | n + 1 => fun v hv => by
    rw [flatH, List.mem_append] at hv
    rcases hv with hv | hv
    · exact flatH_one f n v hv
    · exact (Array.all_eq_true_iff_forall_mem.1 (uw_one (f n))) v (by simpa using hv)

theorem info_hist : (Try.prog.info? 26).map (fun i => (i.zero, i.size, i.bytes)) = some (some (.agg (uw hzero)), 67, 536) := by kernel_rfl

theorem add_plain' (b off k : Nat) : (⟨b, off, none⟩ : Addr).add k = ⟨b, off + k, none⟩ := by
  unfold Addr.add
  split <;> simp_all

set_option maxRecDepth 100000 in
theorem wpList_append_hists {w : World} {ops : Array Oper} {rest : List Oper} {o : Oper} {a : Act} {Q : Exit → Act → World → Prop} (hgd : o.guard = none) (s x : Operand)
    (ho : o.op = .call { callee := .builtin .append, args := #[s, x], argTypes := #[22, 22] })
    (hs : a.eval s = .slice none 0 0) (A : Option Addr) (n c : Nat) (hx : a.eval x = .slice A n c) (hnil : A = none → n = 0 ∧ c = 0) (b off : Nat) (f : Nat → List Nat) (ha : 0 < n → A = some ⟨b, off, none⟩) (H : HisL b off n f w) (hreach : n * 536 ≤ 140737488355328)
    (hK : ∀ a2 b2 c2 w', (0 < n → a2 = some ⟨b2, 0, none⟩) → HisL b2 0 n f w' → Sm (fun _ => False) w w' → wpList Try.prog ops Q rest (a.put o.dst (.slice a2 n c2)) w') : wpList Try.prog ops Q (o :: rest) a w := by
  obtain ⟨i0, hi, hz0, hz1, hz2⟩ := info_parts info_hist
  cases A with
  | none =>
    obtain ⟨rfl, rfl⟩ := hnil rfl
    refine wpList_append_own_none hgd s x 22 ho 0 26 i0 67 Try.underlying22 hi _ 0 [] hs (World.ownsRow_nil _ _ _ _) hx ?_
    exact hK none 0 0 w (fun h => absurd h (by decide)) ⟨fun j h => absurd h (by omega), fun j h => absurd h (by omega), fun j h => absurd h (by omega), fun h => absurd h (by decide)⟩ (Sm.refl _ _)
  | some ad =>
    refine wpList_append_own _ hgd s x 22 ho w.heap.size 26 i0 (.agg (uw hzero)) 67 536 Try.underlying22 hi hz0 hz1 hz2 (by simp [Value.cells, uw_size, hzero]) (by decide) _ 0 [] hs (World.ownsRow_nil _ _ _ _) ad n c (flatH f n) hx (flatH_len f n H.len) ?_ (flatH_one f n) (by unfold maxLen; omega) (by omega) (Nat.le_refl _) ?_
    · intro j u hu
      have hj : j < n * 67 := by rw [← flatH_len f n H.len]; exact (List.getElem?_eq_some_iff.1 hu).1
      have hn : 0 < n := by omega
      have e := ha hn
      simp only [Option.some.injEq] at e
      subst e
      have hg := flatH_get f n H.len (j / 67) (j % 67) (by omega) (Nat.mod_lt _ (by decide))
      rw [show j / 67 * 67 + j % 67 = j by omega, hu] at hg
      have := H.rng (j / 67) (by omega) (j % 67) u hg.symm
      rw [add_plain']
      rw [show off + j / 67 * 67 + j % 67 = off + j by omega] at this
      exact this
    · intro v' w' hown hgr _
      rw [Nat.zero_add, List.nil_append] at hown
      have hsm : Sm (fun _ => False) w w' := sm_grown hgr (fun k hk => by cases hk)
      obtain ⟨a2, c2, rfl⟩ := own_form0 hown
      rcases Nat.eq_zero_or_pos n with h0 | h0
      · subst h0
        exact hK a2 0 c2 w' (fun h => absurd h (by decide)) ⟨fun j h => absurd h (by omega), fun j h => absurd h (by omega), fun j h => absurd h (by omega), fun h => absurd h (by decide)⟩ hsm
      · obtain ⟨g, cap, hv⟩ := own_form hown h0
        simp only [Value.slice.injEq] at hv
        obtain ⟨rfl, -, rfl⟩ := hv
        have hc := hown.cells (g := g) rfl
        refine hK _ g c2 w' (fun _ => rfl) ⟨fun j hj i v hv => ?_, H.len, H.lt, fun _ => ?_⟩ hsm
        · have hi : i < 67 := by
            have := (List.getElem?_eq_some_iff.1 hv).1
            simpa [uw, H.len j hj] using this
          have := hc (j * 67 + i) v (by rw [flatH_get f n H.len j i hj hi]; exact hv)
          rw [add_plain'] at this
          rw [show 0 + j * 67 + i = 0 + (j * 67 + i) by omega]
          exact this
        · exact (hown.lt g rfl).2
end Go.Proofs.Ytdedmmjmiakidaa
