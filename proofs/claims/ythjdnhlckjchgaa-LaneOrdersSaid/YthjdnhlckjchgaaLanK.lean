/- sameInts, walked alone. -/
import Derived.Test.YthjdnhlckjchgaaLanI
namespace Go.Proofs.Ythjdnhlckjchgaa
open Go.RowKit
set_option linter.unusedVariables false
set_option linter.unusedSimpArgs false

/-- A slice of ints in memory. -/
def Ints (v : Value) (xs : List Int) (w : World) : Prop :=
  ∃ a c, v = .slice a xs.length c ∧ (0 < xs.length → ∃ b o, a = some ⟨b, o, none⟩ ∧ b < w.heap.size ∧ ∀ j (h : j < xs.length), w.cell? ⟨b, o + j, none⟩ = some (.int .i64 xs[j]))
theorem Ints.sm {v : Value} {xs : List Int} {w w' : World} {F : Nat → Prop} (h : Ints v xs w) (k : Sm F w w') (hF : ∀ b, b < w.heap.size → ¬ F b) : Ints v xs w' := by
  obtain ⟨a, c, hv, h⟩ := h
  refine ⟨a, c, hv, fun h0 => ?_⟩
  obtain ⟨b, o, ha, hb, hr⟩ := h h0
  exact ⟨b, o, ha, Nat.lt_of_lt_of_le hb k.size, fun j hj => (k.cell (p := ⟨b, o + j, none⟩) hb (hF b hb)).trans (hr j hj)⟩
theorem ints_own {v : Value} {xs : List Int} {w : World} {base : Nat} (h : w.ownsRow base 3 1 v xs.length (ic xs)) : Ints v xs w := by
  obtain ⟨a, c, hv, -, hl, hr⟩ := own_read h
  refine ⟨a, c, hv, fun h0 => ?_⟩
  obtain ⟨g, ha, -, hg, hc⟩ := hr h0
  exact ⟨g, 0, ha, hg, fun j hj => by rw [Nat.zero_add]; exact hc j _ (by simp [ic, hj])⟩

set_option maxRecDepth 100000 in
theorem sameInts_c (va vb : Value) (xs ys : List Int) (hx : xs.length ≤ 1000000) (hy : ys.length ≤ 1000000) (w : World) (ha : Ints va xs w) (hb : Ints vb ys w) :
    Calls Try.prog 15 #[va, vb] w fun e w' => e = .returned (.bool (decide (xs = ys))) ∧ Sm (fun _ => False) w w' := by
  have HA := Lib.hid ha
  have HB := Lib.hid hb
  obtain ⟨aa, ca, rfl, hra⟩ := ha
  obtain ⟨ab, cb, rfl, hrb⟩ := hb
  clear hra hrb
  by_cases hne : xs.length = ys.length
  · obtain ⟨n, hn⟩ : ∃ n, n = xs.length := ⟨_, rfl⟩
    have hn2 : n = ys.length := by omega
    rw [← hn] at HA hx
    rw [← hn2] at HB
    rw [← hn, ← hn2]
    obtain ⟨B, hB⟩ : ∃ B, B = decide (xs = ys) := ⟨_, rfl⟩
    rw [← hB]
    have HN := Lib.hid hn
    have HN2 := Lib.hid hn2
    have HBB := Lib.hid hB
    clear hn hne hn2 hB hy
    go_enter Try.func15, Try.ntmps15
    go_wp2
    go_loopw [5] (fun s5 wr => ∃ k : Nat, k ≤ n ∧ s5 = .int .i64 k ∧ Hid (xs.take k = ys.take k) ∧ Hid (Sm (fun _ => False) w wr)) (fun s5 wr => n - (intOf s5).toNat)
    case atStart => exact ⟨0, by omega, rfl, Lib.hid rfl, Lib.hid (Sm.refl _ _)⟩
    case round =>
      obtain ⟨k, hk, rfl, hT, hS⟩ := hrel
      by_cases hlt : k < n
      · have j1 : (k : Int) < (n : Int) := by omega
        have h1 : k < xs.length := by rw [← HN.out]; exact hlt
        have h2 : k < ys.length := by rw [← HN2.out]; exact hlt
        obtain ⟨a1, c1, e1, r1⟩ := HA.out.sm hS.out (fun _ _ h => h)
        obtain ⟨b1, o1, rfl, -, q1⟩ := r1 (by omega)
        obtain ⟨a2, c2, e2, r2⟩ := HB.out.sm hS.out (fun _ _ h => h)
        obtain ⟨b2, o2, rfl, -, q2⟩ := r2 (by omega)
        simp only [Value.slice.injEq] at e1 e2
        obtain ⟨rfl, -, rfl⟩ := e1
        obtain ⟨rfl, -, rfl⟩ := e2
        obtain ⟨x, hx1⟩ : ∃ x, x = xs[k] := ⟨_, rfl⟩
        obtain ⟨y, hy1⟩ : ∃ y, y = ys[k] := ⟨_, rfl⟩
        have v1 := q1 k h1
        have v2 := q2 k h2
        rw [← hx1] at v1
        rw [← hy1] at v2
        have hp : wrap64 ((k : Int) + 1) = ((k + 1 : Nat) : Int) := by unfold wrap64; omega
        have HP := Lib.hid hp
        have HX := Lib.hid hx1
        have HY := Lib.hid hy1
        clear hp r1 r2 q1 q2 hx1 hy1
        by_cases hxy : x = y
        · have n1 : Hid (xs.take (k + 1) = ys.take (k + 1)) := Lib.hid (by
            rw [List.take_succ_eq_append_getElem h1, List.take_succ_eq_append_getElem h2, hT.out, ← HX.out, ← HY.out, hxy])
          have HS2 := fun q => Lib.hid (hS.out.drewN q)
          subst hxy
          clear hT hS
          go_wp2
          go_quiet (fail)
          go_wp2
          go_roundw
          case rel => exact ⟨k + 1, by omega, by first | rw [HP.out] | go_num, n1, HS2 _⟩
          case measure => (try rw [HP.out]); simp only [intOf]; omega
        · have hBf : B = false := by
            rw [HBB.out]
            simp
            intro e
            apply hxy
            rw [HX.out, HY.out]
            simp only [e]
          have HS2 := fun q => Lib.hid (hS.out.drewN q)
          have hbeq : (x == y) = false := by rw [beq_eq_false_iff_ne]; exact hxy
          subst hBf
          clear hT hS
          go_wp2
          go_quiet (fail)
          go_wp2
          go_ret
          exact ⟨rfl, (HS2 _).out⟩
      · obtain rfl : k = n := by omega
        have hBt : B = true := by
          rw [HBB.out]
          have h := hT.out
          have e1 := HN.out
          have e2 := HN2.out
          rw [List.take_of_length_le (by omega), List.take_of_length_le (by omega)] at h
          simp [h]
        subst hBt
        go_wp2
        go_ret
        exact ⟨rfl, hS.out⟩
  · have hd : decide (xs = ys) = false := by simp; intro e; exact hne (by rw [e])
    rw [hd]
    have h1 : ¬ (xs.length : Int) = (ys.length : Int) := by omega
    have h2 : ((xs.length : Int) == (ys.length : Int)) = false := by rw [beq_eq_false_iff_ne]; exact h1
    clear HA HB
    go_enter Try.func15, Try.ntmps15
    go_wp2
    go_ret
    exact ⟨rfl, Sm.refl _ _⟩
end Go.Proofs.Ythjdnhlckjchgaa
