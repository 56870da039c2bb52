/- EpochNotes: its leaves. -/
import Derived.Test.YtokoniaoknnggaaProE
import Derived.Test.YtokoniaoknnggaaEpoF
namespace Go.Proofs.Ytokoniaoknnggaa
open Go.RowKit
set_option linter.unusedVariables false
set_option linter.unusedSimpArgs false

set_option maxRecDepth 100000 in
theorem sameWords_c (B1 B2 : Nat) (v1 v2 : Value) (l : List Nat) (hl : l.length < 1000000) (w : World) (h1 : w.ownsRow B1 38 1 v1 l.length (u64L l)) (h2 : w.ownsRow B2 38 1 v2 l.length (u64L l)) :
    Calls Try.prog 14 #[v1, v2] w fun e w' => e = .returned (.bool true) ∧ Sm (fun _ => False) w w' := by
  obtain ⟨a1, c1, hv1⟩ := own_form0 h1
  obtain ⟨a2, c2, hv2⟩ := own_form0 h2
  subst hv1 hv2
  have H1 := Lib.hid h1
  have H2 := Lib.hid h2
  clear h1 h2
  go_enter Try.func14, Try.ntmps14
  go_wp2_with fail
  go_loopw [5] (fun s5 wr => ∃ i : Nat, i ≤ l.length ∧ s5 = .int .i64 i ∧ Hid (Sm (fun _ => False) w wr)) (fun s5 wr => l.length - (intOf s5).toNat)
  case atStart => exact ⟨0, Nat.zero_le _, rfl, Lib.hid (Sm.refl _ _)⟩
  case round =>
    obtain ⟨i, hi, rfl, HS⟩ := hrel
    by_cases hlt : i < l.length
    · have j1 : (i : Int) < (l.length : Int) := by omega
      have k1 : (0 : Int) ≤ (i : Int) := Int.natCast_nonneg _
      obtain ⟨g1, c1', e1⟩ := own_form H1.out (by omega)
      obtain ⟨g2, c2', e2⟩ := own_form H2.out (by omega)
      simp only [Value.slice.injEq] at e1 e2
      obtain ⟨rfl, -, rfl⟩ := e1
      obtain ⟨rfl, -, rfl⟩ := e2
      have hx : (u64L l)[i]? = some (.int .u64 ((l[i] : Nat) : Int)) := by simp [u64L, hlt]
      have d1 : wr.cell? ⟨g1, i, none⟩ = some (.int .u64 ((l[i] : Nat) : Int)) := own_at (own_smF H1.out HS.out (fun _ _ h => h)) hx
      have d2 : wr.cell? ⟨g2, i, none⟩ = some (.int .u64 ((l[i] : Nat) : Int)) := own_at (own_smF H2.out HS.out (fun _ _ h => h)) hx
      generalize l[i] = x at d1 d2
      clear hx
      go_wp2_with fail
      try simp only [Act.put]
      refine wp_region_quiet_lit (by kernel_rfl) (by kernel_rfl) ?_
      repeat (first
        | go_big_quiet_skip
        | (go_big_quiet_want; go_big_quiet_op; go_big_quiet_on))
      refine wpQuiet_nil ?_
      intro _ hw'
      obtain ⟨nq, hw''⟩ := hw'
      subst hw''
      have HN := Lib.hid (HS.out.drewN nq)
      go_wp2_with fail
      go_roundw
      case rel => exact ⟨i + 1, hlt, by first | rfl | go_num, HN⟩
      case measure => simp only [intOf]; omega
    · have hi' : i = l.length := by omega
      subst hi'
      have j1 : ¬ ((l.length : Nat) : Int) < (l.length : Int) := by omega
      go_wp2_with fail
      go_ret
      exact ⟨rfl, HS.out⟩
theorem mks_get : ∀ (L : List (Int × Int)) (i : Nat) (m : Int × Int), L[i]? = some m → (mks L)[i * 2]? = some (.int .u8 m.1) ∧ (mks L)[i * 2 + 1]? = some (.int .i64 m.2)
  | [], i, m, h => by simp at h
  | a :: l, 0, m, h => by
    simp only [List.getElem?_cons_zero, Option.some.injEq] at h
    subst h
    simp [mks]
  | a :: l, i + 1, m, h => by
    have := mks_get l i m (by simpa using h)
    rw [show (i + 1) * 2 = (i * 2) + 2 by omega, show i * 2 + 2 + 1 = (i * 2 + 1) + 2 by omega]
    simpa [mks] using this
set_option maxRecDepth 100000 in
theorem sameMarks_c (B1 B2 : Nat) (v1 v2 : Value) (L : List (Int × Int)) (hl : L.length < 1000000) (w : World) (h1 : w.ownsRow B1 109 2 v1 L.length (mks L)) (h2 : w.ownsRow B2 109 2 v2 L.length (mks L)) :
    Calls Try.prog 15 #[v1, v2] w fun e w' => e = .returned (.bool true) ∧ Sm (fun _ => False) w w' := by
  obtain ⟨a1, c1, hv1⟩ := own_form0 h1
  obtain ⟨a2, c2, hv2⟩ := own_form0 h2
  subst hv1 hv2
  have H1 := Lib.hid h1
  have H2 := Lib.hid h2
  clear h1 h2
  go_enter Try.func15, Try.ntmps15
  go_wp2_with fail
  go_loopw [5] (fun s5 wr => ∃ i : Nat, i ≤ L.length ∧ s5 = .int .i64 i ∧ Hid (Sm (fun _ => False) w wr)) (fun s5 wr => L.length - (intOf s5).toNat)
  case atStart => exact ⟨0, Nat.zero_le _, rfl, Lib.hid (Sm.refl _ _)⟩
  case round =>
    obtain ⟨i, hi, rfl, HS⟩ := hrel
    by_cases hlt : i < L.length
    · have j1 : (i : Int) < (L.length : Int) := by omega
      have k1 : (0 : Int) ≤ (i : Int) := Int.natCast_nonneg _
      obtain ⟨g1, c1', e1⟩ := own_form H1.out (by omega)
      obtain ⟨g2, c2', e2⟩ := own_form H2.out (by omega)
      simp only [Value.slice.injEq] at e1 e2
      obtain ⟨rfl, -, rfl⟩ := e1
      obtain ⟨rfl, -, rfl⟩ := e2
      obtain ⟨m, hm⟩ : ∃ m, L[i]? = some m := ⟨_, List.getElem?_eq_getElem hlt⟩
      obtain ⟨t1, t2⟩ := mks_get L i m hm
      have o1 := own_smF H1.out HS.out (fun _ _ h => h)
      have o2 := own_smF H2.out HS.out (fun _ _ h => h)
      have d1 : wr.cell? ⟨g1, i * 2, none⟩ = some (.int .u8 m.1) := own_at o1 t1
      have d1' : wr.cell? ⟨g1, i * 2 + 1, none⟩ = some (.int .i64 m.2) := own_at o1 t2
      have d2 : wr.cell? ⟨g2, i * 2, none⟩ = some (.int .u8 m.1) := own_at o2 t1
      have d2' : wr.cell? ⟨g2, i * 2 + 1, none⟩ = some (.int .i64 m.2) := own_at o2 t2
      obtain ⟨p, q⟩ := m
      simp only at d1 d1' d2 d2'
      clear t1 t2 o1 o2 hm
      go_wp2_with fail
      try simp only [Act.put]
      refine wp_region_quiet_lit (by kernel_rfl) (by kernel_rfl) ?_
      repeat (first
        | go_big_quiet_skip
        | (go_big_quiet_want; go_big_quiet_op; go_big_quiet_on))
      refine wpQuiet_nil ?_
      intro _ hw'
      obtain ⟨nq, hw''⟩ := hw'
      subst hw''
      have HN := Lib.hid (HS.out.drewN nq)
      go_wp2_with fail
      go_roundw
      case rel => exact ⟨i + 1, hlt, by first | rfl | go_num, HN⟩
      case measure => simp only [intOf]; omega
    · have hi' : i = L.length := by omega
      subst hi'
      have j1 : ¬ ((L.length : Nat) : Int) < (L.length : Int) := by omega
      go_wp2_with fail
      go_ret
      exact ⟨rfl, HS.out⟩
end Go.Proofs.Ytokoniaoknnggaa
