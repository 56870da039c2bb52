/- hold: slices.DeleteFunc at one kept value. -/
import Derived.Test.YtpmnmgemdaoigaaHoH
import Derived.Lib.SliceRun
namespace Go.Proofs.Ytpmnmgemdaoigaa
open Go.RowKit Go.MuLone
set_option linter.unusedVariables false
set_option linter.unusedSimpArgs false
theorem zero94 (w : World) : (zeroValue 94).run Try.prog w = .ok (.agg #[.pointer none, .int .u64 0]) w := by kernel_rfl
theorem clear94 (w : World) (ty : TypeId) (g c : Nat) (hc : ∀ j, j < 2 → (w.cell? ⟨g, 0 + j, none⟩).isSome = true) (hf : ∀ j, j < 2 → w.frozen? ⟨g, 0 + j, none⟩ = false) :
    (Builtin.clear_ #[84] ty #[.slice (some ⟨g, 0, none⟩) 1 c]).run Try.prog w = .ok (.tuple #[]) (w.setCells g 0 [.pointer none, .int .u64 0]) := by
  have hst := run_storeCells_cells (P := Try.prog) g 0 [.pointer none, .int .u64 0] 0 w (by simpa using hc) (by simpa using hf) (by simp [Value.oneCell'])
  simp only [Nat.add_zero] at hst
  have hz : (Builtin.zeroCells (Value.agg #[.pointer none, .int .u64 0]).cells 1).toList = [.pointer none, .int .u64 0] := by kernel_rfl
  simp [Builtin.clear_, run_underlying Try.underlying84, zero94, hz, hst]
theorem setCells_sm (w : World) (b o : Nat) (l : List Value) : Sm (fun k => k = b) w (w.setCells b o l) := by
  induction l generalizing w o with
  | nil => exact Sm.refl _ _
  | cons v r ih => exact ((Sm.refl _ w).setCell (F := fun k => k = b) (p := ⟨b, o, none⟩) rfl v).trans (ih _ _)
theorem own_smT {w w' : World} {base g size n : Nat} {e T : TypeId} {v : Value} {xs : List Value} {cur : Array Value} (h : w.ownsRow base e size v n xs) (hg : Row w g cur T) (hT : T ≠ e) (k : Sm (fun b => b = g) w w') : w'.ownsRow base e size v n xs := by
  obtain ⟨h1, h2⟩ := h
  refine ⟨h1, ?_⟩
  rcases h2 with h2 | ⟨b, cap, cu, hv, hb, hh, r⟩
  · exact .inl h2
  · refine .inr ⟨b, cap, cu, hv, hb, ?_, r⟩
    rw [k.block b (Array.getElem?_eq_some_iff.1 hh).1 (fun e => by
      subst e
      unfold Row at hg
      rw [hg] at hh
      simp only [Option.some.injEq, Obj.cells.injEq] at hh
      exact hT hh.2.1)]
    exact hh
abbrev delF : Nat := 36
set_option maxRecDepth 100000 in
theorem delete_keep (g c p bn bo E N : Nat) (hE : N < E + 2) (hb : E + 2 < 18446744073709551616) (w : World) (hn : w.cell? ⟨bn, 0, none⟩ = some (.int .u64 (N : Int))) (h0 : w.cell? ⟨g, 0, none⟩ = some (.pointer (some ⟨p, 0, none⟩))) (h1 : w.cell? ⟨g, 1, none⟩ = some (.int .u64 (E : Int))) :
    Calls Try.prog 36 #[.slice (some ⟨g, 0, none⟩) 1 c, freeF bn bo] w fun e w' => e = .returned (.slice (some ⟨g, 0, none⟩) 1 c) ∧ Sm (fun _ => False) w w' := by
  have HC := Lib.hid (index_keep g c p bn bo E N hE hb w hn h0 h1)
  clear hE hb hn h0 h1
  go_enter Try.func36, Try.ntmps36
  go_wp2_with fail
  refine HC.out.mono ?_
  rintro e w1 ⟨rfl, h1⟩
  have H1 := Lib.hid h1
  clear h1
  go_wp2_with fail
  go_ret
  exact ⟨rfl, H1.out⟩
set_option maxRecDepth 100000 in
theorem delete_del (g c p bn bo E N ver : Nat) (v : ByteArray) (hE : E + 2 ≤ N) (hN : N < 18446744073709551616) (cur : Array Value) (w : World) (hn : w.cell? ⟨bn, 0, none⟩ = some (.int .u64 (N : Int))) (ho : Row w bo #[.slice none 0 0] 49) (hp : Row w p (pubC v ver) 89) (hg : Row w g cur 94) (hc : 1 ≤ c) (h0 : w.cell? ⟨g, 0, none⟩ = some (.pointer (some ⟨p, 0, none⟩))) (h1 : w.cell? ⟨g, 1, none⟩ = some (.int .u64 (E : Int))) :
    Calls Try.prog 36 #[.slice (some ⟨g, 0, none⟩) 1 c, freeF bn bo] w fun e w' => e = .returned (.slice (some ⟨g, 0, none⟩) 0 c) ∧ Sm (fun b => b = bo ∨ b = g) w w' ∧
      ∃ o, Row w' bo #[o] 49 ∧ w'.ownsRow 0 40 1 o 1 [.int .u64 (ver : Int)] := by
  have HC := Lib.hid (index_del g c p bn bo E N ver v hE hN w hn ho hp h0 h1)
  have hne := ho.ne hg (by decide)
  have k0 : (cur[0]?).isSome = true := by rw [← hg.cell 0, h0]; rfl
  have k1 : (cur[1]?).isSome = true := by rw [← hg.cell 1, h1]; rfl
  clear hE hN hn ho hp h0 h1
  go_enter Try.func36, Try.ntmps36
  go_wp2_with fail
  refine HC.out.mono ?_
  rintro e w1 ⟨rfl, s1, o, r1, o1⟩
  have hg1 := hg.sm s1 (fun e => hne e.symm)
  have hcl := fun ty => clear94 w1 ty g c (fun j hj => by
    have : j = 0 ∨ j = 1 := by omega
    rcases this with rfl | rfl
    · rw [hg1.cell]; exact k0
    · rw [hg1.cell]; exact k1) (fun j hj => hg1.free _)
  have S1 := Lib.hid s1
  have R1 := Lib.hid r1
  have O1 := Lib.hid o1
  have HG := Lib.hid hg1
  clear s1 r1 o1 hg hg1 k0 k1
  go_wp2_with fail
  go_loopw [5, 6] (fun s5 s6 wr => (s5 = .int .i64 0 ∧ s6 = .int .i64 1 ∧ wr = w1)) (fun s5 s6 wr => 1)
  case atStart => exact ⟨rfl, rfl, rfl⟩
  case round =>
    obtain ⟨rfl, rfl, rfl⟩ := hrel
    have hc0 : ¬ c = 0 := by omega
    go_wp2_with (simp only [hcl])
    go_ret
    refine ⟨rfl, (S1.out.mono (fun b h => .inl h)).trans ((setCells_sm _ _ _ _).mono (fun b h => .inr h)), o, ?_, ?_⟩
    · exact R1.out.sm (setCells_sm _ _ _ _) hne
    · exact own_smT O1.out HG.out (by decide) (setCells_sm _ _ _ _)
end Go.Proofs.Ytpmnmgemdaoigaa
