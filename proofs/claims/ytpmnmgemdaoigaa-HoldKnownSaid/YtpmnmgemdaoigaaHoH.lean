/- hold: slices.IndexFunc and DeleteFunc at one kept value. -/
import Derived.Test.YtpmnmgemdaoigaaHoG
namespace Go.Proofs.Ytpmnmgemdaoigaa
open Go.RowKit Go.MuLone
set_option linter.unusedVariables false
set_option linter.unusedSimpArgs false
abbrev freeF (bn bo : Nat) : Value := .func (.func 37) #[] #[.pointer (some ⟨bn, 0, none⟩), .pointer (some ⟨bo, 0, none⟩)]
set_option maxRecDepth 100000 in
theorem index_keep (g c p bn bo E N : Nat) (hE : N < E + 2) (hb : E + 2 < 18446744073709551616) (w : World) (hn : w.cell? ⟨bn, 0, none⟩ = some (.int .u64 (N : Int))) (h0 : w.cell? ⟨g, 0, none⟩ = some (.pointer (some ⟨p, 0, none⟩))) (h1 : w.cell? ⟨g, 1, none⟩ = some (.int .u64 (E : Int))) :
    Calls Try.prog 57 #[.slice (some ⟨g, 0, none⟩) 1 c, freeF bn bo] w fun e w' => e = .returned (.int .i64 (-1)) ∧ Sm (fun _ => False) w w' := by
  have HC := Lib.hid (free1_keep p bn bo E N hE hb w hn)
  clear hE hb hn
  go_enter Try.func57, Try.ntmps57
  go_wp2_with fail
  go_loopw [8] (fun s8 wr => (s8 = .int .i64 0 ∧ wr = w) ∨ (s8 = .int .i64 1 ∧ Hid (Sm (fun _ => False) w wr))) (fun s8 wr => 1 - (intOf s8).toNat)
  case atStart => exact .inl ⟨rfl, rfl⟩
  case round =>
    rcases hrel with ⟨rfl, rfl⟩ | ⟨rfl, hs⟩
    · go_wp2_with fail
      refine HC.out.mono ?_
      rintro e w1 ⟨rfl, h1⟩
      have H1 := Lib.hid h1
      clear h1
      go_wp2_with fail
      go_roundw
      case rel => exact .inr ⟨by first | rfl | go_num, H1⟩
      case measure => decide
    · go_wp2_with fail
      go_ret
      exact ⟨rfl, hs.out⟩
set_option maxRecDepth 100000 in
theorem index_del (g c p bn bo E N ver : Nat) (v : ByteArray) (hE : E + 2 ≤ N) (hN : N < 18446744073709551616) (w : World) (hn : w.cell? ⟨bn, 0, none⟩ = some (.int .u64 (N : Int))) (ho : Row w bo #[.slice none 0 0] 49) (hp : Row w p (pubC v ver) 89) (h0 : w.cell? ⟨g, 0, none⟩ = some (.pointer (some ⟨p, 0, none⟩))) (h1 : w.cell? ⟨g, 1, none⟩ = some (.int .u64 (E : Int))) :
    Calls Try.prog 57 #[.slice (some ⟨g, 0, none⟩) 1 c, freeF bn bo] w fun e w' => e = .returned (.int .i64 0) ∧ Sm (fun b => b = bo) w w' ∧
      ∃ o, Row w' bo #[o] 49 ∧ w'.ownsRow 0 40 1 o 1 [.int .u64 (ver : Int)] := by
  have HC := Lib.hid (free1_del p bn bo E N ver v hE hN w hn ho hp)
  clear hE hN hn ho hp
  go_enter Try.func57, Try.ntmps57
  go_wp2_with fail
  go_loopw [8] (fun s8 wr => (s8 = .int .i64 0 ∧ wr = w)) (fun s8 wr => 1)
  case atStart => exact ⟨rfl, rfl⟩
  case round =>
    obtain ⟨rfl, rfl⟩ := hrel
    go_wp2_with fail
    refine HC.out.mono ?_
    rintro e w1 ⟨rfl, h1⟩
    have H1 := Lib.hid h1
    clear h1
    go_wp2_with fail
    go_ret
    exact ⟨rfl, H1.out⟩
end Go.Proofs.Ytpmnmgemdaoigaa
