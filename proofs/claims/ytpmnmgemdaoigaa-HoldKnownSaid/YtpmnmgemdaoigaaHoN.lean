/- hold: a slot out of range. -/
import Derived.Test.YtpmnmgemdaoigaaHoM
namespace Go.Proofs.Ytpmnmgemdaoigaa
open Go.RowKit Go.MuLone
set_option linter.unusedVariables false
set_option linter.unusedSimpArgs false
set_option maxRecDepth 20000 in
theorem pin_bad (g : Value) (S n : Nat) (ws : List Nat) (s : Int) (hs : s < 0 ∨ (n : Int) ≤ s) (w : World) (h : Dom S n ws w) :
    Calls Try.prog 20 #[.pointer (some ⟨S, 0, none⟩), g, .int .i64 s] w fun e w' => e = .returned (.tuple #[.int .u64 0, .int .i64 5]) ∧ w = w' := by
  have HB := Lib.hid (word_bad S n ws s hs w h)
  clear h
  go_enter Try.func20, Try.ntmps20
  go_wp2_with fail
  refine HB.out.mono ?_
  rintro e w1 ⟨rfl, rfl⟩
  go_wp2_with fail
  refine bodyPost_ret (results_tmp2 rfl _ _ _) rfl ?_
  exact ⟨rfl, rfl⟩
set_option maxRecDepth 20000 in
theorem henter_range (h p d n : Nat) (l : Int) (o : Value) (ws : List Nat) (s : Int) (hs : s < 0 ∨ (n : Int) ≤ s) (w : World) (hr : Row w h (holdC p d l o) 86) (hd : Dom d n ws w) :
    Calls Try.prog 13 #[.pointer (some ⟨h, 0, none⟩), .nilIface, .int .i64 s] w fun e w' => e = .returned (.tuple #[.string ⟨#[]⟩, .int .u64 0, .int .i64 5]) ∧ w = w' := by
  have c1 : w.cell? ⟨h, 1, none⟩ = some (.pointer (some ⟨d, 0, none⟩)) := hr.cell 1
  have HB := Lib.hid (pin_bad .nilIface d n ws s hs w hd)
  clear hd hs
  go_enter Try.func13, Try.ntmps13
  go_wp2_with fail
  refine (hthere_c h p d l o w hr).mono ?_
  rintro e w1 ⟨rfl, rfl⟩
  go_wp2_with fail
  refine HB.out.mono ?_
  rintro e w1 ⟨rfl, rfl⟩
  go_wp2_with fail
  refine bodyPost_ret (results_tmp3 rfl _ _ _) rfl ?_
  exact ⟨rfl, rfl⟩
end Go.Proofs.Ytpmnmgemdaoigaa
