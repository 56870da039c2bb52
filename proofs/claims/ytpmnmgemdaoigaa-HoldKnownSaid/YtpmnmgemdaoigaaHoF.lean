/- hold: Put (nothing kept so far). -/
import Derived.Test.YtpmnmgemdaoigaaHoE
namespace Go.Proofs.Ytpmnmgemdaoigaa
open Go.RowKit Go.MuLone
set_option linter.unusedVariables false
set_option linter.unusedSimpArgs false
set_option maxRecDepth 100000 in
theorem hput_c (h p d n : Nat) (v v2 : ByteArray) (ver : Nat) (hv : ver < 1000) (ws : List Nat) (w : World) (hr : Row w h (holdC p d 0 (.slice none 0 0)) 86) (hp : Row w p (pubC v ver) 89) (hd : Dom d n ws w) :
    Calls Try.prog 14 #[.pointer (some ⟨h, 0, none⟩), .nilIface, .string v2] w fun e w' => e = .returned (.tuple #[.int .u64 ((ver + 1 : Nat) : Int), .int .i64 0]) ∧ Sm (fun b => b = h) w w' ∧
      ∃ p' o, Row w' h (holdC p' d 0 o) 86 ∧ Row w' p' (pubC v2 (ver + 1)) 89 ∧ w'.ownsRow w.heap.size 94 2 o 1 (keptC p (ws.getD 0 0)) := by
  have HD := Lib.hid hd
  clear hd
  go_enter Try.func14, Try.ntmps14
  go_wp2_with fail
  refine (hthere_c h p d 0 _ w hr).mono ?_
  rintro e w1 ⟨rfl, rfl⟩
  go_wp2_with fail
  go_loopw [8] (fun s8 wr => wr = w) (fun s8 wr => 0)
  case atStart => exact rfl
  case round =>
    obtain rfl := hrel
    go_wp2_with fail
    refine (hload_c h p d 0 _ v ver _ hr hp).mono ?_
    rintro e w2 ⟨rfl, rfl⟩
    go_wp2_with fail
    refine (swap_c h p d n v v2 ver hv ws _ hr hp HD.out).mono ?_
    rintro e w2 ⟨rfl, h2⟩
    have H2 := Lib.hid h2
    clear h2
    go_wp2_with fail
    go_ret2
    exact ⟨rfl, H2.out⟩
end Go.Proofs.Ytpmnmgemdaoigaa
