/- hold: the closure of Free. -/
import Derived.Test.YtpmnmgemdaoigaaHoF
import Derived.Deep.DeepCutAuto
import Derived.Deep.AppendLies
import Derived.Laws.OwnMore
namespace Go.Proofs.Ytpmnmgemdaoigaa
open Go.RowKit Go.MuLone
set_option linter.unusedVariables false
set_option linter.unusedSimpArgs false
theorem info_u64 : (Try.prog.info? 40).map (fun i => (i.zero, i.size, i.bytes)) = some (some (.int .u64 0), 1, 8) := by kernel_rfl
set_option maxRecDepth 100000 in
theorem free1_keep (p bn bo E N : Nat) (hE : N < E + 2) (hb : E + 2 < 18446744073709551616) (w : World) (hn : w.cell? ⟨bn, 0, none⟩ = some (.int .u64 (N : Int))) :
    Calls Try.prog 37 #[.agg #[.pointer (some ⟨p, 0, none⟩), .int .u64 (E : Int)], .pointer (some ⟨bn, 0, none⟩), .pointer (some ⟨bo, 0, none⟩)] w fun e w' => e = .returned (.bool false) ∧ Sm (fun _ => False) w w' := by
  have hw1 : IntKind.u64.wrap ((E : Int) + 2) = ((E + 2 : Nat) : Int) := by rw [IntKind.wrap_u64]; omega
  have hlt : (N : Int) < ((E + 2 : Nat) : Int) := by omega
  go_enter Try.func37, Try.ntmps37
  go_upto_region 1 with fail
  have hr : Row (w.alloc (.cells #[.pointer (some ⟨p, 0, none⟩), .int .u64 (E : Int)] 94)) w.heap.size #[.pointer (some ⟨p, 0, none⟩), .int .u64 (E : Int)] 94 := Row.new _ _ _
  have hs : Sm (fun _ => False) w (w.alloc (.cells #[.pointer (some ⟨p, 0, none⟩), .int .u64 (E : Int)] 94)) := (Sm.refl _ _).alloc _
  have hn1 : (w.alloc (.cells #[.pointer (some ⟨p, 0, none⟩), .int .u64 (E : Int)] 94)).cell? ⟨bn, 0, none⟩ = some (.int .u64 (N : Int)) := (hs.cell (World.block_lt_of_cell? w _ hn) (fun h => h)).trans hn
  generalize w.alloc (.cells #[.pointer (some ⟨p, 0, none⟩), .int .u64 (E : Int)] 94) = w1 at *
  have c1 : w1.cell? ⟨w.heap.size, 1, none⟩ = some (.int .u64 (E : Int)) := hr.cell 1
  have HS := Lib.hid hs
  clear hs hr hn hE hb
  go_wp2
  go_ret
  exact ⟨rfl, HS.out⟩
set_option maxRecDepth 100000 in
theorem free1_del (p bn bo E N ver : Nat) (v : ByteArray) (hE : E + 2 ≤ N) (hN : N < 18446744073709551616) (w : World) (hn : w.cell? ⟨bn, 0, none⟩ = some (.int .u64 (N : Int))) (ho : Row w bo #[.slice none 0 0] 49) (hp : Row w p (pubC v ver) 89) :
    Calls Try.prog 37 #[.agg #[.pointer (some ⟨p, 0, none⟩), .int .u64 (E : Int)], .pointer (some ⟨bn, 0, none⟩), .pointer (some ⟨bo, 0, none⟩)] w fun e w' => e = .returned (.bool true) ∧ Sm (fun b => b = bo) w w' ∧
      ∃ o, Row w' bo #[o] 49 ∧ w'.ownsRow 0 40 1 o 1 [.int .u64 (ver : Int)] := by
  have hw1 : IntKind.u64.wrap ((E : Int) + 2) = ((E + 2 : Nat) : Int) := by rw [IntKind.wrap_u64]; omega
  have hlt : ¬ (N : Int) < ((E + 2 : Nat) : Int) := by omega
  obtain ⟨i0, hi, hz0, hz1, hz2⟩ := info_parts info_u64
  have HI := Lib.hid hi
  have HZ := Lib.hid (And.intro hz0 (And.intro hz1 hz2))
  clear hi hz0 hz1 hz2
  go_enter Try.func37, Try.ntmps37
  go_upto_region 1 with fail
  have hr : Row (w.alloc (.cells #[.pointer (some ⟨p, 0, none⟩), .int .u64 (E : Int)] 94)) w.heap.size #[.pointer (some ⟨p, 0, none⟩), .int .u64 (E : Int)] 94 := Row.new _ _ _
  have hs : Sm (fun _ => False) w (w.alloc (.cells #[.pointer (some ⟨p, 0, none⟩), .int .u64 (E : Int)] 94)) := (Sm.refl _ _).alloc _
  have hn1 : (w.alloc (.cells #[.pointer (some ⟨p, 0, none⟩), .int .u64 (E : Int)] 94)).cell? ⟨bn, 0, none⟩ = some (.int .u64 (N : Int)) := (hs.cell (World.block_lt_of_cell? w _ hn) (fun h => h)).trans hn
  have ho1 := ho.sm hs (fun h => h)
  have hp1 := hp.sm hs (fun h => h)
  have hlw : bo < w.heap.size := ho.lt
  generalize w.alloc (.cells #[.pointer (some ⟨p, 0, none⟩), .int .u64 (E : Int)] 94) = w1 at *
  have c0 : w1.cell? ⟨w.heap.size, 0, none⟩ = some (.pointer (some ⟨p, 0, none⟩)) := hr.cell 0
  have c1 : w1.cell? ⟨w.heap.size, 1, none⟩ = some (.int .u64 (E : Int)) := hr.cell 1
  have c2 : w1.cell? ⟨p, 1, none⟩ = some (.int .u64 (ver : Int)) := hp1.cell 1
  have c3 : w1.cell? ⟨bo, 0, none⟩ = some (.slice none 0 0) := ho1.cell 0
  have HS := Lib.hid hs
  clear hs hn hE hN
  have hpo : bo ≠ p := ho1.ne hp1 (by decide)
  have hlb : bo < w1.heap.size := ho1.lt
  go_wp2_with fail
  have HX := Lib.hid (show ∀ (vv : Value) (W : World), (w1.drew.alloc (.cells #[.int .u64 (ver : Int)] 40)).grownBy W (Value.slice none 0 0).ownBlock → W.ownsRow w1.heap.size 40 1 vv 1 [.int .u64 (ver : Int)] → (W.cell? ⟨w.heap.size, 0, none⟩ = some (.pointer (some ⟨p, 0, none⟩)) ∧ W.cell? ⟨p, 1, none⟩ = some (.int .u64 (ver : Int))) ∧ Row W bo #[.slice none 0 0] 49 ∧ Sm (fun b => b = bo) w (W.setCell ⟨bo, 0, none⟩ vv) ∧ Row (W.setCell ⟨bo, 0, none⟩ vv) bo #[vv] 49 ∧ (W.setCell ⟨bo, 0, none⟩ vv).ownsRow 0 40 1 vv 1 [.int .u64 (ver : Int)] from fun vv W hg hw => by
    have hsm : Sm (fun _ => False) w1 W := ((Sm.refl _ _).drew.alloc _).trans (sm_grown hg (by simp [Value.ownBlock]))
    have hb := ho1.sm hsm (fun h => h)
    exact ⟨⟨(hr.sm hsm (fun h => h)).cell 0, (hp1.sm hsm (fun h => h)).cell 1⟩, hb, (HS.out.trans hsm).mono (F' := fun b => b = bo) (by simp) |>.setCell (F := fun b => b = bo) (p := ⟨bo, 0, none⟩) rfl _, hb.set 0 _, own_zero (own_sm hw (F := fun b => b = bo) ((Sm.refl _ _).setCell (F := fun b => b = bo) (p := ⟨bo, 0, none⟩) rfl _) (fun b hb e => by omega))⟩)
  go_region_law (refine step_append_own rfl (.tmp 10) (.tmp 16) 49 rfl w1.heap.size 40 i0 (.int .u64 0) 1 8 Try.underlying49 HI.out HZ.out.1 HZ.out.2.1 HZ.out.2.2 rfl (by decide) (.slice none 0 0) 0 [] (by simp [Act.eval, Act.put]) (World.ownsRow_nil _ _ _ _) ⟨w1.heap.size, 0, none⟩ 1 1 [.int .u64 (ver : Int)] (by simp [Act.eval, Act.put]) rfl (new_cells w1.drew [.int .u64 (ver : Int)] 40) (by simp [Value.oneCell']) (by unfold maxLen; omega) (by omega) (by simp) ?_; intro v5 w5 hown5 hg5; obtain ⟨⟨k5, k6⟩, k1, k2⟩ := HX.out v5 w5 hg5 hown5; obtain ⟨a5, x5, h5⟩ := own_form0 hown5; subst h5; have K2 := Lib.hid k2; have k3 := k1.cell 0; have k4 := k1.free 0)
  all_goals
    clear hown5 hg5 k1 k2 k5 k6 HX
    go_wp2
    go_ret
    exact ⟨rfl, K2.out.1, _, K2.out.2⟩
end Go.Proofs.Ytpmnmgemdaoigaa
