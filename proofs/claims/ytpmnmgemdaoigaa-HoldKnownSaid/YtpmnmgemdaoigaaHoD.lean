/- hold: there, step, load, Now, New, Leave. -/
import Derived.Test.YtpmnmgemdaoigaaHoC
namespace Go.Proofs.Ytpmnmgemdaoigaa
open Go.RowKit Go.MuLone
set_option linter.unusedVariables false
set_option linter.unusedSimpArgs false

def holdC (p d : Nat) (l : Int) (o : Value) : Array Value := #[.pointer (some ⟨p, 0, none⟩), .pointer (some ⟨d, 0, none⟩), .int .i32 l, .int .u32 0, o]
def pubC (s : ByteArray) (n : Nat) : Array Value := #[.string s, .int .u64 (n : Int)]

theorem hthere_c (h p d : Nat) (l : Int) (o : Value) (w : World) (hr : Row w h (holdC p d l o) 86) :
    Calls Try.prog 33 #[.pointer (some ⟨h, 0, none⟩)] w fun e w' => e = .returned (.bool true) ∧ w = w' := by
  have c1 : w.cell? ⟨h, 1, none⟩ = some (.pointer (some ⟨d, 0, none⟩)) := hr.cell 1
  go_enter Try.func33, Try.ntmps33
  go_wp2
  go_ret
  exact ⟨rfl, rfl⟩
theorem step_nil (op : Int) (w : World) :
    Calls Try.prog 39 #[.nilIface, .int .u8 op] w fun e w' => e = .returned (.tuple #[]) ∧ w = w' := by
  go_enter Try.func39, Try.ntmps39
  go_wp2
  go_end0
  exact ⟨rfl, rfl⟩
theorem hload_c (h p d : Nat) (l : Int) (o : Value) (s : ByteArray) (n : Nat) (w : World) (hr : Row w h (holdC p d l o) 86) (hp : Row w p (pubC s n) 89) :
    Calls Try.prog 34 #[.pointer (some ⟨h, 0, none⟩), .nilIface] w fun e w' => e = .returned (.pointer (some ⟨p, 0, none⟩)) ∧ w = w' := by
  have c0 : w.cell? ⟨h, 0, none⟩ = some (.pointer (some ⟨p, 0, none⟩)) := hr.cell 0
  go_enter Try.func34, Try.ntmps34
  go_wp2_with fail
  refine (step_nil _ w).mono ?_
  rintro e w1 ⟨rfl, rfl⟩
  go_wp2_with fail
  refine (pload _ p _ _ w c0 hp).mono ?_
  rintro e w1 ⟨rfl, rfl⟩
  go_wp2
  go_ret
  exact ⟨rfl, rfl⟩
set_option maxRecDepth 20000 in
theorem hnow_c (h p d : Nat) (l : Int) (o : Value) (s : ByteArray) (n : Nat) (w : World) (hr : Row w h (holdC p d l o) 86) (hp : Row w p (pubC s n) 89) :
    Calls Try.prog 38 #[.pointer (some ⟨h, 0, none⟩), .nilIface] w fun e w' => e = .returned (.tuple #[.string s, .int .u64 (n : Int), .int .i64 0]) ∧ Sm (fun _ => False) w w' := by
  have c0 : w.cell? ⟨p, 0, none⟩ = some (.string s) := hp.cell 0
  have c1 : w.cell? ⟨p, 1, none⟩ = some (.int .u64 (n : Int)) := hp.cell 1
  go_enter Try.func38, Try.ntmps38
  go_wp2_with fail
  refine (hthere_c h p d l o w hr).mono ?_
  rintro e w1 ⟨rfl, rfl⟩
  go_wp2_with fail
  refine (hload_c h p d l o s n w hr hp).mono ?_
  rintro e w1 ⟨rfl, rfl⟩
  go_wp2_with fail
  try simp only [Act.put]
  refine wp_region_quiet_lit (by kernel_rfl) (by kernel_rfl) ?_
  repeat (first
    | go_big_quiet_skip
    | (go_big_quiet_want; go_big_quiet_op; go_big_quiet_on))
  refine wpQuiet_nil ?_
  intro _ hw'
  obtain ⟨nq, hw''⟩ := hw'
  subst hw''
  go_wp2
  refine bodyPost_ret (results_tmp3 rfl _ _ _) rfl ?_
  exact ⟨rfl, (Sm.refl _ _).drewN _⟩
set_option maxRecDepth 20000 in
theorem hnew_bad (s : ByteArray) (n : Int) (h : n < 1 ∨ 16 < n) (w : World) :
    Calls Try.prog 12 #[.string s, .int .i64 n] w fun e w' => e = .returned (.tuple #[.pointer none, .int .i64 2]) ∧ w = w' := by
  go_enter Try.func12, Try.ntmps12
  go_wp2_with fail
  refine (enew_bad n h w).mono ?_
  rintro e w1 ⟨rfl, rfl⟩
  go_wp2
  go_ret2
  exact ⟨rfl, rfl⟩
set_option maxRecDepth 20000 in
theorem hnew_ok (s : ByteArray) (n : Nat) (h0 : 0 < n) (h : n ≤ 16) (w : World) :
    Calls Try.prog 12 #[.string s, .int .i64 n] w fun e w' => ∃ b p d, e = .returned (.tuple #[.pointer (some ⟨b, 0, none⟩), .int .i64 0]) ∧ Sm (fun _ => False) w w' ∧ w.heap.size ≤ d ∧ d < p ∧ d < b ∧ b ≠ p ∧ Dom d n words0 w' ∧ Row w' p (pubC s 1) 89 ∧ Row w' b (holdC p d 0 (.slice none 0 0)) 86 := by
  go_enter Try.func12, Try.ntmps12
  go_wp2_with fail
  refine (enew_ok n h0 h w).mono ?_
  rintro e w1 ⟨rfl, h1, h2⟩
  have hd : w.heap.size < w1.heap.size := h2.row.lt
  have H1 := Lib.hid h1
  have H2 := Lib.hid h2
  clear h1 h2
  go_wp2_with fail
  obtain ⟨b, hb⟩ : ∃ b, b = w1.heap.size := ⟨_, rfl⟩
  obtain ⟨o1, ho1⟩ : ∃ o1, o1 = w1.alloc (.cells #[.pointer none, .pointer (some ⟨w.heap.size, 0, none⟩), .int .i32 0, .int .u32 0, .slice none 0 0] 86) := ⟨_, rfl⟩
  rw [← ho1, ← hb]
  have r1 : Row o1 b #[.pointer none, .pointer (some ⟨w.heap.size, 0, none⟩), .int .i32 0, .int .u32 0, .slice none 0 0] 86 := by rw [ho1, hb]; exact Row.new _ _ _
  have hz : o1.heap.size = b + 1 := by rw [ho1, hb]; simp
  have hs1 : Sm (fun _ => False) w1 o1 := by rw [ho1]; exact (Sm.refl _ _).alloc _
  obtain ⟨o2, ho2⟩ : ∃ o2, o2 = o1.alloc (.cells #[.string s, .int .u64 1] 89) := ⟨_, rfl⟩
  rw [← ho2]
  have r2 : Row o2 b #[.pointer none, .pointer (some ⟨w.heap.size, 0, none⟩), .int .i32 0, .int .u32 0, .slice none 0 0] 86 := by rw [ho2]; exact r1.alloc _
  have p2 : Row o2 (b + 1) (pubC s 1) 89 := by rw [ho2, ← hz]; exact Row.new _ _ _
  have hs2 : Sm (fun _ => False) w1 o2 := by rw [ho2]; exact hs1.alloc _
  refine (pstore ⟨b, 0, none⟩ _ (b + 1) _ o2 (r2.cell 0) (r2.free 0) p2 (by simp [pubC])).mono ?_
  rintro e w2 ⟨rfl, rfl⟩
  have r3 : Row (o2.setCell ⟨b, 0, none⟩ (.pointer (some ⟨b + 1, 0, none⟩))) b (holdC (b + 1) w.heap.size 0 (.slice none 0 0)) 86 := r2.set 0 _
  have p3 : Row (o2.setCell ⟨b, 0, none⟩ (.pointer (some ⟨b + 1, 0, none⟩))) (b + 1) (pubC s 1) 89 := p2.set_ne (by simp) _
  have hs3 : Sm (fun _ => False) w1 (o2.setCell ⟨b, 0, none⟩ (.pointer (some ⟨b + 1, 0, none⟩))) := hs2.setNew (by rw [hb]; exact Nat.le_refl _) _
  have R3 := Lib.hid r3
  have P3 := Lib.hid p3
  have S3 := Lib.hid hs3
  clear r3 p3 hs3 r1 r2 p2 hs1 hs2
  clear ho1 ho2 hz
  go_wp2
  go_ret2
  subst hb
  exact ⟨_, w1.heap.size + 1, w.heap.size, rfl, H1.out.trans S3.out, Nat.le_refl _, by omega, by omega, by omega, H2.out.sm (F := fun _ => False) S3.out (by simp), P3.out, R3.out⟩

theorem Sm.old {F : Nat → Prop} {w w' : World} (h : Sm (fun b => F b ∨ w.heap.size ≤ b) w w') : Sm F w w' :=
  ⟨h.os, h.tape, h.output, h.size, fun k hk hf => h.block k hk (fun e => by rcases e with e | e; exact hf e; omega)⟩
theorem end_nil {S n : Nat} {w w' : World} {L : List (Int × Int)} {ws : List Nat} (h : EEnd (fun _ _ => True) S n w.heap.size w L ws w') : Dom S n ws w' ∧ Sm (fun b => b = S) w w' := ⟨h.2.2, h.2.1.old⟩
theorem now_nil (S n : Nat) (ws : List Nat) (w : World) (h : Dom S n ws w) :
    Calls Try.prog 23 #[.pointer (some ⟨S, 0, none⟩), .nilIface] w fun e w' => e = .returned (.tuple #[.int .u64 (ws.getD 0 0 : Nat), .int .i64 0]) ∧ Sm (fun _ => False) w w' :=
  (enow_c (gateG_nil w.heap.size) S n ws h.row.lt w [] (by simp) trivial h).mono fun e w' k => ⟨k.1, (k.2.2.mono (F' := fun b => False ∨ w.heap.size ≤ b) (fun _ x => .inr x)).old⟩
theorem pin_nil (S n : Nat) (ws : List Nat) (s : Nat) (hs : s < n) (w : World) (h : Dom S n ws w) :
    Calls Try.prog 20 #[.pointer (some ⟨S, 0, none⟩), .nilIface, .int .i64 (s : Int)] w fun e w' => e = .returned (.tuple #[.int .u64 ((pinR ws s).1 : Int), .int .i64 ((pinR ws s).2 : Int)]) ∧ Dom S n (pinW ws s) w' ∧ Sm (fun b => b = S) w w' :=
  (pin_c (gateG_nil w.heap.size) S n ws h.row.lt s hs w [] (by simp) trivial h).mono fun e w' k => ⟨k.1, end_nil k.2⟩
theorem unpin_nil (S n : Nat) (ws : List Nat) (s : Nat) (hs : s < n) (w : World) (h : Dom S n ws w) :
    Calls Try.prog 30 #[.pointer (some ⟨S, 0, none⟩), .nilIface, .int .i64 (s : Int)] w fun e w' => e = .returned (.int .i64 (unpinR ws s : Int)) ∧ Dom S n (unpinW ws s) w' ∧ Sm (fun b => b = S) w w' :=
  (unpin_c (gateG_nil w.heap.size) S n ws h.row.lt s hs w [] (by simp) trivial h).mono fun e w' k => ⟨k.1, end_nil k.2⟩
theorem move_nil (S n : Nat) (ws : List Nat) (hb : ws.getD 0 0 < 18446744073709551615) (w : World) (h : Dom S n ws w) :
    Calls Try.prog 22 #[.pointer (some ⟨S, 0, none⟩), .nilIface] w fun e w' => e = .returned (.tuple #[.int .u64 ((moveR ws n).1 : Int), .bool (moveR ws n).2, .int .i64 0]) ∧ Dom S n (moveW ws n) w' ∧ Sm (fun b => b = S) w w' :=
  (move_c (gateG_nil w.heap.size) S n ws h.row.lt hb w [] (by simp) trivial h).mono fun e w' k => ⟨k.1, end_nil k.2⟩

set_option maxRecDepth 20000 in
theorem hleave_c (h p d n : Nat) (l : Int) (o : Value) (ws : List Nat) (s : Nat) (hs : s < n) (w : World) (hr : Row w h (holdC p d l o) 86) (hd : Dom d n ws w) :
    Calls Try.prog 16 #[.pointer (some ⟨h, 0, none⟩), .nilIface, .int .i64 (s : Int)] w fun e w' => e = .returned (.int .i64 (unpinR ws s : Int)) ∧ Dom d n (unpinW ws s) w' ∧ Sm (fun b => b = d) w w' := by
  have c1 : w.cell? ⟨h, 1, none⟩ = some (.pointer (some ⟨d, 0, none⟩)) := hr.cell 1
  have HD := Lib.hid hd
  clear hd
  go_enter Try.func16, Try.ntmps16
  go_wp2_with fail
  refine (hthere_c h p d l o w hr).mono ?_
  rintro e w1 ⟨rfl, rfl⟩
  go_wp2_with fail
  refine (unpin_nil d n ws s hs w HD.out).mono ?_
  rintro e w1 ⟨rfl, h1⟩
  have H1 := Lib.hid h1
  clear h1
  go_wp2
  go_ret
  exact ⟨rfl, H1.out⟩
set_option maxRecDepth 20000 in
theorem henter_c (h p d n : Nat) (l : Int) (o : Value) (v : ByteArray) (ver : Nat) (ws : List Nat) (s : Nat) (hs : s < n) (w : World) (hr : Row w h (holdC p d l o) 86) (hp : Row w p (pubC v ver) 89) (hd : Dom d n ws w) (hne : h ≠ d ∧ p ≠ d) (h0 : (pinR ws s).2 = 0) :
    Calls Try.prog 13 #[.pointer (some ⟨h, 0, none⟩), .nilIface, .int .i64 (s : Int)] w fun e w' => e = .returned (.tuple #[.string v, .int .u64 (ver : Int), .int .i64 0]) ∧ Dom d n (pinW ws s) w' ∧ Sm (fun b => b = d) w w' := by
  have c1 : w.cell? ⟨h, 1, none⟩ = some (.pointer (some ⟨d, 0, none⟩)) := hr.cell 1
  have HD := Lib.hid hd
  have H0 := Lib.hid h0
  clear hd h0
  go_enter Try.func13, Try.ntmps13
  go_wp2_with fail
  refine (hthere_c h p d l o w hr).mono ?_
  rintro e w1 ⟨rfl, rfl⟩
  go_wp2_with fail
  refine (pin_nil d n ws s hs w HD.out).mono ?_
  rintro e w1 ⟨rfl, h1⟩
  rw [H0.out]
  have hr1 := hr.sm h1.2 hne.1
  have hp1 := hp.sm h1.2 hne.2
  have c2 : w1.cell? ⟨p, 0, none⟩ = some (.string v) := hp1.cell 0
  have c3 : w1.cell? ⟨p, 1, none⟩ = some (.int .u64 (ver : Int)) := hp1.cell 1
  have H1 := Lib.hid h1
  clear h1
  go_wp2_with fail
  refine (hload_c h p d l o v ver w1 hr1 hp1).mono ?_
  rintro e w2 ⟨rfl, rfl⟩
  go_wp2_with fail
  try simp only [Act.put]
  refine wp_region_quiet_lit (by kernel_rfl) (by kernel_rfl) ?_
  repeat (first
    | go_big_quiet_skip
    | (go_big_quiet_want; go_big_quiet_op; go_big_quiet_on))
  refine wpQuiet_nil ?_
  intro _ hw'
  obtain ⟨nq, hw''⟩ := hw'
  subst hw''
  go_wp2
  refine bodyPost_ret (results_tmp3 rfl _ _ _) rfl ?_
  exact ⟨rfl, H1.out.1.sm ((Sm.refl _ _).drewN _) (F := fun _ => False) (by simp), H1.out.2.drewN _⟩
set_option maxRecDepth 20000 in
theorem henter_pinned (h p d n : Nat) (l : Int) (o : Value) (ws : List Nat) (s : Nat) (hs : s < n) (w : World) (hr : Row w h (holdC p d l o) 86) (hd : Dom d n ws w) (h0 : (pinR ws s).2 = 90) :
    Calls Try.prog 13 #[.pointer (some ⟨h, 0, none⟩), .nilIface, .int .i64 (s : Int)] w fun e w' => e = .returned (.tuple #[.string ⟨#[]⟩, .int .u64 0, .int .i64 90]) ∧ Dom d n (pinW ws s) w' ∧ Sm (fun b => b = d) w w' := by
  have c1 : w.cell? ⟨h, 1, none⟩ = some (.pointer (some ⟨d, 0, none⟩)) := hr.cell 1
  have HD := Lib.hid hd
  have H0 := Lib.hid h0
  clear hd h0
  go_enter Try.func13, Try.ntmps13
  go_wp2_with fail
  refine (hthere_c h p d l o w hr).mono ?_
  rintro e w1 ⟨rfl, rfl⟩
  go_wp2_with fail
  refine (pin_nil d n ws s hs w HD.out).mono ?_
  rintro e w1 ⟨rfl, h1⟩
  rw [H0.out]
  have H1 := Lib.hid h1
  clear h1
  go_wp2_with fail
  refine bodyPost_ret (results_tmp3 rfl _ _ _) rfl ?_
  exact ⟨rfl, H1.out⟩
end Go.Proofs.Ytpmnmgemdaoigaa
