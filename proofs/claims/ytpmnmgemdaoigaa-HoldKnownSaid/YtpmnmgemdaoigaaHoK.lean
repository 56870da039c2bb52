/- hold: Free at one kept value. -/
import Derived.Test.YtpmnmgemdaoigaaHoJ
namespace Go.Proofs.Ytpmnmgemdaoigaa
open Go.RowKit Go.MuLone
set_option linter.unusedVariables false
set_option linter.unusedSimpArgs false
theorem Sm.mono' {F : Nat → Prop} {w w' : World} {b0 : Nat} (h : Sm (fun b => b = b0 ∨ F b) w w') (hb : w.heap.size ≤ b0) : Sm F w w' :=
  ⟨h.os, h.tape, h.output, h.size, fun k hk hf => h.block k hk (fun e => by rcases e with e | e; omega; exact hf e)⟩
set_option maxRecDepth 100000 in
set_option maxHeartbeats 800000 in
theorem hfree_c (keep : Bool) (h p d n g c p0 E ver0 : Nat) (v0 : ByteArray) (cur : Array Value) (ws : List Nat) (hb : ws.getD 0 0 < 18446744073709551615) (hE : E + 2 < 18446744073709551616) (w : World)
    (hN : if keep then (moveW ws n).getD 0 0 < E + 2 else E + 2 ≤ (moveW ws n).getD 0 0) (hN1 : (moveW ws n).getD 0 0 < 18446744073709551616)
    (hr : Row w h (holdC p d 0 (.slice (some ⟨g, 0, none⟩) 1 c)) 86) (hp : Row w p0 (pubC v0 ver0) 89) (hg : Row w g cur 94) (hc : 1 ≤ c) (h0 : cur[0]? = some (.pointer (some ⟨p0, 0, none⟩))) (h1 : cur[1]? = some (.int .u64 (E : Int))) (hd : Dom d n ws w) :
    Calls Try.prog 15 #[.pointer (some ⟨h, 0, none⟩), .nilIface] w fun e w' => ∃ o, e = .returned (.tuple #[o, .int .i64 0]) ∧ (if keep then o = .slice none 0 0 else w'.ownsRow 0 40 1 o 1 [.int .u64 (ver0 : Int)]) ∧ Dom d n (moveW ws n) w' ∧ Row w' h (holdC p d 0 (.slice (some ⟨g, 0, none⟩) (if keep then 1 else 0) c)) 86 ∧ Sm (fun b => b = d ∨ b = h ∨ (keep = false ∧ b = g)) w w' := by
  have c1 : w.cell? ⟨h, 1, none⟩ = some (.pointer (some ⟨d, 0, none⟩)) := hr.cell 1
  have hhd := hr.ne hd.row (by decide)
  have hhp := hr.ne hp (by decide)
  have hhg := hr.ne hg (by decide)
  have hgd := hg.ne hd.row (by decide)
  have hpd := hp.ne hd.row (by decide)
  have hgp := hg.ne hp (by decide)
  obtain ⟨N, hNN⟩ : ∃ N, N = (moveW ws n).getD 0 0 := ⟨_, rfl⟩
  rw [← hNN] at hN hN1
  have HNN := Lib.hid hNN
  have HN := Lib.hid hN
  have HN1 := Lib.hid hN1
  have HEB := Lib.hid hE
  have HH0 := Lib.hid h0
  have HH1 := Lib.hid h1
  clear hNN hN hN1 hE h0 h1
  go_enter_defers Try.func15, Try.ntmps15
  go_wp2_with fail
  refine (hthere_c h p d 0 _ w hr).mono ?_
  rintro e w1 ⟨rfl, rfl⟩
  go_wp2_with fail
  refine (move_nil d n ws hb w hd).mono ?_
  rintro e w1 ⟨rfl, hd1, hs1⟩
  have hr1 := hr.sm hs1 hhd
  have hp1 := hp.sm hs1 hpd
  have hg1 := hg.sm hs1 hgd
  have c2 : w1.cell? ⟨h, 1, none⟩ = some (.pointer (some ⟨d, 0, none⟩)) := hr1.cell 1
  have HS1 := Lib.hid hs1
  clear hr hp hg hd c1 hs1
  go_wp2_with fail
  have HNW := now_nil d n _ w1 hd1
  rw [← HNN.out] at HNW
  refine HNW.mono ?_
  clear HNW
  rintro e w2 ⟨rfl, hs2⟩
  have hr2 := hr1.sm hs2 (fun h => h)
  have hp2 := hp1.sm hs2 (fun h => h)
  have hg2 := hg1.sm hs2 (fun h => h)
  have hd2 := hd1.sm hs2 (fun h => h)
  have HS2 := Lib.hid (HS1.out.trans (hs2.mono (F' := fun b => b = d) (by simp)))
  clear hr1 hp1 hg1 hd1 c2 hs2 HS1
  go_upto_region 5 with fail
  obtain ⟨bn, hbn⟩ : ∃ bn, bn = w2.heap.size := ⟨_, rfl⟩
  obtain ⟨w3, hw3⟩ : ∃ w3, w3 = w2.alloc (.cells #[.int .u64 (N : Int)] 40) := ⟨_, rfl⟩
  rw [← hw3, ← hbn]
  have hn3 : Row w3 bn #[.int .u64 (N : Int)] 40 := by rw [hw3, hbn]; exact Row.new _ _ _
  have hr3 : Row w3 h (holdC p d 0 (.slice (some ⟨g, 0, none⟩) 1 c)) 86 := by rw [hw3]; exact hr2.alloc _
  have hp3 : Row w3 p0 (pubC v0 ver0) 89 := by rw [hw3]; exact hp2.alloc _
  have hg3 : Row w3 g cur 94 := by rw [hw3]; exact hg2.alloc _
  have hs23 : Sm (fun _ => False) w2 w3 := by rw [hw3]; exact (Sm.refl _ _).alloc _
  have hd3 := hd2.sm hs23 (fun h => h)
  have HS3 := Lib.hid (HS2.out.trans (hs23.mono (F' := fun b => b = d) (by simp)))
  have hbn0 : w.heap.size ≤ bn := by rw [hbn]; exact HS2.out.size
  clear hr2 hp2 hg2 hd2 HS2 hs23 hw3 hbn
  have hlk : w3.cell? ⟨h, 2, none⟩ = some (.int .i32 0) := hr3.cell 2
  have hhn := hr3.ne hn3 (by decide)
  go_wp2_with fail
  refine (lock_free muLib ⟨h, 2, none⟩ w3 hlk (hr3.free 2)).mono ?_
  rintro e w4 ⟨rfl, hw4⟩
  have hr4 : Row w4 h (holdC p d 1 (.slice (some ⟨g, 0, none⟩) 1 c)) 86 := by rw [hw4]; exact hr3.set 2 _
  have hn4 : Row w4 bn #[.int .u64 (N : Int)] 40 := by rw [hw4]; exact hn3.set_ne (by simpa using hhn) _
  have hp4 : Row w4 p0 (pubC v0 ver0) 89 := by rw [hw4]; exact hp3.set_ne (by simpa using hhp) _
  have hg4 : Row w4 g cur 94 := by rw [hw4]; exact hg3.set_ne (by simpa using hhg) _
  have hs34 : Sm (fun b => b = h) w3 w4 := by rw [hw4]; exact (Sm.refl _ _).setCell (F := fun b => b = h) (p := ⟨h, 2, none⟩) rfl _
  have hd4 := hd3.sm hs34 (fun e => hhd e.symm)
  have HS4 := Lib.hid ((HS3.out.mono (F' := fun b => b = d ∨ b = h) (fun b e => .inl e)).trans (hs34.mono (fun b e => .inr e)))
  clear hr3 hn3 hp3 hg3 hd3 HS3 hs34 hw4 hlk
  go_upto_region 8 with fail
  obtain ⟨bo, hbo⟩ : ∃ bo, bo = w4.heap.size := ⟨_, rfl⟩
  obtain ⟨w5, hw5⟩ : ∃ w5, w5 = w4.alloc (.cells #[.slice none 0 0] 49) := ⟨_, rfl⟩
  rw [← hw5, ← hbo]
  have ho5 : Row w5 bo #[.slice none 0 0] 49 := by rw [hw5, hbo]; exact Row.new _ _ _
  have hr5 : Row w5 h (holdC p d 1 (.slice (some ⟨g, 0, none⟩) 1 c)) 86 := by rw [hw5]; exact hr4.alloc _
  have hn5 : Row w5 bn #[.int .u64 (N : Int)] 40 := by rw [hw5]; exact hn4.alloc _
  have hp5 : Row w5 p0 (pubC v0 ver0) 89 := by rw [hw5]; exact hp4.alloc _
  have hg5 : Row w5 g cur 94 := by rw [hw5]; exact hg4.alloc _
  have hs45 : Sm (fun _ => False) w4 w5 := by rw [hw5]; exact (Sm.refl _ _).alloc _
  have hd5 := hd4.sm hs45 (fun h => h)
  have HS5 := Lib.hid (HS4.out.trans (hs45.mono (by simp)))
  have hbo0 : w.heap.size ≤ bo := by rw [hbo]; exact HS4.out.size
  clear hr4 hn4 hp4 hg4 hd4 HS4 hs45 hw5 hbo
  have c5 : w5.cell? ⟨h, 4, none⟩ = some (.slice (some ⟨g, 0, none⟩) 1 c) := hr5.cell 4
  have hho := hr5.ne ho5 (by decide)
  have hgo := hg5.ne ho5 (by decide)
  have hdo := hd5.row.ne ho5 (by decide)
  cases keep
  case true =>
    have hD := Lib.hid (delete_keep g c p0 bn bo E N HN.out HEB.out w5 (hn5.cell 0) ((hg5.cell 0).trans HH0.out) ((hg5.cell 1).trans HH1.out))
    go_wp2_with fail
    refine hD.out.mono ?_
    rintro e w6 ⟨rfl, hs6⟩
    have hr6 := hr5.sm hs6 (fun h => h)
    have ho6 := ho5.sm hs6 (fun h => h)
    have hd6 := hd5.sm hs6 (fun h => h)
    have c6 : w6.cell? ⟨h, 4, none⟩ = some (.slice (some ⟨g, 0, none⟩) 1 c) := hr6.cell 4
    have f6 : w6.frozen? ⟨h, 4, none⟩ = false := hr6.free 4
    have hr7 : Row (w6.setCell ⟨h, 4, none⟩ (.slice (some ⟨g, 0, none⟩) 1 c)) h (holdC p d 1 (.slice (some ⟨g, 0, none⟩) 1 c)) 86 := hr6.set 4 _
    have ho7 : Row (w6.setCell ⟨h, 4, none⟩ (.slice (some ⟨g, 0, none⟩) 1 c)) bo #[.slice none 0 0] 49 := ho6.set_ne (by simpa using hho) _
    have hs67 : Sm (fun b => b = h) w6 (w6.setCell ⟨h, 4, none⟩ (.slice (some ⟨g, 0, none⟩) 1 c)) := (Sm.refl _ _).setCell (F := fun b => b = h) (p := ⟨h, 4, none⟩) rfl _
    have hd7 := hd6.sm hs67 (fun e => hhd e.symm)
    have HS7 := Lib.hid ((HS5.out.trans (hs6.mono (by simp))).trans (hs67.mono (F' := fun b => b = d ∨ b = h) (fun b e => .inr e)))
    have HR7 := Lib.hid hr7
    have HD7 := Lib.hid hd7
    have c7 := ho7.cell 0
    clear hr6 ho6 hd6 hr7 hd7 hs67 hs6 HS5 hr5 hn5 hp5 hg5 hd5 c5 ho5
    go_upto_region 9 with fail
    generalize w6.setCell ⟨h, 4, none⟩ (.slice (some ⟨g, 0, none⟩) 1 c) = w7 at *
    clear c6 f6
    have c7' : w7.cell? ⟨bo, 0, none⟩ = some (.slice none 0 0) := c7
    clear c7
    go_wp2_with fail
    refine (sort_c 0 none 0 (by omega) w7).mono ?_
    rintro e w8 ⟨rfl, rfl⟩
    go_wp2_with fail
    refine leaves_cons (f := 25) (args := #[.pointer (some ⟨h, 2, none⟩)]) (by simp) (by simp [go_sem]) ?_
    refine (unlock_deferred muLib ⟨h, 2, none⟩ .returning _ (HR7.out.cell 2) (HR7.out.free 2)).mono ?_
    rintro e u' w9 ⟨rfl, rfl, hw9⟩
    refine ⟨_, results_tmp2 rfl _ _ _, _, rfl, rfl, ?_, ?_, ?_⟩
    · rw [hw9]; exact HD7.out.sm ((Sm.refl _ _).setCell (F := fun b => b = h) (p := ⟨h, 2, none⟩) rfl _) (fun e => hhd e.symm)
    · rw [hw9]; exact HR7.out.set 2 _
    · rw [hw9]
      have hx : Sm (fun b => b = d ∨ b = h) w (w7.setCell ⟨h, 2, none⟩ (.int .i32 0)) := HS7.out.trans ((Sm.refl _ _).setCell (F := fun b => b = d ∨ b = h) (p := ⟨h, 2, none⟩) (Or.inr rfl) _)
      first
        | exact hx
        | exact hx.mono (fun b e => e.elim (fun e => Or.inl e) (fun e => Or.inr (Or.inl e)))
  case false =>
    have hD := Lib.hid (delete_del g c p0 bn bo E N ver0 v0 HN.out HN1.out cur w5 (hn5.cell 0) ho5 hp5 hg5 hc ((hg5.cell 0).trans HH0.out) ((hg5.cell 1).trans HH1.out))
    go_wp2_with fail
    refine hD.out.mono ?_
    rintro e w6 ⟨rfl, hs6, o, ho6, how6⟩
    have hr6 := hr5.sm hs6 (fun e => by rcases e with e | e; exact hho e; exact hhg e)
    have hd6 := hd5.sm hs6 (fun e => by rcases e with e | e; exact hdo e; exact hgd e.symm)
    obtain ⟨ao, co, hao⟩ := own_form0 how6
    subst hao
    have c6 : w6.cell? ⟨h, 4, none⟩ = some (.slice (some ⟨g, 0, none⟩) 1 c) := hr6.cell 4
    have f6 : w6.frozen? ⟨h, 4, none⟩ = false := hr6.free 4
    have hr7 : Row (w6.setCell ⟨h, 4, none⟩ (.slice (some ⟨g, 0, none⟩) 0 c)) h (holdC p d 1 (.slice (some ⟨g, 0, none⟩) 0 c)) 86 := hr6.set 4 _
    have ho7 : Row (w6.setCell ⟨h, 4, none⟩ (.slice (some ⟨g, 0, none⟩) 0 c)) bo #[.slice ao 1 co] 49 := ho6.set_ne (by simpa using hho) _
    have hs67 : Sm (fun b => b = h) w6 (w6.setCell ⟨h, 4, none⟩ (.slice (some ⟨g, 0, none⟩) 0 c)) := (Sm.refl _ _).setCell (F := fun b => b = h) (p := ⟨h, 4, none⟩) rfl _
    have hd7 := hd6.sm hs67 (fun e => hhd e.symm)
    have how7 := own_smT how6 hr6 (by decide) hs67
    have hs06 : Sm (fun b => b = d ∨ b = h ∨ b = g) w w6 := ((HS5.out.mono (F' := fun b => b = bo ∨ b = d ∨ b = h ∨ b = g) (fun b e => Or.inr (e.elim Or.inl (fun e => Or.inr (Or.inl e))))).trans (hs6.mono (fun b e => e.elim Or.inl (fun e => Or.inr (Or.inr (Or.inr e)))))).mono' hbo0
    have HS7 := Lib.hid (hs06.trans (hs67.mono (F' := fun b => b = d ∨ b = h ∨ b = g) (fun b e => Or.inr (Or.inl e))))
    have HR7 := Lib.hid hr7
    have HD7 := Lib.hid hd7
    have HO7 := Lib.hid how7
    have c7 : (w6.setCell ⟨h, 4, none⟩ (.slice (some ⟨g, 0, none⟩) 0 c)).cell? ⟨bo, 0, none⟩ = some (.slice ao 1 co) := ho7.cell 0
    clear hr6 ho6 hd6 hr7 hd7 hs67 hs6 HS5 hr5 hn5 hp5 hg5 hd5 c5 ho5 how6 how7 ho7
    go_upto_region 9 with fail
    generalize w6.setCell ⟨h, 4, none⟩ (.slice (some ⟨g, 0, none⟩) 0 c) = w7 at *
    clear c6 f6
    go_wp2_with fail
    refine (sort_c 1 ao co (by omega) w7).mono ?_
    rintro e w8 ⟨rfl, rfl⟩
    go_wp2_with fail
    refine leaves_cons (f := 25) (args := #[.pointer (some ⟨h, 2, none⟩)]) (by simp) (by simp [go_sem]) ?_
    refine (unlock_deferred muLib ⟨h, 2, none⟩ .returning _ (HR7.out.cell 2) (HR7.out.free 2)).mono ?_
    rintro e u' w9 ⟨rfl, rfl, hw9⟩
    have hsl : Sm (fun b => b = h) w7 (w7.setCell ⟨h, 2, none⟩ (.int .i32 0)) := (Sm.refl _ _).setCell (F := fun b => b = h) (p := ⟨h, 2, none⟩) rfl _
    refine ⟨_, results_tmp2 rfl _ _ _, _, rfl, ?_, ?_, ?_, ?_⟩
    · rw [hw9]; exact own_smT HO7.out HR7.out (by decide) hsl
    · rw [hw9]; exact HD7.out.sm hsl (fun e => hhd e.symm)
    · rw [hw9]; exact HR7.out.set 2 _
    · rw [hw9]
      have hx : Sm (fun b => b = d ∨ b = h ∨ b = g) w (w7.setCell ⟨h, 2, none⟩ (.int .i32 0)) := HS7.out.trans (hsl.mono (fun b e => Or.inr (Or.inl e)))
      first
        | exact hx
        | exact hx.mono (fun b e => e.elim Or.inl (fun e => Or.inr (e.elim Or.inl (fun e => Or.inr ⟨rfl, e⟩))))
end Go.Proofs.Ytpmnmgemdaoigaa
