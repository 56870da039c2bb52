/- epoch: one call done (done of the statements), whatever the gate. -/
import Derived.Test.YtokoniaoknnggaaEpoF
import Derived.Test.YtokoniaoknnggaaWithin
namespace Go.Proofs.Ytokoniaoknnggaa
open Go.RowKit
set_option linter.unusedVariables false
set_option linter.unusedSimpArgs false

set_option maxRecDepth 20000 in
theorem pin_bad {g : Value} {nb : Nat} {G : World → List (Int × Int) → Prop} (hG : GateG g nb G) (S n : Nat) (ws : List Nat) (s : Int) (hs : s < 0 ∨ (n : Int) ≤ s) (w : World) (h : Dom S n ws w) :
    Calls Try.prog 33 #[.pointer (some ⟨S, 0, none⟩), g, .int .i64 s] w fun e w' => e = .returned (.tuple #[.int .u64 0, .int .i64 5]) ∧ w = w' := by
  have HW := Lib.hid (word_bad S n ws s hs w h)
  clear h hs
  go_enter Try.func33, Try.ntmps33
  go_wp2_with fail
  refine HW.out.mono ?_
  rintro e w1 ⟨rfl, rfl⟩
  go_wp2
  go_ret2
  exact ⟨rfl, rfl⟩
set_option maxRecDepth 20000 in
theorem unpin_bad {g : Value} {nb : Nat} {G : World → List (Int × Int) → Prop} (hG : GateG g nb G) (S n : Nat) (ws : List Nat) (s : Int) (hs : s < 0 ∨ (n : Int) ≤ s) (w : World) (h : Dom S n ws w) :
    Calls Try.prog 34 #[.pointer (some ⟨S, 0, none⟩), g, .int .i64 s] w fun e w' => e = .returned (.int .i64 5) ∧ w = w' := by
  have HW := Lib.hid (word_bad S n ws s hs w h)
  clear h hs
  go_enter Try.func34, Try.ntmps34
  go_wp2_with fail
  refine HW.out.mono ?_
  rintro e w1 ⟨rfl, rfl⟩
  go_wp2
  go_ret
  exact ⟨rfl, rfl⟩
def yesN (b : Bool) : Nat := if b then 1 else 0
theorem yes_c (b : Bool) (w : World) : Calls Try.prog 38 #[.bool b] w fun e w' => e = .returned (.int .u64 (yesN b : Int)) ∧ w = w' := by
  cases b
  all_goals
    go_enter Try.func38, Try.ntmps38
    go_wp2
    go_ret
    exact ⟨rfl, rfl⟩
theorem told_ok (v : Value) (w : World) : Calls Try.prog 37 #[.int .i64 0, v] w fun e w' => e = .returned v ∧ w = w' := by
  go_enter Try.func37, Try.ntmps37
  go_wp2
  go_ret
  exact ⟨rfl, rfl⟩

/-- A call: kind, slot, epoch. -/
abbrev DoV := Int × Int × Nat
def badS (n : Nat) (s : Int) : Prop := s < 0 ∨ (n : Int) ≤ s
instance (n : Nat) (s : Int) : Decidable (badS n s) := inferInstanceAs (Decidable (_ ∨ _))
/-- What a call tells, leaves, and does. -/
def doneQ (n : Nat) (ws : List Nat) (s : Int) (ep : Nat) : Nat → List Nat × List Nat × List (Int × Int)
  | 0 => ([ws.getD 0 0], ws, [(1, 0)])
  | 1 => if badS n s then ([0, 5], ws, []) else ([(pinR ws s.toNat).1, (pinR ws s.toNat).2], pinW ws s.toNat, pinM ws s.toNat)
  | 2 => if badS n s then ([5], ws, []) else ([unpinR ws s.toNat], unpinW ws s.toNat, unpinM ws s.toNat)
  | 3 => ([(moveR ws n).1, yesN (moveR ws n).2], moveW ws n, moveM ws n)
  | _ => ([yesN (safeR ws ep)], ws, [(1, 0)])
def doneF (n : Nat) (ws : List Nat) (x : DoV) : List Nat × List Nat × List (Int × Int) := doneQ n ws x.2.1 x.2.2 (wi x.1 5)
def u64L (l : List Nat) : List Value := l.map fun (x : Nat) => Value.int .u64 (x : Int)
def DoneEnd (G : World → List (Int × Int) → Prop) (S n nb : Nat) (w : World) (L : List (Int × Int)) (r : List Nat × List Nat × List (Int × Int)) (e : Ending) (w' : World) : Prop :=
  ∃ v, e = .returned v ∧ w'.ownsRow w.heap.size 38 1 v r.1.length (u64L r.1) ∧ EEnd G S n nb w (L ++ r.2.2) r.2.1 w'
theorem wi_five (k : Int) : (k.tmod 5 < 0 ∨ 0 ≤ k.tmod 5) ∧ (wi k 5 = 0 ∨ wi k 5 = 1 ∨ wi k 5 = 2 ∨ wi k 5 = 3 ∨ wi k 5 = 4) := by
  have := wi_lt k 5 (by decide)
  omega
/-- A fresh row of numbers behind it all. -/
theorem done_row {G : World → List (Int × Int) → Prop} {g : Value} {S n nb : Nat} {w w1 : World} {L : List (Int × Int)} {ws told : List Nat} (hG : GateG g nb G) (h : EEnd G S n nb w L ws w1) :
    (w1.alloc (.cells (u64L told).toArray 38 (0, 0))).ownsRow w.heap.size 38 1 (.slice (some ⟨w1.heap.size, 0, none⟩) told.length told.length) told.length (u64L told) ∨ maxLen < told.length := by
  by_cases hm : told.length ≤ maxLen
  · left
    have hr := Row.new w1 (u64L told).toArray 38
    exact ⟨by simp [u64L], .inr ⟨w1.heap.size, told.length, (u64L told).toArray, rfl, h.2.1.size, hr, Nat.le_refl _, hm, by simp [u64L], List.take_of_length_le (by simp [u64L])⟩⟩
  · right; omega
theorem EEnd.alloc {G : World → List (Int × Int) → Prop} {g : Value} {S n nb : Nat} {w w1 : World} {L : List (Int × Int)} {ws : List Nat} (hG : GateG g nb G) (h : EEnd G S n nb w L ws w1) (o : Obj) : EEnd G S n nb w L ws (w1.alloc o) :=
  ⟨hG.keep h.1 ((Sm.refl (fun _ => False) w1).alloc o) (fun _ _ h => h), h.2.1.alloc o, h.2.2.sm ((Sm.refl (fun _ => False) w1).alloc o) (fun h => h)⟩
theorem EEnd.on {G : World → List (Int × Int) → Prop} {S n nb : Nat} {w w0 w1 : World} {L : List (Int × Int)} {ws : List Nat} (h : EEnd G S n nb w0 L ws w1) (k : Sm (fun _ => False) w w0) : EEnd G S n nb w L ws w1 := ⟨h.1, (k.mono (fun _ h => h.elim)).trans h.2.1, h.2.2⟩
theorem EEnd.of {G : World → List (Int × Int) → Prop} {S n nb : Nat} {w w1 : World} {L : List (Int × Int)} {ws : List Nat} (hg : G w1 L) (hs : Sm (fun b => nb ≤ b) w w1) (hd : Dom S n ws w) (hS : S < nb) : EEnd G S n nb w L ws w1 := ⟨hg, hs.mono (fun b hb => .inr hb), hd.sm hs (by omega)⟩

set_option maxRecDepth 100000 in
set_option maxHeartbeats 3200000 in
theorem done_c {g : Value} {nb : Nat} {G : World → List (Int × Int) → Prop} (hG : GateG g nb G) (S n : Nat) (ws : List Nat) (hS : S < nb) (x : DoV) (hep : x.2.2 < 18446744073709551616) (hb : ws.getD 0 0 < 18446744073709551615) (w : World) (hnb : nb ≤ w.heap.size) (L : List (Int × Int)) (hL : L.length < 999000) (hg : G w L) (h : Dom S n ws w) :
    Calls Try.prog 11 #[.pointer (some ⟨S, 0, none⟩), g, .agg #[.int .i64 x.1, .int .i64 x.2.1, .int .u64 (x.2.2 : Int)]] w (DoneEnd G S n nb w L (doneF n ws x)) := by
  obtain ⟨k, s, ep⟩ := x
  simp only at hep ⊢
  have hr := Row.new w #[.int .i64 k, .int .i64 s, .int .u64 (ep : Int)] 40
  have ha : Sm (fun _ => False) w (w.alloc (.cells #[.int .i64 k, .int .i64 s, .int .u64 (ep : Int)] 40 (0, 0))) := (Sm.refl _ _).alloc _
  obtain ⟨w1, hw1⟩ : ∃ w1, w1 = w.alloc (.cells #[.int .i64 k, .int .i64 s, .int .u64 (ep : Int)] 40 (0, 0)) := ⟨_, rfl⟩
  rw [← hw1] at hr ha
  have hg1 := hG.keep hg ha (fun _ _ h => h)
  have h1 := h.sm ha (fun h => h)
  have c0 := hr.cell 0
  have c1 := hr.cell 1
  have c2 := hr.cell 2
  simp only [List.getElem?_toArray, List.getElem?_cons_zero, List.getElem?_cons_succ] at c0 c1 c2
  obtain ⟨X, hX⟩ : ∃ X, X = w.heap.size := ⟨_, rfl⟩
  have HR := Lib.hid hr
  have HA := Lib.hid ha
  have H1 := Lib.hid h1
  have HW1 := Lib.hid hw1
  have HX := Lib.hid hX
  rw [← hX] at c0 c1 c2
  obtain ⟨q, hq⟩ : ∃ q, q = wi k 5 := ⟨_, rfl⟩
  have hq5 := (wi_five k).2
  rw [← hq] at hq5
  obtain ⟨R, hR⟩ : ∃ R, R = doneF n ws (k, s, ep) := ⟨_, rfl⟩
  have hRR : R = doneQ n ws s ep q := by rw [hR, hq]; rfl
  rw [← hR]
  have HRR := Lib.hid hRR
  have HQ := Lib.hid hq
  clear hr ha h1 hw1 hX hq hR hRR h hg
  go_enter Try.func11, Try.ntmps11
  go_wp2_with fail
  rw [← HW1.out, ← HX.out]
  refine (within_c k 5 (by decide) (by decide) w1).mono ?_
  rintro e w2 ⟨rfl, rfl⟩
  rw [← HQ.out]
  have hfin : ∀ (w3 : World) (told ws' : List Nat) (m : List (Int × Int)), R = (told, ws', m) → told.length ≤ 2 → EEnd G S n nb w1 (L ++ m) ws' w3 → Hid (DoneEnd G S n nb w L R (.returned (.slice (some ⟨w3.heap.size, 0, none⟩) told.length told.length)) (w3.alloc (.cells (u64L told).toArray 38 (0, 0)))) := fun w3 told ws' m hr ht he => Lib.hid (by
    have he2 := he.on HA.out
    rcases done_row (told := told) hG he2 with h1 | h1
    · rw [hr]
      exact ⟨_, rfl, h1, he2.alloc hG _⟩
    · unfold maxLen at h1; omega)
  have HFIN := Lib.hid hfin
  clear hfin
  rcases hq5 with rfl | rfl | rfl | rfl | rfl
  · go_wp2_with fail
    refine (enow_c hG S n ws hS w1 L (by omega) hg1 H1.out).mono ?_
    rintro e w3 ⟨rfl, hg3, hs3⟩
    have HE := HFIN.out w3 _ _ _ HRR.out (by simp) (EEnd.of hg3 hs3 H1.out hS)
    clear hg3 hs3 HFIN
    go_wp2_with fail
    refine (told_ok _ _).mono ?_
    rintro e w4 ⟨rfl, rfl⟩
    go_wp2_with fail
    go_ret
    exact HE.out
  · by_cases hbs : badS n s
    · have hr := HRR.out
      simp only [doneQ, if_pos hbs] at hr
      have HE := HFIN.out w1 _ _ _ hr (by simp) ⟨by simpa using hg1, Sm.refl _ _, H1.out⟩
      clear HFIN hr
      go_wp2_with fail
      refine (pin_bad hG S n ws s hbs w1 H1.out).mono ?_
      rintro e w3 ⟨rfl, rfl⟩
      go_wp2_with fail
      go_ret
      exact HE.out
    · have hr := HRR.out
      simp only [doneQ, if_neg hbs] at hr
      obtain ⟨sn, rfl⟩ : ∃ sn : Nat, s = (sn : Int) := ⟨s.toNat, by unfold badS at hbs; omega⟩
      have hsn : sn < n := by unfold badS at hbs; omega
      have HR2 := Lib.hid hr
      clear hbs hr
      go_wp2_with fail
      refine (pin_c hG S n ws hS sn hsn w1 L (by omega) hg1 H1.out).mono ?_
      rintro e w3 ⟨rfl, he3⟩
      have HE := HFIN.out w3 _ _ _ HR2.out (by simp) he3
      clear HFIN he3
      have hz1 : (pinR ws sn).2 < 256 := by unfold pinR; split <;> simp
      have hcv : IntKind.u64.wrap ((pinR ws sn).2 : Int) = ((pinR ws sn).2 : Int) := by rw [IntKind.wrap_u64]; omega
      go_wp2_with fail
      go_ret
      exact HE.out
  · by_cases hbs : badS n s
    · have hr := HRR.out
      simp only [doneQ, if_pos hbs] at hr
      have HE := HFIN.out w1 _ _ _ hr (by simp) ⟨by simpa using hg1, Sm.refl _ _, H1.out⟩
      clear HFIN hr
      go_wp2_with fail
      refine (unpin_bad hG S n ws s hbs w1 H1.out).mono ?_
      rintro e w3 ⟨rfl, rfl⟩
      go_wp2_with fail
      go_ret
      exact HE.out
    · have hr := HRR.out
      simp only [doneQ, if_neg hbs] at hr
      obtain ⟨sn, rfl⟩ : ∃ sn : Nat, s = (sn : Int) := ⟨s.toNat, by unfold badS at hbs; omega⟩
      have hsn : sn < n := by unfold badS at hbs; omega
      have HR2 := Lib.hid hr
      clear hbs hr
      go_wp2_with fail
      refine (unpin_c hG S n ws hS sn hsn w1 L (by omega) hg1 H1.out).mono ?_
      rintro e w3 ⟨rfl, he3⟩
      have HE := HFIN.out w3 _ _ _ HR2.out (by simp) he3
      clear HFIN he3
      have hz1 : unpinR ws sn < 256 := by unfold unpinR; split <;> simp
      have hcv : IntKind.u64.wrap (unpinR ws sn : Int) = (unpinR ws sn : Int) := by rw [IntKind.wrap_u64]; omega
      go_wp2_with fail
      go_ret
      exact HE.out
  · go_wp2_with fail
    refine (move_c hG S n ws hS hb w1 L (by omega) hg1 H1.out).mono ?_
    rintro e w3 ⟨rfl, he3⟩
    have HE := HFIN.out w3 _ _ _ HRR.out (by simp) he3
    clear he3 HFIN
    go_wp2_with fail
    refine (yes_c _ _).mono ?_
    rintro e w4 ⟨rfl, rfl⟩
    go_wp2_with fail
    refine (told_ok _ _).mono ?_
    rintro e w4 ⟨rfl, rfl⟩
    go_wp2_with fail
    go_ret
    exact HE.out
  · go_wp2_with fail
    refine (safe_c hG S n ws hS ep hep (by omega) w1 L (by omega) hg1 H1.out).mono ?_
    rintro e w3 ⟨rfl, hg3, hs3⟩
    have HE := HFIN.out w3 _ _ _ HRR.out (by simp) (EEnd.of hg3 hs3 H1.out hS)
    clear hg3 hs3 HFIN
    go_wp2_with fail
    refine (yes_c _ _).mono ?_
    rintro e w4 ⟨rfl, rfl⟩
    go_wp2_with fail
    refine (told_ok _ _).mono ?_
    rintro e w4 ⟨rfl, rfl⟩
    go_wp2_with fail
    go_ret
    exact HE.out
end Go.Proofs.Ytokoniaoknnggaa
