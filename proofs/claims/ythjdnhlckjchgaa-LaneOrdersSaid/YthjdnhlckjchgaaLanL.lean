/- works, walked alone. -/
import Derived.Test.YthjdnhlckjchgaaLanJ
import Derived.Test.YthjdnhlckjchgaaLanK
namespace Go.Proofs.Ythjdnhlckjchgaa
open Go.RowKit
set_option linter.unusedVariables false
set_option linter.unusedSimpArgs false

def z16 : List Nat := [0, 0, 0, 0, 0, 0, 0, 0, 0, 0, 0, 0, 0, 0, 0, 0]
/-- The key that is all zero but for its protocol. -/
def keyP (p : Nat) : KeyV := ⟨false, z16, false, z16, p, 0, 0⟩
theorem keyP_ok (p : Nat) (h : p < 256) : (keyP p).Ok := ⟨rfl, rfl, by simp [keyP, z16], by simp [keyP, z16], h, by simp [keyP], by simp [keyP]⟩
theorem lane1 (k : KeyV) : laneOf k 1 = 0 := Nat.mod_one _

theorem flat_get (sz : Nat) : ∀ (rows : List (List Value)), (∀ r ∈ rows, r.length = sz) → ∀ (j : Nat) (hj : j < rows.length) (i : Nat) (v : Value), rows[j][i]? = some v → rows.flatten[j * sz + i]? = some v
  | [], _, j, hj, _, _, _ => by simp at hj
  | r :: rs, h, 0, _, i, v, hi => by
    have hl := (List.getElem?_eq_some_iff.1 hi).1
    simp only [List.getElem_cons_zero] at hi hl
    rw [List.flatten_cons, Nat.zero_mul, Nat.zero_add, List.getElem?_append_left hl]
    exact hi
  | r :: rs, h, j + 1, hj, i, v, hi => by
    have hr := h r (by simp)
    have := flat_get sz rs (fun x hx => h x (by simp [hx])) j (by simpa using hj) i v (by simpa using hi)
    rw [List.flatten_cons, List.getElem?_append_right (by rw [hr, Nat.succ_mul]; omega), hr, show (j + 1) * sz + i - sz = j * sz + i by rw [Nat.succ_mul]; omega]
    exact this
theorem recs_flat {w : World} {b sz T : Nat} {c : Array Value} (rows : List (List Value)) (hr : Row w b c T) (hc : c.toList = rows.flatten) (hl : ∀ r ∈ rows, r.length = sz) (n : Nat) (hn : n = rows.length) : Recs sz (.slice (some ⟨b, 0, none⟩) n n) rows w := by
  subst hn
  refine ⟨_, _, rfl, Nat.le_refl _, fun _ => ⟨b, 0, rfl, hr.lt, fun j hj i v hv => ?_⟩⟩
  have := flat_get sz rows hl j hj i v hv
  rw [Nat.zero_add, hr.cell, ← Array.getElem?_toList, hc]
  exact this

def doneZ (n : Int) : List Value := [.int .i64 n, .int .i64 0, .int .u64 0, .int .u64 0, .int .i64 0, .int .i64 0, .int .i64 0, .int .i64 0, .int .i64 0, .bool false, .bool false, .int .i64 0]
theorem kept1 (w : World) :
    Calls Try.prog 16 #[.slice (some ⟨w.heap.size, 0, none⟩) 2 2, .slice (some ⟨w.heap.size + 1, 0, none⟩) 2 2] ((w.alloc (.cells ([keyC (keyP 0), keyC (keyP 0)].flatten).toArray 63)).alloc (.cells ([doneZ 1, doneZ 0].flatten).toArray 54)) fun e w' =>
      e = .returned (.tuple #[.int .i64 1, .bool false]) ∧ Sm (fun _ => False) w w' := by
  have r1 := (Row.new w ([keyC (keyP 0), keyC (keyP 0)].flatten).toArray 63).alloc (.cells ([doneZ 1, doneZ 0].flatten).toArray 54 (0, 0))
  have r2 := Row.new (w.alloc (.cells ([keyC (keyP 0), keyC (keyP 0)].flatten).toArray 63)) ([doneZ 1, doneZ 0].flatten).toArray 54
  rw [World.size_alloc] at r2
  have q1 := recs_flat (sz := 37) [keyC (keyP 0), keyC (keyP 0)] r1 rfl (by simp [keyC_len _ (keyP_ok 0 (by omega))]) 2 rfl
  have q2 := recs_flat (sz := 12) [doneZ 1, doneZ 0] r2 rfl (by simp [doneZ]) 2 rfl
  have h := kept_c [keyP 0, keyP 0] (by simp [keyP_ok]) (by simp) _ _ [1, 0] [doneZ 1, doneZ 0] rfl (by simp) (fun j hj => by
    simp at hj
    rcases (by omega : j = 0 ∨ j = 1) with rfl | rfl
    · exact ⟨rfl, by simp [doneZ, Value.oneCell'], rfl⟩
    · exact ⟨rfl, by simp [doneZ, Value.oneCell'], rfl⟩) _ q1 q2
  refine h.mono ?_
  rintro e w' ⟨rfl, hs⟩
  refine ⟨?_, (((Sm.refl (fun _ => False) w).alloc _).alloc _).trans hs⟩
  rw [show (keptF [keyP 0, keyP 0] [1, 0] 0 fun _ => 0) = (1, false) from by decide]
  rfl

theorem stamp1 (T A m0 p : Nat) (hp : p < 256) (hm : m0 < 1000) (w : World) (h : Lns T A [m0] w) :
    Calls Try.prog 20 #[.pointer (some ⟨T, 0, none⟩), .nilIface, .agg #[Value.bool false, .int .u8 0, .int .u8 0, .int .u8 0, .int .u8 0, .int .u8 0, .int .u8 0, .int .u8 0, .int .u8 0, .int .u8 0, .int .u8 0, .int .u8 0, .int .u8 0, .int .u8 0, .int .u8 0, .int .u8 0, .int .u8 0, Value.bool false, .int .u8 0, .int .u8 0, .int .u8 0, .int .u8 0, .int .u8 0, .int .u8 0, .int .u8 0, .int .u8 0, .int .u8 0, .int .u8 0, .int .u8 0, .int .u8 0, .int .u8 0, .int .u8 0, .int .u8 0, .int .u8 0, .int .u8 (p : Int), .int .u16 0, .int .u16 0]] w fun e w' =>
      e = .returned (.tuple #[.agg #[.int .i64 0, .int .u64 (m0 : Int)], .int .i64 0]) ∧ Sm (fun b => b = A) w w' ∧ Lns T A [m0 + 1] w' := by
  have h1 := stamp_nil T A [m0] (keyP p) (keyP_ok p hp) w h (by simp; omega)
  rw [show ([m0] : List Nat).length = 1 from rfl, lane1] at h1
  exact h1

set_option maxRecDepth 100000 in
set_option maxHeartbeats 1600000 in
theorem works_c (w : World) : Calls Try.prog 11 #[] w fun e w' => e = .returned (.bool true) ∧ Sm (fun _ => False) w w' := by
  go_enter Try.func11, Try.ntmps11
  go_wp2_with fail
  refine (lnew_ok 1 (by omega) (by omega) w).mono ?_
  rintro e w1 ⟨rfl, hs1, hl1⟩
  have HS1 := Lib.hid hs1
  have HL1 := Lib.hid hl1
  clear hs1 hl1
  go_wp2_with fail
  refine (stamp1 (w.heap.size + 1) w.heap.size 0 0 (by omega) (by omega) w1 HL1.out).mono ?_
  rintro e w2 ⟨rfl, hs2, hl2⟩
  have HS2 := Lib.hid hs2
  have HL2 := Lib.hid hl2
  clear hs2 hl2
  have hba := Row.new w2 #[.int .i64 0, .int .u64 0] 38
  have hsa := (Sm.refl (fun _ => False) w2).alloc (.cells #[.int .i64 0, .int .u64 0] 38)
  have hwa : w2.heap.size < (w2.alloc (.cells #[.int .i64 0, .int .u64 0] 38)).heap.size := by simp
  obtain ⟨wa, hwae⟩ : ∃ wa, wa = w2.alloc (.cells #[.int .i64 0, .int .u64 0] 38) := ⟨_, rfl⟩
  rw [← hwae] at hba hsa hwa
  have HWA := Lib.hid hwae
  have HL2a := Lib.hid (HL2.out.sm hsa (fun h => h) (fun h => h))
  have HSA := Lib.hid (((HS1.out.mono (F' := fun b => w.heap.size ≤ b) (fun _ h => h.elim)).trans (HS2.out.mono (fun b h => by omega))).trans (hsa.mono (fun _ h => h.elim)))
  have hz1 : w.heap.size + 1 < w2.heap.size := HL2.out.rT.lt
  have HBA := Lib.hid hba
  clear hba hsa hwae HS1 HL1 HS2 HL2
  go_wp2_with fail
  rw [← HWA.out]
  refine (stamp1 (w.heap.size + 1) w.heap.size 1 9 (by omega) (by omega) wa HL2a.out).mono ?_
  rintro e w3 ⟨rfl, hs3, hl3⟩
  have hbb := Row.new w3 #[.int .i64 0, .int .u64 1] 38
  have hsb := (Sm.refl (fun _ => False) w3).alloc (.cells #[.int .i64 0, .int .u64 1] 38)
  have hz2 : w2.heap.size < w3.heap.size := Nat.lt_of_lt_of_le hwa hs3.size
  obtain ⟨wb, hwbe⟩ : ∃ wb, wb = w3.alloc (.cells #[.int .i64 0, .int .u64 1] 38) := ⟨_, rfl⟩
  rw [← hwbe] at hbb hsb
  have hz3 : w3.heap.size < wb.heap.size := hbb.lt
  have HWB := Lib.hid hwbe
  have HSB := Lib.hid ((HSA.out.trans (hs3.mono (fun b h => by omega))).trans (hsb.mono (fun _ h => h.elim)))
  have HBA2 := Lib.hid ((HBA.out.sm hs3 (by omega)).sm hsb (fun h => h))
  have HBB := Lib.hid hbb
  have b0 := hbb.cell 0
  have b1 := hbb.cell 1
  simp only [List.getElem?_toArray, List.getElem?_cons_zero, List.getElem?_cons_succ] at b0 b1
  clear hbb hsb hwbe hs3 hl3 HSA HBA HL2a HWA
  go_wp2_with fail
  rw [← HWB.out]
  clear b0 b1
  refine (neworder_ok 1 1 (by omega) (by omega) (by omega) wb).mono ?_
  rintro e w4 ⟨rfl, hs4, ho4⟩
  have hba4 := HBA2.out.sm hs4 (fun h => h)
  have hbb4 := HBB.out.sm hs4 (fun h => h)
  have b0 := hbb4.cell 0
  have b1 := hbb4.cell 1
  simp only [List.getElem?_toArray, List.getElem?_cons_zero, List.getElem?_cons_succ] at b0 b1
  have hz4 : wb.heap.size + 2 < w4.heap.size := ho4.rO.lt
  have HO4 := Lib.hid ho4
  have HBA4 := Lib.hid hba4
  have HBB4 := Lib.hid hbb4
  have HS4 := Lib.hid (HSB.out.trans (hs4.mono (fun _ h => h.elim)))
  have HWBS := Lib.hid (show w.heap.size ≤ wb.heap.size from HSB.out.size)
  clear ho4 hba4 hbb4 hs4 HWB HSB HBA2 HBB
  go_wp2_with fail
  clear b0 b1
  have hp1 := put_c (wb.heap.size + 2) wb.heap.size (wb.heap.size + 1) [0] 1 [] w4 HO4.out (by simp) (by simp) (by omega) 0 (by omega) (by omega) 1 (by omega) 7 (by decide)
  rw [show putL [0] 1 [] 0 1 7 = ⟨[0], [((0, 1), 7)], [], 0⟩ from rfl] at hp1
  refine hp1.mono ?_
  rintro e w5 ⟨v5, rfl, hx5, hs5, ho5⟩
  clear hp1
  have hba5 := HBA4.out.sm hs5 (fun h => by omega)
  have HX5 := Lib.hid hx5
  have HO5 := Lib.hid ho5
  have HBA5 := Lib.hid hba5
  have HBB5 := Lib.hid (HBB4.out.sm hs5 (fun h => by omega))
  have HS5 := Lib.hid (HS4.out.trans (hs5.mono (fun b h => by have := HWBS.out; omega)))
  obtain ⟨a9, c9, hv9⟩ := own_form0 hx5
  subst hv9
  have hz5 := hs5.size
  clear hx5 ho5 hba5 hs5 HO4 HBA4 HBB4 HS4
  go_wp2_with fail
  refine (waiting_c _ _ _ _ _ _ _ HO5.out).mono ?_
  rintro e w6 ⟨rfl, rfl⟩
  have b0 := HBA5.out.cell 0
  have b1 := HBA5.out.cell 1
  simp only [List.getElem?_toArray, List.getElem?_cons_zero, List.getElem?_cons_succ] at b0 b1
  go_wp2_with fail
  clear b0 b1
  have hp1 := put_c (wb.heap.size + 2) wb.heap.size (wb.heap.size + 1) [0] 1 [((0, 1), 7)] w5 HO5.out (by simp) (by simp) (by omega) 0 (by omega) (by omega) 0 (by omega) 6 (by decide)
  rw [show putL [0] 1 [((0, 1), 7)] 0 0 6 = ⟨[2], [], [6, 7], 0⟩ from rfl] at hp1
  refine hp1.mono ?_
  rintro e w6 ⟨v6, rfl, hx6, hs6, ho6⟩
  clear hp1
  have HX6 := Lib.hid hx6
  have HBA6 := Lib.hid (HBA5.out.sm hs6 (fun h => by omega))
  have HBB6 := Lib.hid (HBB5.out.sm hs6 (fun h => by omega))
  have HS6 := Lib.hid (HS5.out.trans (hs6.mono (fun b h => by have := HWBS.out; omega)))
  obtain ⟨a8, c8, hv8⟩ := own_form0 hx6
  subst hv8
  have hz6 := hs6.size
  clear hx6 hs6 ho6 HO5 HX5 HBA5 HBB5 HS5
  go_wp2_with fail
  refine (kept1 w6).mono ?_
  rintro e w7 ⟨rfl, hs7⟩
  have hba7 := HBA6.out.sm hs7 (fun h => h)
  have hbb7 := HBB6.out.sm hs7 (fun h => h)
  have b0 := hba7.cell 0
  have b1 := hba7.cell 1
  have d0 := hbb7.cell 0
  have d1 := hbb7.cell 1
  simp only [List.getElem?_toArray, List.getElem?_cons_zero, List.getElem?_cons_succ] at b0 b1 d0 d1
  have HX7 := Lib.hid (own_sm HX6.out hs7 (fun _ _ h => h))
  have HS7 := Lib.hid (HS6.out.trans (hs7.mono (fun _ h => h.elim)))
  clear hs7 hba7 hbb7 HX6 HBA6 HBB6 HS6
  go_wp2_with fail
  have hrow := Row.new w7 #[.int .i64 6, .int .i64 7] 3
  have hso := (Sm.refl (fun _ => False) w7).alloc (.cells #[.int .i64 6, .int .i64 7] 3)
  have i1 : Ints (.slice a8 2 c8) [6, 7] (w7.alloc (.cells #[.int .i64 6, .int .i64 7] 3)) := (ints_own HX7.out).sm hso (fun _ _ h => h)
  have i2 : Ints (.slice (some ⟨w7.heap.size, 0, none⟩) 2 2) [6, 7] (w7.alloc (.cells #[.int .i64 6, .int .i64 7] 3)) :=
    ints_own (xs := [6, 7]) (own_row (xs := ic [6, 7]) hrow 2 1 rfl (by decide))
  refine (sameInts_c _ _ [6, 7] [6, 7] (by simp) (by simp) _ i1 i2).mono ?_
  rintro e w8 ⟨rfl, hs8⟩
  have HS8 := Lib.hid ((HS7.out.trans (hso.mono (fun _ h => h.elim))).trans (hs8.mono (fun _ h => h.elim)))
  clear hs8 hso i1 i2 hrow
  go_wp2
  go_ret
  exact ⟨by simp, Sm.new HS8.out (fun b hb => hb)⟩
end Go.Proofs.Ythjdnhlckjchgaa
