/- patchbaylaw11.awake, walked alone: true. -/
import Derived.Test.YtdedmmjmiakidaaTalF
namespace Go.Proofs.Ytdedmmjmiakidaa
open Go.RowKit
set_option linter.unusedVariables false

theorem padd_nil (P T A H n : Nat) (m hm : List Nat) (i v s : Nat) (hi : i < m.length) (hs : (m[i] + v) % 18446744073709551616 = s) (w : World) (h : Pr P T A H n m hm w) :
    Calls Try.prog 19 #[.pointer (some ⟨T, 0, none⟩), .nilIface, .int .i64 i, .int .u64 v] w fun e w' =>
      e = .returned (.tuple #[.int .u64 s, .int .i64 0]) ∧ Below A w w' ∧ Pr P T A H n (m.set i s) hm w' := by
  have a1 := h.aT
  have a2 := h.tH
  have a3 := h.hP
  refine (tadd_c (gate_nilX A (fun k => k = T ∨ k = A) (fun w => Row w P (prow T H n) 115 ∧ His H hm w) (fun w w' hy k => ⟨hy.1.sm k (by omega), hy.2.sm k (by omega)⟩)) (Nat.le_refl _) m i v s hi hs w [] (by simp) ⟨h.rP, h.his⟩ h.tal).mono ?_
  rintro e w' ⟨h1, h2, h3, h4⟩
  exact ⟨h1, h3, ⟨h2.1, h4, h2.2, a1, a2, a3⟩⟩

theorem phadd_nil (P T A H n : Nat) (m hm : List Nat) (v : Nat) (hv : v < 18446744073709551616) (w : World) (h : Pr P T A H n m hm w) :
    Calls Try.prog 17 #[.pointer (some ⟨H, 0, none⟩), .nilIface, .int .u64 v] w fun e w' =>
      e = .returned (.int .i64 0) ∧ Below A w w' ∧ Pr P T A H n m (come hm v) w' := by
  have a1 := h.aT
  have a2 := h.tH
  have a3 := h.hP
  refine (hadd_c (gate_nilX A (fun k => k = H) (fun w => Row w P (prow T H n) 115 ∧ Tal T A m w) (fun w w' hy k => ⟨hy.1.sm k (by omega), hy.2.sm k (by omega) (by omega)⟩)) (by omega) hm v hv w [] (by simp) ⟨h.rP, h.tal⟩ h.his).mono ?_
  rintro e w' ⟨h1, h2, h3, h4⟩
  exact ⟨h1, h3, ⟨h2.1, h2.2, h4, a1, a2, a3⟩⟩

def awakeMarks : List (Int × Int) := [(3, 3), (3, 65), (1, 66), (5, 66)]
theorem uw_is (m : List Nat) (i x : Nat) (h : m[i]? = some x) : (uw m)[i]? = some (.int .u64 (x : Int)) := by
  simp [uw, h]
theorem len5 : Lib.bitLen 5 = 3 := by decide

/-- Hist.Add(5) of a new histogram, told to notes. -/
theorem phadd_note (nb P T A H n : Nat) (m : List Nat) (w : World) (h : Pr P T A H n m (List.replicate 67 0) w) (hn : Noted nb w []) (hP : P < nb) (hnb : nb < w.heap.size) :
    Calls Try.prog 17 #[.pointer (some ⟨H, 0, none⟩), .iface 61 (.pointer (some ⟨nb, 0, none⟩)), .int .u64 5] w fun e w' =>
      e = .returned (.int .i64 0) ∧ Below A w w' ∧ Pr P T A H n m (come (List.replicate 67 0) 5) w' ∧ Noted nb w' awakeMarks ∧ nb < w'.heap.size := by
  have a1 := h.aT
  have a2 := h.tH
  have a3 := h.hP
  refine (hadd_c (gate_noteX A nb (fun k => k = H) (fun w => Row w P (prow T H n) 115 ∧ Tal T A m w) (by omega) (by omega) (fun w w' hy k => ⟨hy.1.sm k (by omega), hy.2.sm k (by omega) (by omega)⟩)
    (fun w w' hy k => ⟨hy.1.sm k (by omega), hy.2.sm k (by omega) (by omega)⟩)) (by omega) (List.replicate 67 0) 5 (by decide) w [] (by simp) ⟨⟨hnb, hn⟩, h.rP, h.tal⟩ h.his).mono ?_
  rintro e w' ⟨h1, h2, h3, h4⟩
  rw [len5] at h2
  exact ⟨h1, h3, ⟨h2.2.1, h2.2.2, h4, a1, a2, a3⟩, h2.1.2, h2.1.1⟩

set_option maxRecDepth 100000 in
set_option maxHeartbeats 800000 in
theorem awake_c (w : World) :
    Calls Try.prog 14 #[] w fun e w' => e = .returned (.bool true) ∧ Sm (fun _ => False) w w' := by
  go_enter Try.func14, Try.ntmps14
  go_wp2_with fail
  refine (made_c 2 (by decide) (by decide) w).mono ?_
  rintro e w1 ⟨P, T, A, H, hA, rfl, hp1, hs1⟩
  have c0 : w1.cell? ⟨P, 0, none⟩ = some (.pointer (some ⟨T, 0, none⟩)) := hp1.rP.cell 0
  have HP1 := Lib.hid hp1
  have HS1 := Lib.hid hs1
  clear hp1 hs1
  go_wp2_with fail
  refine (padd_nil P T A H 2 _ _ 0 5 5 (by decide) (by decide) w1 HP1.out).mono ?_
  rintro e w2 ⟨rfl, hb2, hp2⟩
  have c0' : w2.cell? ⟨P, 0, none⟩ = some (.pointer (some ⟨T, 0, none⟩)) := hp2.rP.cell 0
  have HP2 := Lib.hid hp2
  clear hp2 c0
  go_wp2_with fail
  refine (padd_nil P T A H 2 _ _ 1 2 2 (by decide) (by decide) w2 HP2.out).mono ?_
  rintro e w3 ⟨rfl, hb3, hp3⟩
  have c0 : w3.cell? ⟨P, 0, none⟩ = some (.pointer (some ⟨T, 0, none⟩)) := hp3.rP.cell 0
  have HP3 := Lib.hid hp3
  clear hp3 c0'
  go_wp2_with fail
  refine (tsum_c T A _ w3 HP3.out.tal).mono ?_
  rintro e w4 ⟨rfl, hs4⟩
  rw [show ((wsum (((List.replicate 2 0).set 0 5).set 1 2) : Nat) : Int) = 7 by decide]
  have HS4 := Lib.hid hs4
  have HP4 := Lib.hid (HP3.out.sm hs4 (fun _ _ _ h => h))
  clear hs4 c0
  go_wp2_with fail
  refine (newNotes_c w4).mono ?_
  rintro e w5 ⟨rfl, hs5, hn5, hz5⟩
  have HP5 := Lib.hid (HP4.out.sm hs5 (fun _ _ _ h => h))
  have HS5 := Lib.hid hs5
  have HPN := Lib.hid HP4.out.rP.lt
  have HN5 := Lib.hid hn5
  have c0 : w5.cell? ⟨P, 1, none⟩ = some (.pointer (some ⟨H, 0, none⟩)) := HP5.out.rP.cell 1
  clear hs5 hn5
  go_wp2_with fail
  refine (phadd_note w4.heap.size P T A H 2 _ w5 HP5.out HN5.out HPN.out (by omega)).mono ?_
  rintro e w6 ⟨rfl, hb6, hp6, hn6, hz6⟩
  have HP6 := Lib.hid hp6
  have HN6 := Lib.hid hn6
  have c0' : w6.cell? ⟨P, 1, none⟩ = some (.pointer (some ⟨H, 0, none⟩)) := hp6.rP.cell 1
  clear hp6 hn6 c0
  obtain ⟨m, hm⟩ : ∃ m, m = come (List.replicate 67 0) 5 := ⟨_, rfl⟩
  have HM := Lib.hid hm
  have HP6 := HP6
  rw [← hm] at HP6
  clear hm
  have hml : m.length = 67 := HP6.out.his.len
  go_wp2_with fail
  refine (hget_c H m w6 HP6.out.his).mono ?_
  rintro e w7 ⟨rfl, hs7⟩
  have HS7 := Lib.hid hs7
  have HN7 := Lib.hid (HN6.out.sm hs7 (fun _ _ h => h))
  clear hs7
  go_wp2_with (first
    | refine wpList_store_new67 rfl (.tmp 10) (.tmp 54) rfl (by simp [Act.eval]) m (by simp [Act.eval]) hml ?_
    | refine (marks_c w4.heap.size awakeMarks _ ((HN7.out.alloc _).alloc _) (by decide)).mono ?_)
  rintro e w8 ⟨v8, rfl, h8, hb8⟩
  have H8 := Lib.hid h8
  have hmw : ((w7.alloc (.cells (uw m) 26 (0, 0))).alloc (.cells #[.int .u8 3, .int .i64 3, .int .u8 3, .int .i64 65, .int .u8 1, .int .i64 66, .int .u8 5, .int .i64 66] 118 (0, 0))).heap.size = w7.heap.size + 2 := by simp
  have q1 : Row w8 w7.heap.size (uw m) 26 := ((Row.new w7 _ _).alloc _).sm hb8 (fun h => h)
  have q2 : Row w8 (w7.heap.size + 1) (mks awakeMarks).toArray 118 := by
    have := Row.new (w7.alloc (.cells (uw m) 26 (0, 0))) (mks awakeMarks).toArray 118
    simp only [World.size_alloc] at this
    exact this.sm hb8 (fun h => h)
  have HQ1 := Lib.hid q1
  have HQ2 := Lib.hid q2
  have HB8 := Lib.hid hb8
  clear h8 q1 q2 hb8
  go_wp2_with (refine (sameMarks_c v8 _ awakeMarks awakeMarks w8 (own_zero H8.out) (own_row HQ2.out 4 2 rfl (by unfold maxLen; omega)) (by decide)).mono ?_)
  rintro e w9 ⟨rfl⟩
  intro hb9
  have q9 : Row w9 w7.heap.size (uw m) 26 := HQ1.out.sm hb9 (fun h => h)
  have g3 : w9.cell? ⟨w7.heap.size, 3, none⟩ = some (.int .u64 1) := by
    rw [q9.cell 3, HM.out]; exact uw_is _ 3 1 (by decide)
  have g5 : w9.cell? ⟨w7.heap.size, 65, none⟩ = some (.int .u64 5) := by
    rw [q9.cell 65, HM.out]; exact uw_is _ 65 5 (by decide)
  have g6 : w9.cell? ⟨w7.heap.size, 66, none⟩ = some (.int .u64 5) := by
    rw [q9.cell 66, HM.out]; exact uw_is _ 66 5 (by decide)
  have HB9 := Lib.hid hb9
  clear q9 hb9
  go_wp2
  go_ret
  refine ⟨rfl, ?_⟩
  have hAw := HP1.out.aT
  have hb6' : Below w.heap.size w5 w6 := ⟨hb6.os, hb6.tape, hb6.output, hb6.size, fun k hk => hb6.block k (by omega)⟩
  have f : ∀ {a b : World}, Below A a b → w.heap.size ≤ a.heap.size → Sm (fun k => w.heap.size ≤ k) a b := fun h _ => ⟨h.os, h.tape, h.output, h.size, fun k hk hf => h.block k (by omega)⟩
  have s1 := HS1.out
  have z1 := s1.size
  have s2 := f hb2 z1
  have z2 := s2.size
  have s3 := f hb3 (by omega)
  have z3 := s3.size
  have s4 := HS4.out
  have z4 := s4.size
  have s5 := HS5.out
  have z5 := s5.size
  have s6 := f hb6 (by omega)
  have g : ∀ {a b : World}, Sm (fun _ => False) a b → Sm (fun k => w.heap.size ≤ k) a b := fun h => h.mono (fun _ x => x.elim)
  have all := (((((((g s1).trans s2).trans s3).trans (g s4)).trans (g s5)).trans s6).trans (g HS7.out))
  have all2 := (((all.alloc _).alloc _).trans (g HB8.out)).trans (g HB9.out)
  exact ⟨all2.os, all2.tape, all2.output, all2.size, fun k hk _ => all2.block k hk (by omega)⟩
end Go.Proofs.Ytdedmmjmiakidaa
