/- patchbaylaw11.awake, walked alone: true. -/
import Derived.Test.YtdedmmjmiakidaaFwAK
import Derived.Test.YtdedmmjmiakidaaFwAL
import Derived.Deep.Slices
set_option linter.unusedVariables false
set_option linter.unusedSimpArgs false
/- patchbaylaw11.awake, walked alone: true. -/
namespace Go.Proofs.Ytdedmmjmiakidaa
open Go.RowKit
set_option linter.unusedVariables false

theorem padd_nil (P T A H n : Nat) (m hm : List Nat) (i v s : Nat) (hi : i < m.length) (hs : (m[i] + v) % 18446744073709551616 = s) (w : World) (h : Pr P T A H n m hm w) :
    Calls Try.prog 19 #[.pointer (some ⟨T, 0, none⟩), .nilIface, .int .i64 i, .int .u64 v] w fun e w' =>
      e = .returned (.tuple #[.int .u64 s, .int .i64 0]) ∧ Below A w w' ∧ Pr P T A H n (m.set i s) hm w' := by
  have a1 := h.aT
  have a2 := h.tH
  have a3 := h.hP
  refine (tadd_c (gate_nilX A (fun k => k = T ∨ k = A) (fun w => Row w P (prow T H n) 115 ∧ His H hm w) (fun w w' hy k => ⟨hy.1.sm k (by omega), hy.2.sm k (by omega)⟩)) (Nat.le_refl _) m i v s hi hs w [] (by simp) ⟨h.rP, h.his⟩ h.tal).mono ?_
  rintro e w' ⟨h1, h2, h3, h4⟩
  exact ⟨h1, h3, ⟨h2.1, h4, h2.2, a1, a2, a3⟩⟩

theorem phadd_nil (P T A H n : Nat) (m hm : List Nat) (v : Nat) (hv : v < 18446744073709551616) (w : World) (h : Pr P T A H n m hm w) :
    Calls Try.prog 17 #[.pointer (some ⟨H, 0, none⟩), .nilIface, .int .u64 v] w fun e w' =>
      e = .returned (.int .i64 0) ∧ Below A w w' ∧ Pr P T A H n m (come hm v) w' := by
  have a1 := h.aT
  have a2 := h.tH
  have a3 := h.hP
  refine (hadd_c (gate_nilX A (fun k => k = H) (fun w => Row w P (prow T H n) 115 ∧ Tal T A m w) (fun w w' hy k => ⟨hy.1.sm k (by omega), hy.2.sm k (by omega) (by omega)⟩)) (by omega) hm v hv w [] (by simp) ⟨h.rP, h.tal⟩ h.his).mono ?_
  rintro e w' ⟨h1, h2, h3, h4⟩
  exact ⟨h1, h3, ⟨h2.1, h2.2, h4, a1, a2, a3⟩⟩

def awakeMarks : List (Int × Int) := [(3, 3), (3, 65), (1, 66), (5, 66)]
theorem uw_is (m : List Nat) (i x : Nat) (h : m[i]? = some x) : (uw m)[i]? = some (.int .u64 (x : Int)) := by
  simp [uw, h]
theorem len5 : Lib.bitLen 5 = 3 := by decide

/-- Hist.Add(5) of a new histogram, told to notes. -/
theorem phadd_note (nb P T A H n : Nat) (m : List Nat) (w : World) (h : Pr P T A H n m (List.replicate 67 0) w) (hn : Noted nb w []) (hP : P < nb) (hnb : nb < w.heap.size) :
    Calls Try.prog 17 #[.pointer (some ⟨H, 0, none⟩), .iface 61 (.pointer (some ⟨nb, 0, none⟩)), .int .u64 5] w fun e w' =>
      e = .returned (.int .i64 0) ∧ Below A w w' ∧ Pr P T A H n m (come (List.replicate 67 0) 5) w' ∧ Noted nb w' awakeMarks ∧ nb < w'.heap.size := by
  have a1 := h.aT
  have a2 := h.tH
  have a3 := h.hP
  refine (hadd_c (gate_noteX A nb (fun k => k = H) (fun w => Row w P (prow T H n) 115 ∧ Tal T A m w) (by omega) (by omega) (fun w w' hy k => ⟨hy.1.sm k (by omega), hy.2.sm k (by omega) (by omega)⟩)
    (fun w w' hy k => ⟨hy.1.sm k (by omega), hy.2.sm k (by omega) (by omega)⟩)) (by omega) (List.replicate 67 0) 5 (by decide) w [] (by simp) ⟨⟨hnb, hn⟩, h.rP, h.tal⟩ h.his).mono ?_
  rintro e w' ⟨h1, h2, h3, h4⟩
  rw [len5] at h2
  exact ⟨h1, h3, ⟨h2.2.1, h2.2.2, h4, a1, a2, a3⟩, h2.1.2, h2.1.1⟩

set_option maxRecDepth 100000 in
set_option maxHeartbeats 800000 in
theorem awake_c (w : World) :
    Calls Try.prog 14 #[] w fun e w' => e = .returned (.bool true) ∧ Sm (fun _ => False) w w' := by
  go_enter Try.func14, Try.ntmps14
  go_wp2_with fail
  refine (made_c 2 (by decide) (by decide) w).mono ?_
  rintro e w1 ⟨P, T, A, H, hA, rfl, hp1, hs1⟩
  have c0 : w1.cell? ⟨P, 0, none⟩ = some (.pointer (some ⟨T, 0, none⟩)) := hp1.rP.cell 0
  have HP1 := Lib.hid hp1
  have HS1 := Lib.hid hs1
  clear hp1 hs1
  go_wp2_with fail
  refine (padd_nil P T A H 2 _ _ 0 5 5 (by decide) (by decide) w1 HP1.out).mono ?_
  rintro e w2 ⟨rfl, hb2, hp2⟩
  have c0' : w2.cell? ⟨P, 0, none⟩ = some (.pointer (some ⟨T, 0, none⟩)) := hp2.rP.cell 0
  have HP2 := Lib.hid hp2
  clear hp2 c0
  go_wp2_with fail
  refine (padd_nil P T A H 2 _ _ 1 2 2 (by decide) (by decide) w2 HP2.out).mono ?_
  rintro e w3 ⟨rfl, hb3, hp3⟩
  have c0 : w3.cell? ⟨P, 0, none⟩ = some (.pointer (some ⟨T, 0, none⟩)) := hp3.rP.cell 0
  have HP3 := Lib.hid hp3
  clear hp3 c0'
  go_wp2_with fail
  refine (tsum_c T A _ w3 HP3.out.tal).mono ?_
  rintro e w4 ⟨rfl, hs4⟩
  rw [show ((wsum (((List.replicate 2 0).set 0 5).set 1 2) : Nat) : Int) = 7 by decide]
  have HS4 := Lib.hid hs4
  have HP4 := Lib.hid (HP3.out.sm hs4 (fun _ _ _ h => h))
  clear hs4 c0
  go_wp2_with fail
  refine (newNotes_c w4).mono ?_
  rintro e w5 ⟨rfl, hs5, hn5, hz5⟩
  have HP5 := Lib.hid (HP4.out.sm hs5 (fun _ _ _ h => h))
  have HS5 := Lib.hid hs5
  have HPN := Lib.hid HP4.out.rP.lt
  have HN5 := Lib.hid hn5
  have c0 : w5.cell? ⟨P, 1, none⟩ = some (.pointer (some ⟨H, 0, none⟩)) := HP5.out.rP.cell 1
  clear hs5 hn5
  go_wp2_with fail
  refine (phadd_note w4.heap.size P T A H 2 _ w5 HP5.out HN5.out HPN.out (by omega)).mono ?_
  rintro e w6 ⟨rfl, hb6, hp6, hn6, hz6⟩
  have HP6 := Lib.hid hp6
  have HN6 := Lib.hid hn6
  have c0' : w6.cell? ⟨P, 1, none⟩ = some (.pointer (some ⟨H, 0, none⟩)) := hp6.rP.cell 1
  clear hp6 hn6 c0
  obtain ⟨m, hm⟩ : ∃ m, m = come (List.replicate 67 0) 5 := ⟨_, rfl⟩
  have HM := Lib.hid hm
  have HP6 := HP6
  rw [← hm] at HP6
  clear hm
  have hml : m.length = 67 := HP6.out.his.len
  go_wp2_with fail
  refine (hget_c H m w6 HP6.out.his).mono ?_
  rintro e w7 ⟨rfl, hs7⟩
  have HS7 := Lib.hid hs7
  have HN7 := Lib.hid (HN6.out.sm hs7 (fun _ _ h => h))
  clear hs7
  go_wp2_with (first
    | refine wpList_store_new67 rfl (.tmp 10) (.tmp 54) rfl (by simp [Act.eval]) m (by simp [Act.eval]) hml ?_
    | refine (marks_c w4.heap.size awakeMarks _ ((HN7.out.alloc _).alloc _) (by decide)).mono ?_)
  rintro e w8 ⟨v8, rfl, h8, hb8⟩
  have H8 := Lib.hid h8
  have hmw : ((w7.alloc (.cells (uw m) 26 (0, 0))).alloc (.cells #[.int .u8 3, .int .i64 3, .int .u8 3, .int .i64 65, .int .u8 1, .int .i64 66, .int .u8 5, .int .i64 66] 118 (0, 0))).heap.size = w7.heap.size + 2 := by simp
  have q1 : Row w8 w7.heap.size (uw m) 26 := ((Row.new w7 _ _).alloc _).sm hb8 (fun h => h)
  have q2 : Row w8 (w7.heap.size + 1) (mks awakeMarks).toArray 118 := by
    have := Row.new (w7.alloc (.cells (uw m) 26 (0, 0))) (mks awakeMarks).toArray 118
    simp only [World.size_alloc] at this
    exact this.sm hb8 (fun h => h)
  have HQ1 := Lib.hid q1
  have HQ2 := Lib.hid q2
  have HB8 := Lib.hid hb8
  clear h8 q1 q2 hb8
  go_wp2_with (refine (sameMarks_c v8 _ awakeMarks awakeMarks w8 (own_zero H8.out) (own_row HQ2.out 4 2 rfl (by unfold maxLen; omega)) (by decide)).mono ?_)
  rintro e w9 ⟨rfl⟩
  intro hb9
  have q9 : Row w9 w7.heap.size (uw m) 26 := HQ1.out.sm hb9 (fun h => h)
  have g3 : w9.cell? ⟨w7.heap.size, 3, none⟩ = some (.int .u64 1) := by
    rw [q9.cell 3, HM.out]; exact uw_is _ 3 1 (by decide)
  have g5 : w9.cell? ⟨w7.heap.size, 65, none⟩ = some (.int .u64 5) := by
    rw [q9.cell 65, HM.out]; exact uw_is _ 65 5 (by decide)
  have g6 : w9.cell? ⟨w7.heap.size, 66, none⟩ = some (.int .u64 5) := by
    rw [q9.cell 66, HM.out]; exact uw_is _ 66 5 (by decide)
  have HB9 := Lib.hid hb9
  clear q9 hb9
  go_wp2
  go_ret
  refine ⟨rfl, ?_⟩
  have hAw := HP1.out.aT
  have hb6' : Below w.heap.size w5 w6 := ⟨hb6.os, hb6.tape, hb6.output, hb6.size, fun k hk => hb6.block k (by omega)⟩
  have f : ∀ {a b : World}, Below A a b → w.heap.size ≤ a.heap.size → Sm (fun k => w.heap.size ≤ k) a b := fun h _ => ⟨h.os, h.tape, h.output, h.size, fun k hk hf => h.block k (by omega)⟩
  have s1 := HS1.out
  have z1 := s1.size
  have s2 := f hb2 z1
  have z2 := s2.size
  have s3 := f hb3 (by omega)
  have z3 := s3.size
  have s4 := HS4.out
  have z4 := s4.size
  have s5 := HS5.out
  have z5 := s5.size
  have s6 := f hb6 (by omega)
  have g : ∀ {a b : World}, Sm (fun _ => False) a b → Sm (fun k => w.heap.size ≤ k) a b := fun h => h.mono (fun _ x => x.elim)
  have all := (((((((g s1).trans s2).trans s3).trans (g s4)).trans (g s5)).trans s6).trans (g HS7.out))
  have all2 := (((all.alloc _).alloc _).trans (g HB8.out)).trans (g HB9.out)
  exact ⟨all2.os, all2.tape, all2.output, all2.size, fun k hk _ => all2.block k hk (by omega)⟩
end Go.Proofs.Ytdedmmjmiakidaa
/- Towards TallyJoins: a lone histogram's Add; rows' contents. -/
namespace Go.Proofs.Ytdedmmjmiakidaa
open Go.RowKit
set_option linter.unusedVariables false

theorem hadd_nil (H : Nat) (m : List Nat) (v : Nat) (hv : v < 18446744073709551616) (w : World) (h : His H m w) :
    Calls Try.prog 17 #[.pointer (some ⟨H, 0, none⟩), .nilIface, .int .u64 v] w fun e w' =>
      e = .returned (.int .i64 0) ∧ Sm (fun k => k = H) w w' ∧ His H (come m v) w' := by
  refine (hadd_c (gate_nilX 0 (fun k => k = H) (fun w' => Sm (fun k => k = H) w w') (fun w1 w2 hy k => hy.trans k)) (Nat.zero_le _) m v hv w [] (by simp) (Sm.refl _ _) h).mono ?_
  rintro e w' ⟨h1, h2, _, h4⟩
  exact ⟨h1, h2, h4⟩

/-- The contents of the rows, one behind the other. -/
def cat (Z : Nat → List Nat) : Nat → List Nat
  | 0 => []
  | i + 1 => cat Z i ++ Z i

theorem GoodRow.list {most : Nat} {w : World} {u : Value} (h : GoodRow most w u) : ∃ (z : List Nat) (a : Option Addr) (c : Nat), u = .slice a z.length c ∧ z.length ≤ most ∧ (∀ x ∈ z, x < 18446744073709551616) ∧
    ∀ j, j < z.length → ∃ b o, a = some ⟨b, o, none⟩ ∧ b < w.heap.size ∧ w.cell? ⟨b, o + j, none⟩ = some (.int .u64 ((z.getD j 0 : Nat) : Int)) := by
  obtain ⟨a, l, c, rfl, h1, h2, h3⟩ := h
  have h4 : ∀ j, j < l → ∃ x : Nat, x < 18446744073709551616 ∧ ∃ b o, a = some ⟨b, o, none⟩ ∧ b < w.heap.size ∧ w.cell? ⟨b, o + j, none⟩ = some (.int .u64 ((x : Nat) : Int)) := fun j hj => by
    obtain ⟨b, o, x, g1, g2, g3, g4⟩ := h3 j hj
    exact ⟨x, g3, b, o, g1, g2, g4⟩
  obtain ⟨g, hg⟩ := Go.Deep.choose_lt h4
  refine ⟨(List.range l).map g, a, c, by simp, by simpa using h1, ?_, fun j hj => ?_⟩
  · intro x hx
    simp at hx
    obtain ⟨j, hj, rfl⟩ := hx
    exact (hg j hj).1
  · have hj : j < l := by simpa using hj
    obtain ⟨b, o, g1, g2, g3⟩ := (hg j hj).2
    refine ⟨b, o, g1, g2, ?_⟩
    rw [g3]
    simp [hj]

/-- Rows that few has handed on, by their contents. -/
structure RowsOwn (g m : Nat) (Z : Nat → List Nat) (A : Nat → Option Addr) (C : Nat → Nat) (w : World) : Prop where
  hd : ∀ r, r < m → w.cell? ⟨g, r, none⟩ = some (.slice (A r) (Z r).length (C r))
  gl : 0 < m → g < w.heap.size
  le : ∀ r, r < m → (Z r).length ≤ 40
  lt : ∀ r, r < m → ∀ x ∈ Z r, x < 18446744073709551616
  dat : ∀ r, r < m → ∀ j, j < (Z r).length → ∃ b o, A r = some ⟨b, o, none⟩ ∧ b < w.heap.size ∧ w.cell? ⟨b, o + j, none⟩ = some (.int .u64 (((Z r).getD j 0 : Nat) : Int))

/-- What is kept where only blocks from B on are written. -/
theorem RowsOwn.sm {F : Nat → Prop} {g m : Nat} {Z : Nat → List Nat} {A : Nat → Option Addr} {C : Nat → Nat} {w w0 w' : World} (h : RowsOwn g m Z A C w0) (k0 : Sm (fun _ => False) w0 w) (k : Sm F w w') (hF : ∀ b, b < w0.heap.size → ¬ F b) : RowsOwn g m Z A C w' where
  hd := fun r hr => (k.cell (p := ⟨g, r, none⟩) (Nat.lt_of_lt_of_le (h.gl (by omega)) k0.size) (hF g (h.gl (by omega)))).trans ((k0.cell (p := ⟨g, r, none⟩) (h.gl (by omega)) (fun h => h)).trans (h.hd r hr))
  gl := fun h0 => Nat.lt_of_lt_of_le (h.gl h0) (Nat.le_trans k0.size k.size)
  le := h.le
  lt := h.lt
  dat := fun r hr j hj => by
    obtain ⟨b, o, h1, h2, h3⟩ := h.dat r hr j hj
    exact ⟨b, o, h1, Nat.lt_of_lt_of_le h2 (Nat.le_trans k0.size k.size), (k.cell (p := ⟨b, o + j, none⟩) (Nat.lt_of_lt_of_le h2 k0.size) (hF b h2)).trans ((k0.cell (p := ⟨b, o + j, none⟩) h2 (fun h => h)).trans h3)⟩

theorem rows_of_few {g m cap : Nat} {xs : List Value} {w : World} {base : Nat} (hm : m = xs.length) (hown : w.ownsRow base 38 1 (.slice (some ⟨g, 0, none⟩) m cap) m xs) (hgood : ∀ u ∈ xs, GoodRow 40 w u) :
    ∃ (Z : Nat → List Nat) (A : Nat → Option Addr) (C : Nat → Nat), RowsOwn g m Z A C w := by
  have each : ∀ r, r < m → ∃ y : List Nat × Option Addr × Nat, xs[r]? = some (.slice y.2.1 y.1.length y.2.2) ∧ y.1.length ≤ 40 ∧ (∀ x ∈ y.1, x < 18446744073709551616) ∧
      ∀ j, j < y.1.length → ∃ b o, y.2.1 = some ⟨b, o, none⟩ ∧ b < w.heap.size ∧ w.cell? ⟨b, o + j, none⟩ = some (.int .u64 ((y.1.getD j 0 : Nat) : Int)) := fun r hr => by
    obtain ⟨z, a, c, h1, h2, h3, h4⟩ := (hgood xs[r] (List.getElem_mem (by omega))).list
    exact ⟨(z, a, c), by rw [List.getElem?_eq_getElem (by omega), h1], h2, h3, h4⟩
  obtain ⟨f, hf⟩ := Go.Deep.choose_lt each
  refine ⟨fun r => (f r).1, fun r => (f r).2.1, fun r => (f r).2.2, fun r hr => ?_, fun h0 => (hown.lt g rfl).2, fun r hr => (hf r hr).2.1, fun r hr => (hf r hr).2.2.1, fun r hr => (hf r hr).2.2.2⟩
  have := hown.cells (g := g) rfl r _ (hf r hr).1
  have e : (⟨g, 0, none⟩ : Addr).add r = ⟨g, r, none⟩ := by
    unfold Addr.add
    split <;> simp_all
  rw [e] at this
  exact this

/-- Rows of different types lie apart. -/
theorem own_type {w : World} {base size n : Nat} {e : TypeId} {v : Value} {xs : List Value} (h : w.ownsRow base e size v n xs) (k : Nat) (hk : v.ownBlock = some k) : ∃ c, w.heap[k]? = some (.cells c e (0, 0)) := by
  obtain ⟨_, h2⟩ := h
  rcases h2 with ⟨rfl, rfl⟩ | ⟨g, cap, cur, rfl, _, hh, _⟩
  · cases hk
  · simp only [Value.ownBlock, Option.some.injEq] at hk
    subst hk
    exact ⟨cur, hh⟩
theorem own_ne {w : World} {b1 b2 s1 s2 n1 n2 : Nat} {e1 e2 : TypeId} {v1 v2 : Value} {x1 x2 : List Value} (h1 : w.ownsRow b1 e1 s1 v1 n1 x1) (h2 : w.ownsRow b2 e2 s2 v2 n2 x2) (he : e1 ≠ e2) : v1.ownBlock = none ∨ v1.ownBlock ≠ v2.ownBlock := by
  cases hk : v1.ownBlock with
  | none => exact .inl rfl
  | some k =>
    refine .inr (fun h => ?_)
    obtain ⟨c1, g1⟩ := own_type h1 k hk
    obtain ⟨c2, g2⟩ := own_type h2 k h.symm
    rw [g1] at g2
    simp only [Option.some.injEq, Obj.cells.injEq] at g2
    exact he g2.2.1
theorem own_ne_row {w : World} {b1 s1 n1 : Nat} {e1 T : TypeId} {v1 : Value} {x1 : List Value} {b : Nat} {c : Array Value} (h1 : w.ownsRow b1 e1 s1 v1 n1 x1) (hr : w.heap[b]? = some (.cells c T (0, 0))) (he : e1 ≠ T) : v1.ownBlock ≠ some b := by
  intro h
  obtain ⟨c1, g1⟩ := own_type h1 b h
  rw [g1] at hr
  simp only [Option.some.injEq, Obj.cells.injEq] at hr
  exact he hr.2.1
theorem cat_lt (Z : Nat → List Nat) : ∀ i, (∀ r, r < i → ∀ x ∈ Z r, x < 18446744073709551616) → ∀ x ∈ cat Z i, x < 18446744073709551616
  | 0, _ => by simp [cat]
  | i + 1, h => by
    intro x hx
    rcases List.mem_append.1 hx with h1 | h1
    · exact cat_lt Z i (fun r hr => h r (by omega)) x h1
    · exact h i (by omega) x h1
theorem cat_len (Z : Nat → List Nat) : ∀ i, (∀ r, r < i → (Z r).length ≤ 40) → (cat Z i).length ≤ i * 40
  | 0, _ => by simp [cat]
  | i + 1, h => by
    have h1 := cat_len Z i (fun r hr => h r (by omega))
    have h2 := h i (by omega)
    rw [cat, List.length_append]
    omega
end Go.Proofs.Ytdedmmjmiakidaa
/- Plain words: patchbaylaw11.few once more: where the rows lie that it hands on. No condition. -/
namespace Go.Proofs.Ytdedmmjmiakidaa
open Go.RowKit
set_option linter.unusedVariables false
set_option linter.unusedSimpArgs false

/-- A row of numbers that lies in memory. -/
def GoodRowX (X : Nat → Prop) (most : Nat) (w : World) (u : Value) : Prop :=
  ∃ (a : Option Addr) (l c : Nat), u = .slice a l c ∧ l ≤ most ∧ l ≤ c ∧ ∀ j, j < l → ∃ b o x, a = some ⟨b, o, none⟩ ∧ b < w.heap.size ∧ x < 18446744073709551616 ∧ w.cell? ⟨b, o + j, none⟩ = some (.int .u64 ((x : Nat) : Int)) ∧ X b

theorem GoodRowX.sm {X : Nat → Prop} {most : Nat} {w w' : World} {u : Value} (h : GoodRowX X most w u) (k : Sm (fun _ => False) w w') : GoodRowX X most w' u := by
  obtain ⟨a, l, c, rfl, h1, h2, h3⟩ := h
  refine ⟨a, l, c, rfl, h1, h2, fun j hj => ?_⟩
  obtain ⟨b, o, x, h4, h5, h6, h7, h8⟩ := h3 j hj
  exact ⟨b, o, x, h4, Nat.lt_of_lt_of_le h5 k.size, h6, (k.cell h5 (fun h => h)).trans h7, h8⟩

theorem GoodRowX.cut {X : Nat → Prop} {m1 most : Nat} {w : World} {a : Option Addr} {l c : Nat} (h : GoodRowX X m1 w (.slice a l c)) (k : Nat) (hk : k ≤ most) (hl : k ≤ l) : GoodRowX X most w (.slice a k c) := by
  obtain ⟨a', l', c', e, h1, h2, h3⟩ := h
  simp only [Value.slice.injEq] at e
  obtain ⟨rfl, rfl, rfl⟩ := e
  exact ⟨a, k, c, rfl, hk, by omega, fun j hj => h3 j (by omega)⟩

/-- The rows of an argument. -/
structure RowsArgX (X : Nat → Prop) (b off n : Nat) (V : Nat → Value) (w : World) : Prop where
  hd : ∀ r, r < n → w.cell? ⟨b, off + r, none⟩ = some (V r)
  ok : ∀ r, r < n → ∃ m, GoodRowX X m w (V r)
  old : 0 < n → b < w.heap.size
theorem RowsArgX.sm {X : Nat → Prop} {b off n : Nat} {V : Nat → Value} {w w' : World} (h : RowsArgX X b off n V w) (k : Sm (fun _ => False) w w') : RowsArgX X b off n V w' :=
  ⟨fun r hr => (k.cell (h.old (by omega)) (fun h => h)).trans (h.hd r hr), fun r hr => (h.ok r hr).elim fun m hm => ⟨m, hm.sm k⟩, fun h0 => Nat.lt_of_lt_of_le (h.old h0) k.size⟩

theorem info_rowX : (Try.prog.info? 38).map (fun i => (i.zero, i.size, i.bytes)) = some (some (.slice none 0 0), 1, 24) := by kernel_rfl

set_option maxRecDepth 100000 in
set_option maxHeartbeats 1600000 in
theorem few_cX {X : Nat → Prop} (a : Option Addr) (b off n c most : Nat) (V : Nat → Value) (ha : 0 < n → a = some ⟨b, off, none⟩) (hn : n ≤ 9223372036854775807) (hm : most ≤ 1000) (h1 : 0 < most) (w : World) (hX : ∀ b, w.heap.size ≤ b → X b) (h : RowsArgX X b off n V w) :
    Calls Try.prog 15 #[.slice a n c, .int .i64 most] w fun e w' =>
      ∃ v xs, e = .returned v ∧ w'.ownsRow w.heap.size 38 1 v xs.length xs ∧ 0 < xs.length ∧ xs.length ≤ 6 ∧ (∀ u ∈ xs, GoodRowX X most w' u) ∧ Sm (fun _ => False) w w' := by
  obtain ⟨i0, hi, hz0, hz1, hz2⟩ := info_parts info_rowX
  have Hi := Lib.hid hi
  have Hz0 := Lib.hid hz0
  have Hz1 := Lib.hid hz1
  have Hz2 := Lib.hid hz2
  have HH := Lib.hid h
  have HA := Lib.hid ha
  clear hi hz0 hz1 hz2 h ha
  go_enter Try.func15, Try.ntmps15
  go_wp2
  go_loopw [5, 6] (fun s5 s6 wr => ∃ k : Nat, k ≤ n ∧ k ≤ 6 ∧ s6 = .int .i64 k ∧ (∃ xs : List Value, xs.length = k ∧ Hid (wr.ownsRow w.heap.size 38 1 s5 k xs) ∧ Hid (∀ u ∈ xs, GoodRowX X most w u)) ∧ Hid (Sm (fun _ => False) w wr)) (fun s5 s6 _ => n - (intOf s6).toNat)
  case atStart => exact ⟨0, by omega, by omega, rfl, ⟨[], rfl, Lib.hid (World.ownsRow_nil _ _ _ _), Lib.hid (by simp)⟩, Lib.hid (Sm.refl _ _)⟩
  case round =>
    obtain ⟨k, hk, hk6, rfl, ⟨xs, hxl, hown, hgood⟩, hS⟩ := hrel
    by_cases hlt : k < n
    · have j1 : (k : Int) < (n : Int) := by omega
      by_cases h6 : k < 6
      · have j6 : (k : Int) < 6 := by omega
        have hp : wrap64 ((k : Int) + 1) = ((k + 1 : Nat) : Int) := by unfold wrap64; omega
        have HP := Lib.hid hp
        clear hp
        have hA1 := HA.out (by omega)
        subst hA1
        have hr := HH.out.sm hS.out
        have hc := hr.hd k hlt
        obtain ⟨m1, hg⟩ := HH.out.ok k hlt
        obtain ⟨ra, rl, rc, hV, hrl, hrc, hrd⟩ := hg
        rw [hV] at hc
        have HV := Lib.hid (show GoodRowX X m1 w (.slice ra rl rc) from ⟨ra, rl, rc, rfl, hrl, hrc, hrd⟩)
        obtain ⟨a5, c5, hv5⟩ := own_form0 hown.out
        subst hv5
        clear hr hrd hV
        by_cases hbig : (most : Int) < (rl : Int)
        · skip
          go_wp2_with (at_builtin; refine wpList_append_own _ rfl (.tmp 29) (.tmp 31) 34 rfl w.heap.size 38 i0 (.slice none 0 0) 1 24 Try.underlying34 Hi.out Hz0.out Hz1.out Hz2.out rfl (by decide) _ k xs rfl (hown.out.alloc _) ⟨wr.heap.size, 0, none⟩ 1 1 [.slice ra most rc] rfl rfl (new_cells wr [.slice ra most rc] 38) (by simp [Value.oneCell']) (by unfold maxLen; omega) (by omega) (by have := hS.out.size; simp; omega) ?_; intro v' w4 hown4 hgr4 _)
          have n1 : Hid (w4.ownsRow w.heap.size 38 1 v' (k + 1) (xs ++ [.slice ra most rc])) := Lib.hid hown4
          have n2 : Hid (∀ u ∈ xs ++ [.slice ra most rc], GoodRowX X most w u) := Lib.hid (fun u hu => by
            rcases List.mem_append.1 hu with h | h
            · exact hgood.out u h
            · rw [List.mem_singleton.1 h]
              have hg := HV.out
              exact hg.cut most (Nat.le_refl _) (by omega))
          have n3 : Hid (Sm (fun _ => False) w w4) := Lib.hid (by
            have z := hS.out.size
            exact ⟨hgr4.os.trans hS.out.os, hgr4.tape.trans hS.out.tape, hgr4.output.trans hS.out.output, by have := hgr4.size; simp at this; omega, fun j hj hf => (hgr4.block j (by simp; omega) (fun e => by have := (hown.out.lt j e.symm).1; omega)).trans ((Below.heap_alloc _ _ _ (by omega)).trans (hS.out.block j hj hf))⟩)
          go_wp2
          go_roundw
          case rel => exact ⟨k + 1, by omega, by omega, by first | rw [HP.out] | go_num, ⟨_, by simp [hxl], n1, n2⟩, n3⟩
          case measure => (try rw [HP.out]); simp only [intOf]; omega
        · skip
          go_wp2_with (at_builtin; refine wpList_append_own _ rfl (.tmp 29) (.tmp 31) 34 rfl w.heap.size 38 i0 (.slice none 0 0) 1 24 Try.underlying34 Hi.out Hz0.out Hz1.out Hz2.out rfl (by decide) _ k xs rfl (hown.out.alloc _) ⟨wr.heap.size, 0, none⟩ 1 1 [.slice ra rl rc] rfl rfl (new_cells wr [.slice ra rl rc] 38) (by simp [Value.oneCell']) (by unfold maxLen; omega) (by omega) (by have := hS.out.size; simp; omega) ?_; intro v' w4 hown4 hgr4 _)
          have n1 : Hid (w4.ownsRow w.heap.size 38 1 v' (k + 1) (xs ++ [.slice ra rl rc])) := Lib.hid hown4
          have n2 : Hid (∀ u ∈ xs ++ [.slice ra rl rc], GoodRowX X most w u) := Lib.hid (fun u hu => by
            rcases List.mem_append.1 hu with h | h
            · exact hgood.out u h
            · rw [List.mem_singleton.1 h]
              have hg := HV.out
              exact hg.cut rl (by omega) (Nat.le_refl _))
          have n3 : Hid (Sm (fun _ => False) w w4) := Lib.hid (by
            have z := hS.out.size
            exact ⟨hgr4.os.trans hS.out.os, hgr4.tape.trans hS.out.tape, hgr4.output.trans hS.out.output, by have := hgr4.size; simp at this; omega, fun j hj hf => (hgr4.block j (by simp; omega) (fun e => by have := (hown.out.lt j e.symm).1; omega)).trans ((Below.heap_alloc _ _ _ (by omega)).trans (hS.out.block j hj hf))⟩)
          go_wp2
          go_roundw
          case rel => exact ⟨k + 1, by omega, by omega, by first | rw [HP.out] | go_num, ⟨_, by simp [hxl], n1, n2⟩, n3⟩
          case measure => (try rw [HP.out]); simp only [intOf]; omega
      · have j6 : ¬ (k : Int) < 6 := by omega
        have hk0 : 0 < k := by omega
        obtain ⟨a5, c5, hv5⟩ := own_form0 hown.out
        subst hv5
        have HO := Lib.hid (show wr.ownsRow w.heap.size 38 1 (.slice a5 k c5) xs.length xs by rw [hxl]; exact hown.out)
        have hkz : ((k : Int) == 0) = false := by rw [beq_eq_false_iff_ne]; omega
        go_wp2
        go_ret
        exact ⟨_, rfl, xs, HO.out, by omega, by omega, fun u hu => (hgood.out u hu).sm hS.out, hS.out⟩
    · have j1 : ¬ (k : Int) < (n : Int) := by omega
      by_cases hk0 : 0 < k
      · skip
        obtain ⟨a5, c5, hv5⟩ := own_form0 hown.out
        subst hv5
        have HO := Lib.hid (show wr.ownsRow w.heap.size 38 1 (.slice a5 k c5) xs.length xs by rw [hxl]; exact hown.out)
        have hkz : ((k : Int) == 0) = false := by rw [beq_eq_false_iff_ne]; omega
        go_wp2
        go_ret
        exact ⟨_, rfl, xs, HO.out, by omega, by omega, fun u hu => (hgood.out u hu).sm hS.out, hS.out⟩
      · obtain rfl : k = 0 := by omega
        obtain rfl : xs = [] := List.eq_nil_of_length_eq_zero hxl
        obtain ⟨a5, c5, hv5⟩ := own_form0 hown.out
        subst hv5
        go_wp2_with (at_builtin; refine wpList_append_own _ rfl (.tmp 36) (.tmp 38) 34 rfl w.heap.size 38 i0 (.slice none 0 0) 1 24 Try.underlying34 Hi.out Hz0.out Hz1.out Hz2.out rfl (by decide) _ 0 [] rfl ((hown.out.alloc _).alloc _) ⟨wr.heap.size + 1, 0, none⟩ 1 1 [.slice (some ⟨wr.heap.size, 0, none⟩) 1 1] rfl rfl (by have := new_cells (wr.alloc (.cells #[.int .u64 1] 23)) [.slice (some ⟨wr.heap.size, 0, none⟩) 1 1] 38; simpa using this) (by simp [Value.oneCell']) (by unfold maxLen; omega) (by omega) (by have := hS.out.size; simp; omega) ?_; intro v' w4 hown4 hgr4 _)
        have z := hS.out.size
        have e1 : Row w4 wr.heap.size #[.int .u64 1] 23 := by
          have r := ((Row.new wr #[.int .u64 1] 23).alloc (.cells #[.slice (some ⟨wr.heap.size, 0, none⟩) 1 1] 38 (0, 0)))
          exact r.grown hgr4 (fun e => by have := (hown.out.lt _ e).2; omega)
        have g1 : GoodRowX X most w4 (.slice (some ⟨wr.heap.size, 0, none⟩) 1 1) := by
          refine ⟨_, 1, 1, rfl, by omega, by omega, fun j hj => ⟨wr.heap.size, 0, 1, rfl, e1.lt, by omega, ?_⟩⟩
          obtain rfl : j = 0 := by omega
          exact ⟨e1.cell 0, hX _ (by omega)⟩
        have n3 : Sm (fun _ => False) w w4 :=
          ⟨hgr4.os.trans hS.out.os, hgr4.tape.trans hS.out.tape, hgr4.output.trans hS.out.output, by have := hgr4.size; simp at this; omega, fun j hj hf => (hgr4.block j (by simp; omega) (fun e => by have := (hown.out.lt j e.symm).1; omega)).trans ((Below.heap_alloc _ _ _ (by simp; omega)).trans ((Below.heap_alloc _ _ _ (by omega)).trans (hS.out.block j hj hf)))⟩
        go_wp2
        go_ret
        exact ⟨_, rfl, [.slice (some ⟨wr.heap.size, 0, none⟩) 1 1], hown4, by simp, by simp, by simpa using g1, n3⟩
theorem GoodRowX.good {X : Nat → Prop} {most : Nat} {w : World} {u : Value} (h : GoodRowX X most w u) : GoodRow most w u := by
  obtain ⟨a, l, c, rfl, h1, h2, h3⟩ := h
  exact ⟨a, l, c, rfl, h1, h2, fun j hj => by
    obtain ⟨b, o, x, g1, g2, g3, g4, _⟩ := h3 j hj
    exact ⟨b, o, x, g1, g2, g3, g4⟩⟩
theorem GoodRow.weak {m m' : Nat} {w : World} {u : Value} (h : GoodRow m w u) (hm : m ≤ m') : GoodRow m' w u := by
  obtain ⟨a, l, c, rfl, h1, h2⟩ := h
  exact ⟨a, l, c, rfl, by omega, h2⟩
/-- Rows that few has handed on, and where they lie. -/
theorem rows_of_fewX {X : Nat → Prop} {g m cap most : Nat} {xs : List Value} {w : World} {base : Nat} (hmost : most ≤ 40) (hm : m = xs.length) (hown : w.ownsRow base 38 1 (.slice (some ⟨g, 0, none⟩) m cap) m xs) (hgood : ∀ u ∈ xs, GoodRowX X most w u) :
    ∃ (Z : Nat → List Nat) (A : Nat → Option Addr) (C : Nat → Nat), RowsOwn g m Z A C w ∧ (∀ r, r < m → (Z r).length ≤ most) ∧ ∀ r, r < m → 0 < (Z r).length → ∀ a, A r = some a → X a.block := by
  obtain ⟨Z, A, C, h⟩ := rows_of_few hm hown fun u hu => ((hgood u hu).good).weak hmost
  have key : ∀ r, r < m → xs[r]? = some (.slice (A r) (Z r).length (C r)) := fun r hr => by
    have h1 := h.hd r hr
    have h2 := hown.cells (g := g) rfl r xs[r] (List.getElem?_eq_getElem (by omega))
    have e : (⟨g, 0, none⟩ : Addr).add r = ⟨g, r, none⟩ := by
      unfold Addr.add
      split <;> simp_all
    rw [e, h1] at h2
    rw [List.getElem?_eq_getElem (by omega), ← h2]
  refine ⟨Z, A, C, h, fun r hr => ?_, fun r hr h0 a ha => ?_⟩
  · obtain ⟨a, l, c, e, h1, _⟩ := hgood _ (List.mem_of_getElem? (key r hr))
    simp only [Value.slice.injEq] at e
    omega
  · obtain ⟨a', l, c, e, _, _, h3⟩ := hgood _ (List.mem_of_getElem? (key r hr))
    simp only [Value.slice.injEq] at e
    obtain ⟨e1, e2, _⟩ := e
    obtain ⟨b, o, x, g1, _, _, _, g5⟩ := h3 0 (by omega)
    rw [← e1, ha] at g1
    obtain rfl := Option.some.inj g1
    exact g5
end Go.Proofs.Ytdedmmjmiakidaa
