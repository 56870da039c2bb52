/- PROVED: patchbaylaw08.StackOnce answers true whatever it is given, in whatever order its threads' steps come by the scheduler, and leaves its arguments as they were. No condition. -/
import Derived.Test.YtmcffabfghhpaaaOnceMAD
import Derived.Test.YtmcffabfghhpaaaFwAK
import Derived.Deep.Cut
import Derived.Deep.Grids
set_option linter.unusedVariables false
set_option linter.unusedSimpArgs false
/- Plain words: StackOnce, by goroutine 0. No condition. -/
namespace Go.Proofs.Ytmcffabfghhpaaa
open Go.Conc Go.RowKit
set_option linter.unusedVariables false
set_option linter.unusedSimpArgs false
instance gm_rowsB {X : Nat → Prop} {b off n : Nat} {V : Nat → Value} : GM (RowsArgB X b off n V) := ⟨fun u u' h q => ⟨fun r hr => by
  have := q.hd r hr
  rw [gr_cell h (cell_lt this)]; exact this, fun r hr => by
  obtain ⟨m, a, l, c, e, h1, h2, h3⟩ := q.ok r hr
  exact ⟨m, a, l, c, e, h1, h2, fun j hj => by
    obtain ⟨b, o, x, g1, g2, g3, g4⟩ := h3 j hj
    exact ⟨b, o, x, g1, Nat.lt_of_lt_of_le g2 h.size, by rw [gr_cell h g2]; exact g3, g4⟩⟩, fun h0 => Nat.lt_of_lt_of_le (q.old h0) h.size⟩⟩
/-- What is handed in. -/
structure OnArg (X : Nat → Prop) (a0 : Option Addr) (b0 f0 n0 : Nat) (xs : Nat → Int) (a1 : Option Addr) (b1 f1 n1 : Nat) (V : Nat → Value) (W0 : World) : Prop where
  ha0 : 0 < n0 → a0 = some ⟨b0, f0, none⟩
  hn0 : n0 ≤ 9223372036854775807
  ints : IntsArg b0 f0 n0 xs W0
  ha1 : 0 < n1 → a1 = some ⟨b1, f1, none⟩
  hn1 : n1 ≤ 9223372036854775807
  rows : RowsArgB X b1 f1 n1 V W0
theorem info_fnS : (Try.prog.info? 48).map (fun i => (i.zero, i.size, i.bytes)) = some (some .nilFunc, 1, 8) := by kernel_rfl
theorem info_ptr : (Try.prog.info? 42).map (fun i => (i.zero, i.size, i.bytes)) = some (some (.pointer none), 1, 8) := by kernel_rfl
theorem make_books (bk : Nat → Nat) (m : Nat) (hm : m ≤ 1000) (w : World) : (Instr.makeSlice 40 (.int .i64 m) (.int .i64 m)).run Try.prog w = .ok (.slice (some ⟨w.heap.size, 0, none⟩) m m) (w.alloc (.cells (ptrs bk 0 m) 42)) := by
  obtain ⟨i0, hi, hz0, hz1, hz2⟩ := info_parts info_ptr
  have h := run_makeSlice (P := Try.prog) w 40 42 i0 _ Try.underlying40 hi hz0 .i64 .i64 m m (by omega) (by omega) (by rw [hz1]; omega) (by rw [hz2]; omega) (by omega)
  rw [hz1] at h
  simp only [Int.toNat_natCast] at h
  have e : madeCells (Value.pointer none).cells (m * 1) = ptrs bk 0 m := by
    apply Array.ext
    · simp [size_madeCells, ptrs_size, Value.cells]
    · intro j h1 h2
      have hj : j < m := by simpa [ptrs_size] using h2
      simp [madeCells, ptrs, Value.cells, Nat.mod_one]
  rw [e] at h
  exact h
theorem pow_slots4 (k : Nat) (hk : k < 5) : ∃ n : Nat, 0 < n ∧ n ≤ 1024 ∧ bits .and .i64 (n : Int) ((n : Int) - 1) = 0 ∧ wrap64 (2 ^ k) = (n : Int) := by
  have : k = 0 ∨ k = 1 ∨ k = 2 ∨ k = 3 ∨ k = 4 := by omega
  rcases this with rfl | rfl | rfl | rfl | rfl
  · exact ⟨1, by decide, by decide, by decide, by unfold wrap64; decide⟩
  · exact ⟨2, by decide, by decide, by decide, by unfold wrap64; decide⟩
  · exact ⟨4, by decide, by decide, by decide, by unfold wrap64; decide⟩
  · exact ⟨8, by decide, by decide, by decide, by unfold wrap64; decide⟩
  · exact ⟨16, by decide, by decide, by decide, by unfold wrap64; decide⟩
theorem fresh_rep {S N n : Nat} {u : World} (hn : n ≤ 1024) (h : Stk S N n 0 1 (memK n (n - 1)) u) (h0 : 0 < n) : SRep S N n ⟨0, 1, memK n (n - 1)⟩ u where
  stk := h
  b0 := Nat.zero_le _
  b1 := by show 1 % 4294967296 ≤ n; omega
  bn := fun i hi => by
    show (memK n (n - 1))[2 * i] ≤ n
    have hl : 2 * i < (memK n (n - 1)).length := hi
    rw [memK_len] at hl
    rw [memK_get]
    split <;> omega
  bv := fun i hi => by
    show (memK n (n - 1))[2 * i + 1] < _
    rw [memK_get]
    split <;> omega
/-- Where things lie ahead of the loop. -/
structure OnceP (W0 : World) (B S N n sb lb G g m cap : Nat) (X : Nat → Prop) (l : Nat → List Bool) (ea : Nat → Option Addr) (ec : Nat → Nat) (u : World) : Prop where
  stk : SRep S N n ⟨0, 1, memK n (n - 1)⟩ u
  sb : Row u sb #[.pointer (some ⟨S, 0, none⟩)] 26
  lb : Row u lb #[.slice (some ⟨g, 0, none⟩) m cap] 38
  lists : BoolsOwn X g m 8 l ea ec u
  since : Since B (Gr W0) u
instance gm_onceP {W0 : World} {B S N n sb lb G g m cap : Nat} {X : Nat → Prop} {l : Nat → List Bool} {ea : Nat → Option Addr} {ec : Nat → Nat} : GM (OnceP W0 B S N n sb lb G g m cap X l ea ec) := ⟨fun u u' h q =>
  ⟨gm_srep.keep u u' h q.stk, gm_row.keep u u' h q.sb, gm_row.keep u u' h q.lb, gm_bools.keep u u' h q.lists, gm_since.keep u u' h q.since⟩⟩
theorem bools_sm {F : Nat → Prop} {X : Nat → Prop} {g m most : Nat} {l : Nat → List Bool} {ea : Nat → Option Addr} {ec : Nat → Nat} {u u' : World} (h : BoolsOwn X g m most l ea ec u) (k : Sm F u u') (hF : ¬ F g) (hX : ∀ b, X b → ¬ F b) : BoolsOwn X g m most l ea ec u' :=
  ⟨fun r hr => cell_sm (h.hd r hr) k (cell_lt (h.hd r hr)) hF, h.le, fun r hr j hj => by
    obtain ⟨b, o, h1, h2, h3, h4⟩ := h.dat r hr j hj
    exact ⟨b, o, h1, Nat.lt_of_lt_of_le h2 k.size, cell_sm h3 k h2 (hX b h4), h4⟩⟩
section
variable {Wm : Machine → Trace → Prop} {W0 : World}
set_option maxRecDepth 100000 in
set_option maxHeartbeats 8000000 in
theorem once_b (hW : Back Try.prog Wm) {a0 : Option Addr} {b0 f0 n0 c0 : Nat} {xs : Nat → Int} {a1 : Option Addr} {b1 f1 n1 c1 : Nat} {V : Nat → Value} {bt : Int} (hA : OnArg (fun b => b < W0.heap.size) a0 b0 f0 n0 xs a1 b1 f1 n1 V W0) {Q : LX → Exit → Array Value → World → Prop}
    (hq : ∀ Wg k t' w', W0.heap.size ≤ Wg → t'.getD 6 undef = .bool true → Kn ⟨some Wg, k⟩ (Gr W0) w' → Q ⟨some Wg, k⟩ .ret t' w') :
    cps (envL Wm) (Try.f8.body.getD .skip) Q ⟨none, 1⟩ (#[.slice a0 n0 c0, .slice a1 n1 c1, .int .i64 bt] ++ Array.replicate 78 undef) W0 := by
  have O := envL_ok (W := Wm)
  obtain ⟨B, hB⟩ : ∃ B, B = W0.heap.size := ⟨_, rfl⟩
  have HA := Lib.hid hA
  rw [← hB] at hq
  have Hq := Lib.hid hq
  clear hq hA
  refine cps_opaque fun Q' hQ => ?_
  walk_nrmf Try.f8
  have h : Kn (⟨none, 1⟩ : LX) (Since B (Gr W0)) W0 := by rw [hB]; exact (Kn.of_true rfl (Gr.refl W0)).since
  have HB := Lib.hid hB
  clear hB
  repeat refine cps_seq O ?_
  (refine cps_region O ?_; simp only [List.size_toArray, List.length_cons, List.length_nil, Nat.reduceAdd, Nat.zero_add, List.range, List.range.loop])
  refine valE O rfl (.bool false) rfl rfl (fun _ => by simp [go_sem]) (fun _ => by go_simp; try (first | rfl | (simp [*]))) ?_; try walk_nrm
  refine cpsR_nil O ?_
  show cps _ _ _ _ _ _
  repeat refine cps_seq O ?_
  refine aloneG (α := Nat) (fun y => #[.slice a0 n0 c0, .slice a1 n1 c1, .int .i64 bt, undef, undef, undef, .bool false, undef, undef, undef, undef, undef, undef, undef, undef, undef, .bool true, .bool false, undef, undef, undef, undef, undef, undef, undef, undef, undef, undef, undef, undef, undef, undef, undef, undef, undef, undef, undef, undef, undef, undef, undef, undef, undef, undef, undef, undef, undef, undef, undef, undef, undef, undef, undef, undef, undef, undef, undef, undef, undef, undef, undef, undef, undef, undef, undef, undef, undef, undef, undef, undef, undef, undef, undef, undef, undef, undef, undef, undef, undef, undef, undef]) (fun y u => Since B (Gr W0) u) h (by kernel_rfl) (fun u hu hs K hK => ?_) fun y w1 h1 hz1 => ?_
  · have Hu := Lib.hid hu
    clear hu
    go_wp2_with fail
    refine (awake_c u).mono ?_
    rintro e u1 ⟨rfl, hsm⟩
    have Hsm := Lib.hid hsm
    clear hsm
    go_wp2
    exact hK 0 _ _ rfl rfl (GM.sm Hsm.out Hu.out)
  clear h
  show cps _ _ _ _ _ _
  refine cps_cond O (v := false) rfl ?_
  simp only [Bool.false_eq_true, if_false]
  refine cps_skip O ?_
  show cps _ _ _ _ _ _
  repeat refine cps_seq O ?_
  obtain ⟨n, hn0, hn, hbp, hwr⟩ := pow_slots4 (wi bt 4) (by have := wi_lt bt 4 (by decide); omega)
  have HBP := Lib.hid hbp
  have HWR := Lib.hid hwr
  clear hbp hwr
  refine aloneG (α := Nat) (fun y => #[.slice a0 n0 c0, .slice a1 n1 c1, .int .i64 bt, undef, undef, undef, .bool false, .int .i64 n, undef, undef, undef, undef, undef, undef, undef, undef, .bool true, .bool false, .int .i64 bt, .int .i64 (wi bt 4), .int .i64 n, undef, undef, undef, undef, undef, undef, undef, undef, undef, undef, undef, undef, undef, undef, undef, undef, undef, undef, undef, undef, undef, undef, undef, undef, undef, undef, undef, undef, undef, undef, undef, undef, undef, undef, undef, undef, undef, undef, undef, undef, undef, undef, undef, undef, undef, undef, undef, undef, undef, undef, undef, undef, undef, undef, undef, undef, undef, undef, undef, undef]) (fun y u => Since B (Gr W0) u) h1 (by kernel_rfl) (fun u hu hs K hK => ?_) fun y w2 h2 hz2 => ?_
  · have Hu := Lib.hid hu
    clear hu
    go_wp2_with fail
    refine (within_c bt 4 (by decide) (by decide) u).mono ?_
    rintro e u1 ⟨rfl, rfl⟩
    have hwi : wi bt 4 < 4 := by have := wi_lt bt 4 (by decide); omega
    have hwr := HWR.out
    generalize wi bt 4 = kk at *
    go_wp2
    exact hK 0 _ _ rfl (by rw [hwr]) Hu.out
  clear h1
  show cps _ _ _ _ _ _
  repeat refine cps_seq O ?_
  refine aloneG (α := Nat × Nat) (fun y => #[.slice a0 n0 c0, .slice a1 n1 c1, .int .i64 bt, undef, undef, undef, .bool false, .int .i64 n, .pointer (some ⟨y.2, 0, none⟩), .int .i64 0, undef, undef, undef, undef, undef, undef, .bool true, .bool false, .int .i64 bt, .int .i64 (wi bt 4), .int .i64 n, .tuple #[.pointer (some ⟨y.1 + 1, 0, none⟩), .int .i64 0], .int .i64 n, .tuple #[.pointer (some ⟨y.1 + 1, 0, none⟩), .int .i64 0], .pointer (some ⟨y.1 + 1, 0, none⟩), .int .i64 0, undef, undef, undef, undef, undef, undef, undef, undef, undef, undef, undef, undef, undef, undef, undef, undef, undef, undef, undef, undef, undef, undef, undef, undef, undef, undef, undef, undef, undef, undef, undef, undef, undef, undef, undef, undef, undef, undef, undef, undef, undef, undef, undef, undef, undef, undef, undef, undef, undef, undef, undef, undef, undef, undef, undef]) (fun y u => (B ≤ y.1 ∧ y.1 + 1 < y.2) ∧ (SRep (y.1 + 1) y.1 n ⟨0, 1, memK n (n - 1)⟩ u ∧ Row u y.2 #[.pointer (some ⟨y.1 + 1, 0, none⟩)] 26 ∧ Since B (Gr W0) u)) (hM := fun y => by infer_instance) h2 (by kernel_rfl) (fun u hu hs K hK => ?_) fun y w3 h3 hz3 => ?_
  · have hBu : B ≤ u.heap.size := by obtain ⟨u0, _, q2, q3⟩ := hu; rw [← q3]; exact q2.size
    have Hu := Lib.hid hu
    have HB2 := Lib.hid hBu
    clear hu hBu
    go_wp2_with fail
    refine (new_ok n hn0 hn HBP.out u).mono ?_
    rintro e u1 ⟨rfl, hb1, hs1⟩
    have hlt := hs1.rS.lt
    have hrep := fresh_rep hn hs1 hn0
    have hg : Gr u u1 := Gr.of_below hb1
    have hr1 : Row (u1.alloc (.cells #[.pointer (some ⟨u.heap.size + 1, 0, none⟩)] 26 (0, 0))) u1.heap.size #[.pointer (some ⟨u.heap.size + 1, 0, none⟩)] 26 := Row.new u1 _ _
    have hg1 : Gr u1 (u1.alloc (.cells #[.pointer (some ⟨u.heap.size + 1, 0, none⟩)] 26 (0, 0))) := Gr.sm0 ((Sm.refl _ _).alloc _)
    have hrw : Row (u1.alloc (.cells #[.pointer none] 26 (0, 0))) u1.heap.size #[.pointer none] 26 := Row.new u1 _ _
    have Hall := Lib.hid (And.intro (And.intro HB2.out hlt) (And.intro (GM.keep _ _ hg1 hrep) (And.intro hr1 (gm_since.keep _ _ (hg.trans hg1) Hu.out))))
    have q1 := hrw.cell 0
    have q2 := hrw.free 0
    clear hrep hg hrw hg1 hr1 hs1 hb1 hlt hs
    go_wp2
    exact hK (u.heap.size, u1.heap.size) _ _ rfl rfl Hall.out
  obtain ⟨N, sb⟩ := y
  dsimp only at h3 ⊢
  obtain ⟨⟨hBN, hNs⟩, h3⟩ := h3.sep
  obtain ⟨S, hS⟩ : ∃ S, S = N + 1 := ⟨_, rfl⟩
  rw [← hS] at h3 hNs
  rw [← hS]
  have hNS : N < S := by omega
  clear h2 hS
  show cps _ _ _ _ _ _
  repeat refine cps_seq O ?_
  refine aloneG (α := Nat) (fun y => #[.slice a0 n0 c0, .slice a1 n1 c1, .int .i64 bt, undef, undef, undef, .bool false, .int .i64 n, .pointer (some ⟨sb, 0, none⟩), .int .i64 0, undef, undef, undef, undef, undef, undef, .bool true, .bool false, .int .i64 bt, .int .i64 (wi bt 4), .int .i64 n, .tuple #[.pointer (some ⟨S, 0, none⟩), .int .i64 0], .int .i64 n, .tuple #[.pointer (some ⟨S, 0, none⟩), .int .i64 0], .pointer (some ⟨S, 0, none⟩), .int .i64 0, .int .i64 0, .bool false, .bool false, .pointer (some ⟨S, 0, none⟩), .bool false, .bool false, undef, undef, undef, undef, undef, undef, undef, undef, undef, undef, undef, undef, undef, undef, undef, undef, undef, undef, undef, undef, undef, undef, undef, undef, undef, undef, undef, undef, undef, undef, undef, undef, undef, undef, undef, undef, undef, undef, undef, undef, undef, undef, undef, undef, undef, undef, undef, undef, undef]) (fun y u => SRep S N n ⟨0, 1, memK n (n - 1)⟩ u ∧ Row u sb #[.pointer (some ⟨S, 0, none⟩)] 26 ∧ Since B (Gr W0) u) (hM := fun y => by infer_instance) h3 (by kernel_rfl) (fun u hu hs K hK => ?_) fun y w4 h4 hz4 => ?_
  · have q1 := hu.2.1.cell 0
    have Hu := Lib.hid hu
    clear hu
    go_wp2
    exact hK 0 _ _ rfl rfl Hu.out
  clear h3
  show cps _ _ _ _ _ _
  refine cps_cond O (v := false) rfl ?_
  simp only [Bool.false_eq_true, if_false]
  refine cps_skip O ?_
  show cps _ _ _ _ _ _
  repeat refine cps_seq O ?_
  obtain ⟨S1, hS1⟩ : ∃ S1, S1 = w4.heap.size := ⟨_, rfl⟩
  have hsS1 : sb < S1 := by
    obtain ⟨u, hu, hs⟩ := h4.tell
    rw [hS1, ← hs]; exact hu.2.1.lt
  have hBS : B ≤ S1 := by omega
  have HS1 := Lib.hid hS1
  clear hS1
  refine aloneG (α := (Nat × Nat × Nat × Nat) × (Nat → List Bool) × (Nat → Option Addr) × (Nat → Nat)) (fun y => #[.slice a0 n0 c0, .slice a1 n1 c1, .int .i64 bt, undef, undef, undef, .bool false, .int .i64 n, .pointer (some ⟨sb, 0, none⟩), .int .i64 0, .pointer (some ⟨y.1.2.2.2, 0, none⟩), undef, undef, undef, undef, undef, .bool true, .bool false, .int .i64 bt, .int .i64 (wi bt 4), .int .i64 n, .tuple #[.pointer (some ⟨S, 0, none⟩), .int .i64 0], .int .i64 n, .tuple #[.pointer (some ⟨S, 0, none⟩), .int .i64 0], .pointer (some ⟨S, 0, none⟩), .int .i64 0, .int .i64 0, .bool false, .bool false, .pointer (some ⟨S, 0, none⟩), .bool false, .bool false, .slice a1 n1 c1, .slice (some ⟨y.1.1, 0, none⟩) y.1.2.1 y.1.2.2.1, undef, undef, undef, undef, undef, undef, undef, undef, undef, undef, undef, undef, undef, undef, undef, undef, undef, undef, undef, undef, undef, undef, undef, undef, undef, undef, undef, undef, undef, undef, undef, undef, undef, undef, undef, undef, undef, undef, undef, undef, undef, undef, undef, undef, undef, undef, undef])
    (fun y u => (0 < y.1.2.1 ∧ y.1.2.1 ≤ 4 ∧ S1 ≤ y.1.1 ∧ y.1.1 < u.heap.size ∧ S1 ≤ y.1.2.2.2 ∧ y.1.2.2.2 < u.heap.size) ∧ OnceP W0 B S N n sb y.1.2.2.2 0 y.1.1 y.1.2.1 y.1.2.2.1 (fun b => b < B ∨ (S1 ≤ b ∧ b < u.heap.size)) y.2.1 y.2.2.1 y.2.2.2 u) (hM := fun y => ⟨fun u u' e1 e2 e3 q => by
      have hg : Gr u u' := ⟨by rw [e1]; exact Nat.le_refl _, fun b _ => by rw [e1], e2, e3⟩
      rw [e1]
      exact ⟨q.1, gm_onceP.keep u u' hg q.2⟩⟩) h4 (by kernel_rfl) (fun u hu hs K hK => ?_) fun y w5 h5 hz5 => ?_
  · have Hu := Lib.hid hu
    clear hu
    have hrows : RowsArgB (fun b => b < B ∨ S1 ≤ b) b1 f1 n1 V u := by
      have h := HA.out.rows
      have hg : Gr W0 u := Hu.out.2.2.now
      have h := gm_rowsB.keep W0 u hg h
      exact ⟨h.hd, fun r hr => by
        obtain ⟨m, a, l, c, e, h1, h2, h3⟩ := h.ok r hr
        exact ⟨m, a, l, c, e, h1, h2, fun j hj => by
          obtain ⟨b, o, x, g1, g2, g3, g4⟩ := h3 j hj
          exact ⟨b, o, x, g1, g2, g3, .inl (by rw [HB.out]; exact g4)⟩⟩, h.old⟩
    have HR := Lib.hid hrows
    have Hs := Lib.hid hs
    clear hrows hs
    go_wp2_with fail
    refine (whats_c (X := fun b => b < B ∨ S1 ≤ b) a1 b1 f1 n1 c1 8 V HA.out.ha1 HA.out.hn1 (by decide) (by decide) u (fun b hb => .inr (by have := HS1.out; have := Hs.out; omega)) HR.out).mono ?_
    rintro e u1 ⟨v0, xs0, rfl, hown, hx0, hx6, hgood, hsm⟩
    obtain ⟨g, cap, hv0⟩ := own_form hown hx0
    subst hv0
    obtain ⟨m, hm⟩ : ∃ m, m = xs0.length := ⟨_, rfl⟩
    rw [← hm] at hown hx0 hx6
    rw [← hm]
    obtain ⟨l, ea, ec, q1⟩ := bools_of hm hown hgood
    have hg := hown.lt g rfl
    have hg1 : S1 ≤ g := by have := HS1.out; have := Hs.out; omega
    have hrw : Row (u1.alloc (.cells #[.slice none 0 0] 38 (0, 0))) u1.heap.size #[.slice none 0 0] 38 := Row.new u1 _ _
    have hr1 : Row (u1.alloc (.cells #[.slice (some ⟨g, 0, none⟩) m cap] 38 (0, 0))) u1.heap.size #[.slice (some ⟨g, 0, none⟩) m cap] 38 := Row.new u1 _ _
    have hz : (u1.alloc (.cells #[.slice (some ⟨g, 0, none⟩) m cap] 38 (0, 0))).heap.size = u1.heap.size + 1 := by simp [World.size_alloc]
    have hgr1 : Gr u1 (u1.alloc (.cells #[.slice (some ⟨g, 0, none⟩) m cap] 38 (0, 0))) := Gr.sm0 ((Sm.refl _ _).alloc _)
    have hgr : Gr u (u1.alloc (.cells #[.slice (some ⟨g, 0, none⟩) m cap] 38 (0, 0))) := (Gr.sm0 hsm).trans hgr1
    have hb := gm_bools.keep _ _ hgr1 q1
    have hbz : BoolsOwn (fun b => b < B ∨ (S1 ≤ b ∧ b < (u1.alloc (.cells #[.slice (some ⟨g, 0, none⟩) m cap] 38 (0, 0))).heap.size)) g m 8 l ea ec (u1.alloc (.cells #[.slice (some ⟨g, 0, none⟩) m cap] 38 (0, 0))) :=
      ⟨hb.hd, hb.le, fun r hr j hj => by
        obtain ⟨b, o, h1, h2, h3, h4⟩ := hb.dat r hr j hj
        exact ⟨b, o, h1, h2, h3, h4.imp id fun h => ⟨h, h2⟩⟩⟩
    have hS1u : S1 ≤ u1.heap.size := by have := HS1.out; have := Hs.out; have := hsm.size; omega
    have Hall := Lib.hid (And.intro (show 0 < m ∧ m ≤ 4 ∧ S1 ≤ g ∧ g < (u1.alloc (.cells #[.slice (some ⟨g, 0, none⟩) m cap] 38 (0, 0))).heap.size ∧ S1 ≤ u1.heap.size ∧ u1.heap.size < (u1.alloc (.cells #[.slice (some ⟨g, 0, none⟩) m cap] 38 (0, 0))).heap.size from ⟨hx0, hx6, hg1, by rw [hz]; omega, hS1u, by rw [hz]; omega⟩) (OnceP.mk (G := 0) (gm_srep.keep _ _ hgr Hu.out.1) (gm_row.keep _ _ hgr Hu.out.2.1) hr1 hbz (gm_since.keep _ _ hgr Hu.out.2.2)))
    have c1 := hrw.cell 0
    have c2 := hrw.free 0
    clear hsm hown hgood q1 hm hg hg1 hrw hr1 hz hgr1 hgr hb hbz hS1u
    go_wp2
    exact hK ((g, m, cap, u1.heap.size), l, ea, ec) _ _ rfl rfl Hall.out
  obtain ⟨⟨g, m, cap, lb⟩, l, ea, ec⟩ := y
  dsimp only at h5 ⊢
  clear h4
  show cps _ _ _ _ _ _
  obtain ⟨C0, hC0⟩ : ∃ C0, C0 = w5.heap.size := ⟨_, rfl⟩
  obtain ⟨X, hX⟩ : ∃ X : Nat → Prop, X = fun b => b < B ∨ (S1 ≤ b ∧ b < C0) := ⟨_, rfl⟩
  obtain ⟨⟨hm0, hm4, hgS, hgC, hlS, hlC⟩, h5⟩ : (0 < m ∧ m ≤ 4 ∧ S1 ≤ g ∧ g < C0 ∧ S1 ≤ lb ∧ lb < C0) ∧ Kn ⟨none, 1⟩ (OnceP W0 B S N n sb lb 0 g m cap X l ea ec) w5 := by
    have h6 := h5.size
    refine Kn.sep (h6.mono fun u hu => ?_)
    obtain ⟨⟨q1, q2⟩, q3⟩ := hu
    have q3 : u.heap.size = C0 := by rw [hC0]; exact q3
    simp only [q3] at q1 q2
    exact ⟨q1, by rw [hX]; exact q2⟩
  repeat refine cps_seq O ?_
  obtain ⟨G, hG⟩ : ∃ G, G = C0 := ⟨_, rfl⟩
  have hGC0 : C0 ≤ G ∧ G ≤ C0 := by omega
  have HG0 := Lib.hid (show G = w5.heap.size from hG.trans hC0)
  clear hG hC0
  refine aloneG (α := Nat) (fun y => #[.slice a0 n0 c0, .slice a1 n1 c1, .int .i64 bt, undef, undef, undef, .bool false, .int .i64 n, .pointer (some ⟨sb, 0, none⟩), .int .i64 0, .pointer (some ⟨lb, 0, none⟩), .pointer (some ⟨G + 1, 0, none⟩), undef, undef, undef, undef, .bool true, .bool false, .int .i64 bt, .int .i64 (wi bt 4), .int .i64 n, .tuple #[.pointer (some ⟨S, 0, none⟩), .int .i64 0], .int .i64 n, .tuple #[.pointer (some ⟨S, 0, none⟩), .int .i64 0], .pointer (some ⟨S, 0, none⟩), .int .i64 0, .int .i64 0, .bool false, .bool false, .pointer (some ⟨S, 0, none⟩), .bool false, .bool false, .slice a1 n1 c1, .slice (some ⟨g, 0, none⟩) m cap, .slice (some ⟨g, 0, none⟩) m cap, .int .i64 m, .slice (some ⟨G, 0, none⟩) m m, undef, undef, undef, undef, undef, undef, undef, undef, undef, undef, undef, undef, undef, undef, undef, undef, undef, undef, undef, undef, undef, undef, undef, undef, undef, undef, undef, undef, undef, undef, undef, undef, undef, undef, undef, undef, undef, undef, undef, undef, undef, undef, undef, undef]) (fun y u => Row u G (ptrs (fun _ => 0) 0 m) 42 ∧ Row u (G + 1) #[.slice (some ⟨G, 0, none⟩) m m] 40 ∧ OnceP W0 B S N n sb lb 0 g m cap X l ea ec u) (hM := fun y => by infer_instance) h5 (by kernel_rfl) (fun u hu hs K hK => ?_) fun y w6 h6 hz6 => ?_
  · have c0 := hu.lb.cell 0
    have Hu := Lib.hid hu
    have hGu : G = u.heap.size := by rw [HG0.out, hs]
    have hmk := fun W => make_books (fun _ => 0) m (by omega) W
    have hG1 : (u.alloc (.cells (ptrs (fun _ => 0) 0 m) 42 (0, 0))).heap.size = G + 1 := by rw [hGu]; simp [World.size_alloc]
    have r0 : Row (u.alloc (.cells (ptrs (fun _ => 0) 0 m) 42 (0, 0))) G (ptrs (fun _ => 0) 0 m) 42 := by rw [hGu]; exact Row.new u _ _
    have r1 : Row ((u.alloc (.cells (ptrs (fun _ => 0) 0 m) 42 (0, 0))).alloc (.cells #[.slice (some ⟨G, 0, none⟩) m m] 40 (0, 0))) (G + 1) #[.slice (some ⟨G, 0, none⟩) m m] 40 := by
      have := Row.new (u.alloc (.cells (ptrs (fun _ => 0) 0 m) 42 (0, 0))) #[.slice (some ⟨G, 0, none⟩) m m] 40
      rw [hG1] at this
      exact this
    have rz : Row ((u.alloc (.cells (ptrs (fun _ => 0) 0 m) 42 (0, 0))).alloc (.cells #[.slice none 0 0] 40 (0, 0))) (G + 1) #[.slice none 0 0] 40 := by
      have := Row.new (u.alloc (.cells (ptrs (fun _ => 0) 0 m) 42 (0, 0))) #[.slice none 0 0] 40
      rw [hG1] at this
      exact this
    have hg : Gr u ((u.alloc (.cells (ptrs (fun _ => 0) 0 m) 42 (0, 0))).alloc (.cells #[.slice (some ⟨G, 0, none⟩) m m] 40 (0, 0))) := Gr.sm0 (((Sm.refl _ _).alloc _).alloc _)
    have c1 := rz.cell 0
    have c2 := rz.free 0
    have Hall := Lib.hid (And.intro (r0.alloc (.cells #[.slice (some ⟨G, 0, none⟩) m m] 40 (0, 0))) (And.intro r1 (gm_onceP.keep _ _ hg hu)))
    have HGU := Lib.hid hGu
    have hG1' : u.heap.size + 1 = G + 1 := by rw [hGu]
    clear hu r0 r1 rz hg hs hG1 HG0 h5
    subst hGu
    go_wp2
    exact hK 0 _ _ rfl rfl Hall.out
  clear h5
  show cps _ _ _ _ _ _
  repeat refine cps_seq O ?_
  (refine cps_region O ?_; simp only [List.size_toArray, List.length_cons, List.length_nil, Nat.reduceAdd, Nat.zero_add, List.range, List.range.loop])
  refine valE O rfl (.slice none 0 0) rfl rfl (fun _ => by simp [go_sem]) (fun _ => by go_simp; try (first | rfl | (simp [*]))) ?_; try walk_nrm
  refine cpsR_nil O ?_
  show cps _ _ _ _ _ _
  repeat refine cps_seq O ?_
  refine aloneG (α := Nat) (fun q => #[.slice a0 n0 c0, .slice a1 n1 c1, .int .i64 bt, undef, undef, undef, .bool false, .int .i64 n, .pointer (some ⟨sb, 0, none⟩), .int .i64 0, .pointer (some ⟨lb, 0, none⟩), .pointer (some ⟨G + 1, 0, none⟩), .slice none 0 0, .pointer (some ⟨q, 0, none⟩), undef, undef, .bool true, .bool false, .int .i64 bt, .int .i64 (wi bt 4), .int .i64 n, .tuple #[.pointer (some ⟨S, 0, none⟩), .int .i64 0], .int .i64 n, .tuple #[.pointer (some ⟨S, 0, none⟩), .int .i64 0], .pointer (some ⟨S, 0, none⟩), .int .i64 0, .int .i64 0, .bool false, .bool false, .pointer (some ⟨S, 0, none⟩), .bool false, .bool false, .slice a1 n1 c1, .slice (some ⟨g, 0, none⟩) m cap, .slice (some ⟨g, 0, none⟩) m cap, .int .i64 m, .slice (some ⟨G, 0, none⟩) m m, undef, undef, undef, undef, undef, undef, undef, undef, undef, undef, undef, undef, undef, undef, undef, undef, undef, undef, undef, undef, undef, undef, undef, undef, undef, undef, undef, undef, undef, undef, undef, undef, undef, undef, undef, undef, undef, undef, undef, undef, undef, undef, undef, undef]) (fun q u => G + 2 ≤ q ∧ Row u q #[.int .i64 0] 3 ∧ Row u G (ptrs (fun _ => 0) 0 m) 42 ∧ Row u (G + 1) #[.slice (some ⟨G, 0, none⟩) m m] 40 ∧ OnceP W0 B S N n sb lb 0 g m cap X l ea ec u) (hM := fun y => by infer_instance) h6 (by kernel_rfl) (fun u hu hs K hK => ?_) fun q0 w7 h7 hz7 => ?_
  · have hrw : Row (u.alloc (.cells #[.int .i64 0] 3 (0, 0))) u.heap.size #[.int .i64 0] 3 := Row.new u _ _
    have hsm : Sm (fun _ => False) u (u.alloc (.cells #[.int .i64 0] 3 (0, 0))) := (Sm.refl _ _).alloc _
    have q1 := hrw.cell 0
    have q2 := hrw.free 0
    have Hall := Lib.hid (And.intro (show G + 2 ≤ u.heap.size by have := hu.2.1.lt; omega) (And.intro hrw (And.intro (gm_row.keep _ _ (Gr.sm0 hsm) hu.1) (And.intro (gm_row.keep _ _ (Gr.sm0 hsm) hu.2.1) (gm_onceP.keep _ _ (Gr.sm0 hsm) hu.2.2)))))
    clear hu hsm hrw hs
    go_wp2
    exact hK u.heap.size _ _ rfl rfl Hall.out
  clear h6
  show cps _ _ _ _ _ _
  repeat refine cps_seq O ?_
  refine aloneG (α := Value × (Nat → Nat) × (Nat → Nat) × (Nat → Value)) (fun y => #[.slice a0 n0 c0, .slice a1 n1 c1, .int .i64 bt, undef, undef, undef, .bool false, .int .i64 n, .pointer (some ⟨sb, 0, none⟩), .int .i64 0, .pointer (some ⟨lb, 0, none⟩), .pointer (some ⟨G + 1, 0, none⟩), y.1, y.2.2.2 13, undef, undef, .bool true, .bool false, .int .i64 bt, .int .i64 (wi bt 4), .int .i64 n, .tuple #[.pointer (some ⟨S, 0, none⟩), .int .i64 0], .int .i64 n, .tuple #[.pointer (some ⟨S, 0, none⟩), .int .i64 0], .pointer (some ⟨S, 0, none⟩), .int .i64 0, .int .i64 0, .bool false, .bool false, .pointer (some ⟨S, 0, none⟩), .bool false, .bool false, .slice a1 n1 c1, .slice (some ⟨g, 0, none⟩) m cap, .slice (some ⟨g, 0, none⟩) m cap, .int .i64 m, .slice (some ⟨G, 0, none⟩) m m, y.2.2.2 37, y.2.2.2 38, y.2.2.2 39, y.2.2.2 40, y.2.2.2 41, y.2.2.2 42, y.2.2.2 43, y.2.2.2 44, y.2.2.2 45, y.2.2.2 46, y.2.2.2 47, y.2.2.2 48, y.2.2.2 49, y.2.2.2 50, y.2.2.2 51, y.2.2.2 52, undef, undef, undef, undef, undef, undef, undef, undef, undef, undef, undef, undef, undef, undef, undef, undef, undef, undef, undef, undef, undef, undef, undef, undef, undef, undef, undef, undef]) (fun y u => OnceM W0 B S N n sb lb (G + 1) G g m cap C0 X l ea ec y.2.1 y.2.2.1 y.1 u) (hM := fun y => by infer_instance) h7 (by kernel_rfl) (fun u hu hs K hK => ?_) fun y w8 h8 hz8 => ?_
  · have hK' : ∀ (a' : Act) (u' : World), a'.defers = [] → (∃ v bk kb, a'.tmps = #[.slice a0 n0 c0, .slice a1 n1 c1, .int .i64 bt, undef, undef, undef, .bool false, .int .i64 n, .pointer (some ⟨sb, 0, none⟩), .int .i64 0, .pointer (some ⟨lb, 0, none⟩), .pointer (some ⟨G + 1, 0, none⟩), v, (slotsOf a'.tmps) 13, undef, undef, .bool true, .bool false, .int .i64 bt, .int .i64 (wi bt 4), .int .i64 n, .tuple #[.pointer (some ⟨S, 0, none⟩), .int .i64 0], .int .i64 n, .tuple #[.pointer (some ⟨S, 0, none⟩), .int .i64 0], .pointer (some ⟨S, 0, none⟩), .int .i64 0, .int .i64 0, .bool false, .bool false, .pointer (some ⟨S, 0, none⟩), .bool false, .bool false, .slice a1 n1 c1, .slice (some ⟨g, 0, none⟩) m cap, .slice (some ⟨g, 0, none⟩) m cap, .int .i64 m, .slice (some ⟨G, 0, none⟩) m m, (slotsOf a'.tmps) 37, (slotsOf a'.tmps) 38, (slotsOf a'.tmps) 39, (slotsOf a'.tmps) 40, (slotsOf a'.tmps) 41, (slotsOf a'.tmps) 42, (slotsOf a'.tmps) 43, (slotsOf a'.tmps) 44, (slotsOf a'.tmps) 45, (slotsOf a'.tmps) 46, (slotsOf a'.tmps) 47, (slotsOf a'.tmps) 48, (slotsOf a'.tmps) 49, (slotsOf a'.tmps) 50, (slotsOf a'.tmps) 51, (slotsOf a'.tmps) 52, undef, undef, undef, undef, undef, undef, undef, undef, undef, undef, undef, undef, undef, undef, undef, undef, undef, undef, undef, undef, undef, undef, undef, undef, undef, undef, undef, undef] ∧ OnceM W0 B S N n sb lb (G + 1) G g m cap C0 X l ea ec bk kb v u') → K a' u' := fun a' u' h1 h => by
      obtain ⟨v, bk, kb, h2, h3⟩ := h
      exact hK (v, bk, kb, slotsOf a'.tmps) a' u' h1 h2 h3
    obtain ⟨i0, hi, hz0, hz1, hz2⟩ := info_parts info_fnS
    have Hi := Lib.hid hi
    have Hz0 := Lib.hid hz0
    have Hz1 := Lib.hid hz1
    have Hz2 := Lib.hid hz2
    have Hu := Lib.hid hu
    have HXX := Lib.hid hX
    have HK := Lib.hid hK'
    clear hi hz0 hz1 hz2 hu hK hs h7 hX hK'
    go_wp2
    go_loopw [12, 13] (fun s12 s13 wr => ∃ (i : Nat) (bk kb : Nat → Nat) (q : Nat), i ≤ m ∧ s13 = .pointer (some ⟨q, 0, none⟩) ∧ Hid (Row wr q #[.int .i64 i] 3) ∧ Hid (G + 2 ≤ q) ∧ Hid (wr.ownsRow u.heap.size 48 1 s12 i (onceVs sb lb (G + 1) kb i)) ∧ Hid (∀ j, j < i → (Row wr (kb j) #[.int .i64 j] 3 ∧ G + 2 ≤ kb j) ∧ (Row wr (bk j) #[.slice none 0 0, .slice none 0 0, .bool false] tBook ∧ G + 2 ≤ bk j)) ∧ Hid (∀ a b, a < i → b < i → a ≠ b → bk a ≠ bk b) ∧ Hid (Row wr G (ptrs bk i m) 42) ∧ Hid (Row wr (G + 1) #[.slice (some ⟨G, 0, none⟩) m m] 40) ∧ Hid (Row wr lb #[.slice (some ⟨g, 0, none⟩) m cap] 38) ∧ Hid (Sm (fun x => x = G) u wr)) (fun s12 _ _ => match s12 with | .slice _ n _ => m - n | _ => 0)
    case atStart =>
      refine ⟨0, fun _ => 0, fun _ => 0, q0, by omega, rfl, Lib.hid Hu.out.2.1, Lib.hid Hu.out.1, Lib.hid (World.ownsRow_nil _ _ _ _), Lib.hid (fun j hj => by omega), Lib.hid (fun a b ha => by omega), Lib.hid Hu.out.2.2.1, Lib.hid Hu.out.2.2.2.1, Lib.hid Hu.out.2.2.2.2.lb, Lib.hid (Sm.refl _ _)⟩
    case round =>
      have hBU : G + 3 ≤ u.heap.size := by have := Hu.out.2.1.lt; have := Hu.out.1; omega
      obtain ⟨wo, rfl⟩ : ∃ wo : World, wo = wr := ⟨_, rfl⟩
      obtain ⟨i, bk, kb, q, hi, rfl, hq, hqB, hown, hkb, hbi, h0, h1, h2, hS⟩ := hrel
      obtain ⟨a7, c7, hv7⟩ := own_form0 hown.out
      subst hv7
      have c1 := hq.out.cell 0
      have c2 := h2.out.cell 0
      by_cases hlt : i < m
      · have j1 : (i : Int) < (m : Int) := by omega
        have hp : wrap64 ((i : Int) + 1) = ((i + 1 : Nat) : Int) := by unfold wrap64; omega
        have HP := Lib.hid hp
        clear hp
        have hBs := hS.out.size
        have hBZ : G + 3 ≤ wo.heap.size := by omega
        obtain ⟨kb', hkb'⟩ : ∃ kb' : Nat → Nat, kb' = fun j => if j = i then q else kb j := ⟨_, rfl⟩
        obtain ⟨bk', hbk'⟩ : ∃ bk' : Nat → Nat, bk' = fun j => if j = i then wo.heap.size else bk j := ⟨_, rfl⟩
        have HK1 := Lib.hid (show kb' i = q by rw [hkb']; simp)
        have HK2 := Lib.hid (show ∀ j, j < i → kb' j = kb j from fun j hj => by rw [hkb']; simp; intro e; omega)
        have HB1 := Lib.hid (show bk' i = wo.heap.size by rw [hbk']; simp)
        have HB2 := Lib.hid (show ∀ j, j < i → bk' j = bk j from fun j hj => by rw [hbk']; simp; intro e; omega)
        clear hkb' hbk'
        have c3 := h1.out.cell 0
        have h0a := h0.out.alloc (.cells #[.slice none 0 0, .slice none 0 0, .bool false] 44 (0, 0))
        have c4 : (wo.alloc (.cells #[.slice none 0 0, .slice none 0 0, .bool false] 44 (0, 0))).cell? ⟨G, i, none⟩ = some (.pointer none) := by rw [h0a.cell i, ptrs_get hlt, if_neg (by omega)]
        have f4 := h0a.free i
        have c5 : wo.cell? ⟨G, i, none⟩ = some (.pointer none) := by rw [h0.out.cell i, ptrs_get hlt, if_neg (by omega)]
        clear h0a
        obtain ⟨w2, hw2⟩ : ∃ w2, w2 = (wo.alloc (.cells #[.slice none 0 0, .slice none 0 0, .bool false] 44 (0, 0))).setCell ⟨G, i, none⟩ (.pointer (some ⟨wo.heap.size, 0, none⟩)) := ⟨_, rfl⟩
        have s2 : Sm (fun x => x = G) wo w2 := by rw [hw2]; exact ((Sm.refl (fun x => x = G) _).alloc _).setCell rfl _
        have z2 : w2.heap.size = wo.heap.size + 1 := by rw [hw2]; simp [World.size_alloc]
        have b2 : Row w2 wo.heap.size #[.slice none 0 0, .slice none 0 0, .bool false] tBook := by
          rw [hw2]
          exact (Row.new wo _ _).set_ne (show (⟨G, i, none⟩ : Addr).block ≠ wo.heap.size by show G ≠ _; omega) _
        have g2 : Row w2 G (ptrs bk' (i + 1) m) 42 := by
          have := (h0.out.alloc (.cells #[.slice none 0 0, .slice none 0 0, .bool false] 44 (0, 0))).set i (.pointer (some ⟨bk' i, 0, none⟩))
          rw [ptrs_set hlt HB2.out, HB1.out] at this
          rw [hw2]
          exact this
        have ne : ∀ {b : Nat} {c : Array Value} {T : TypeId}, Row wo b c T → T ≠ 42 → Row w2 b c T := fun {b c T} hr hT => hr.sm s2 fun e => by
          subst e
          have h5 := h0.out
          unfold Row at h5 hr
          rw [h5] at hr
          injection hr with hr
          injection hr with _ h3
          exact hT h3.symm
        have o2 : w2.ownsRow u.heap.size 48 1 (.slice a7 i c7) i (onceVs sb lb (G + 1) kb i) := own_sm hown.out s2 fun b hb e => by omega
        have q2 := ne hq.out (by decide)
        have k2 : ∀ j, j < i → (Row w2 (kb j) #[.int .i64 j] 3 ∧ G + 2 ≤ kb j) ∧ (Row w2 (bk j) #[.slice none 0 0, .slice none 0 0, .bool false] tBook ∧ G + 2 ≤ bk j) := fun j hj => ⟨⟨ne (hkb.out j hj).1.1 (by decide), (hkb.out j hj).1.2⟩, ⟨ne (hkb.out j hj).2.1 (by decide), (hkb.out j hj).2.2⟩⟩
        have x2 := ne h1.out (by decide)
        have l2 := ne h2.out (by decide)
        have hbi' : ∀ a b, a < i + 1 → b < i + 1 → a ≠ b → bk' a ≠ bk' b := fun a b ha hb hab => by
          have lt : ∀ j, j < i → bk j < wo.heap.size := fun j hj => (hkb.out j hj).2.1.lt
          by_cases ea : a = i
          · subst ea
            rw [HB1.out, HB2.out b (by omega)]
            have := lt b (by omega)
            omega
          · by_cases eb : b = i
            · subst eb
              rw [HB1.out, HB2.out a (by omega)]
              have := lt a (by omega)
              omega
            · rw [HB2.out a (by omega), HB2.out b (by omega)]
              exact hbi.out a b (by omega) (by omega) hab
        have S2 := Lib.hid (hS.out.trans s2)
        have B2 := Lib.hid b2
        have G2 := Lib.hid g2
        have O2 := Lib.hid o2
        have Q2 := Lib.hid q2
        have K2 := Lib.hid k2
        have X2 := Lib.hid x2
        have L2 := Lib.hid l2
        have BI := Lib.hid hbi'
        have HW2 := Lib.hid hw2
        have HZ2 := Lib.hid z2
        clear s2 z2 b2 g2 o2 q2 k2 x2 l2 hbi' hbi hw2 ne
        go_upto_region 14 with fail
        rw [← HW2.out]
        clear c1 c2 c3 c4 f4 c5 hq hown hkb h0 h1 h2 hS HW2
        have c1 := Q2.out.cell 0
        have hz2 : wo.heap.size < w2.heap.size := by have := HZ2.out; omega
        have d1 := Lib.hid (O2.out.alloc (.cells #[onceV sb lb (G + 1) kb' i] 48 (0, 0)))
        obtain ⟨fv, hfv⟩ : ∃ fv, fv = onceV sb lb (G + 1) kb' i := ⟨_, rfl⟩
        have hfv' : fv = .func (.func 41) #[] #[.pointer (some ⟨G + 1, 0, none⟩), .pointer (some ⟨q, 0, none⟩), .pointer (some ⟨sb, 0, none⟩), .pointer (some ⟨lb, 0, none⟩)] := by rw [hfv]; unfold onceV; rw [HK1.out]
        have HFV := Lib.hid hfv
        have HFV' := Lib.hid hfv'
        rw [← hfv, hfv'] at d1
        clear hfv hfv'
        go_wp2_with (at_builtin; refine wpList_append_own _ rfl (.tmp 48) (.tmp 50) 41 rfl u.heap.size 48 i0 .nilFunc 1 8 Try.underlying41 Hi.out Hz0.out Hz1.out Hz2.out rfl (by decide) _ i (onceVs sb lb (G + 1) kb i) rfl d1.out ⟨w2.heap.size, 0, none⟩ 1 1 [.func (.func 41) #[] #[.pointer (some ⟨G + 1, 0, none⟩), .pointer (some ⟨q, 0, none⟩), .pointer (some ⟨sb, 0, none⟩), .pointer (some ⟨lb, 0, none⟩)]] rfl rfl (new_cells w2 [.func (.func 41) #[] #[.pointer (some ⟨G + 1, 0, none⟩), .pointer (some ⟨q, 0, none⟩), .pointer (some ⟨sb, 0, none⟩), .pointer (some ⟨lb, 0, none⟩)]] 48) (by simp [Value.oneCell']) (by unfold maxLen; omega) (by omega) (by simp; omega) ?_)
        intro v' w4 hown4 hgr4 _
        have hw4 : Hid (w2.heap.size < w4.heap.size) := Lib.hid (by have := hgr4.size; simp at this; omega)
        have eq4 : Hid (Row w4 q #[.int .i64 i] 3) := Lib.hid ((Q2.out.alloc _).grown hgr4 (own_ne_row O2.out Q2.out (by decide)))
        have e0 : Hid (Row w4 G (ptrs bk' (i + 1) m) 42) := Lib.hid ((G2.out.alloc _).grown hgr4 (own_ne_row O2.out G2.out (by decide)))
        have e1 : Hid (Row w4 (G + 1) #[.slice (some ⟨G, 0, none⟩) m m] 40) := Lib.hid ((X2.out.alloc _).grown hgr4 (own_ne_row O2.out X2.out (by decide)))
        have e2 : Hid (Row w4 lb #[.slice (some ⟨g, 0, none⟩) m cap] 38) := Lib.hid ((L2.out.alloc _).grown hgr4 (own_ne_row O2.out L2.out (by decide)))
        have ek : Hid (∀ j, j < i + 1 → (Row w4 (kb' j) #[.int .i64 j] 3 ∧ G + 2 ≤ kb' j) ∧ (Row w4 (bk' j) #[.slice none 0 0, .slice none 0 0, .bool false] tBook ∧ G + 2 ≤ bk' j)) := Lib.hid (fun j hj => by
          by_cases e : j = i
          · subst e
            rw [HK1.out, HB1.out]
            exact ⟨⟨eq4.out, hqB.out⟩, (B2.out.alloc _).grown hgr4 (own_ne_row O2.out B2.out (by decide)), by omega⟩
          · rw [HK2.out j (by omega), HB2.out j (by omega)]
            obtain ⟨⟨k1, k2⟩, k3, k4⟩ := K2.out j (by omega)
            exact ⟨⟨(k1.alloc _).grown hgr4 (own_ne_row O2.out k1 (by decide)), k2⟩, (k3.alloc _).grown hgr4 (own_ne_row O2.out k3 (by decide)), k4⟩)
        have eo : Hid (w4.ownsRow u.heap.size 48 1 v' (i + 1) (onceVs sb lb (G + 1) kb' (i + 1))) := Lib.hid (by
          rw [onceVs_succ _ _ _ kb kb' i HK2.out, ← HFV.out, HFV'.out]
          exact hown4)
        have es : Hid (Sm (fun x => x = G) u w4) := Lib.hid (by
          have z := S2.out.size
          exact sm_then (G := fun x => u.heap.size ≤ x) S2.out (((Sm.refl _ _).alloc _).trans (sm_grown hgr4 fun k e => (O2.out.lt k e).1)) fun _ h => h)
        clear hgr4 hown4 Q2 G2 X2 L2 S2 B2 K2 O2 c1 d1
        obtain ⟨a8, c8, hv8⟩ := own_form0 eo.out
        subst hv8
        have c1 := eq4.out.cell 0
        have q0 : Row (w4.alloc (.cells #[.int .i64 0] 3 (0, 0))) w4.heap.size #[.int .i64 0] 3 := Row.new w4 _ _
        have q1 := q0.cell 0
        have q2 := q0.free 0
        have z0 : (w4.alloc (.cells #[.int .i64 0] 3 (0, 0))).heap.size = w4.heap.size + 1 := by simp [World.size_alloc]
        go_wp2_with fail
        have hsz := es.out.size
        refine ⟨⟨i + 1, bk', kb', w4.heap.size, by omega, rfl, Lib.hid (by have := Row.new w4 #[.int .i64 ((i + 1 : Nat) : Int)] 3; simpa using this), Lib.hid (by have := hw4.out; omega), Lib.hid (eo.out.alloc _), Lib.hid (fun j hj => ⟨⟨(ek.out j hj).1.1.alloc _, (ek.out j hj).1.2⟩, (ek.out j hj).2.1.alloc _, (ek.out j hj).2.2⟩), BI, Lib.hid (e0.out.alloc _), Lib.hid (e1.out.alloc _), Lib.hid (e2.out.alloc _), Lib.hid (es.out.alloc _)⟩, ?_⟩
        simp
        omega
      · have hii : i = m := by omega
        subst hii
        have j1 : ¬ (i : Int) < (i : Int) := by omega
        go_wp2
        have hP := Hu.out.2.2.2.2
        refine HK.out _ _ rfl ⟨_, bk, kb, by kernel_rfl, ⟨(stkJob S N n).frame _ u wo (fun b hb => ?_) hP.stk, hP.sb.sm hS.out (by omega), h2.out, h1.out, bools_sm hP.lists hS.out (by omega) (fun b hb e => by rw [HXX.out] at hb; omega), h0.out, fun j hj => ⟨(hkb.out j hj).2.1, by have := (hkb.out j hj).2.2; omega⟩, hbi.out, fun j hj => ⟨(hkb.out j hj).1.1, by have := (hkb.out j hj).1.2; omega⟩, ⟨_, by omega, hown.out⟩, hP.since.sm hS.out fun b hb => by omega⟩⟩
        have hb : b = S ∨ b = N := hb
        exact hS.out.block b (by rcases hb with rfl | rfl; exact hP.stk.stk.rS.lt; exact hP.stk.stk.rN.lt) (by omega)
  obtain ⟨v, bk, kb, f⟩ := y
  dsimp only at h8 ⊢
  clear h7
  show cps _ _ _ _ _ _
  repeat refine cps_seq O ?_
  (refine cps_region O ?_; simp only [List.size_toArray, List.length_cons, List.length_nil, Nat.reduceAdd, Nat.zero_add, List.range, List.range.loop])
  refine valE O rfl (.slice a0 n0 c0) rfl rfl (fun _ => by simp [go_sem]) (fun _ => by go_simp; try (first | rfl | (simp [*]))) ?_; try walk_nrm
  refine opK h8 (.slice (some ⟨g, 0, none⟩) m cap) rfl (by kernel_rfl) rfl (fun u hu _ => ⟨u, .inl (by have := hu.rlb.cell 0; go_simp), hu⟩) fun w9 h9 _ => ?_
  try walk_nrm
  refine valE O rfl (.int .i64 m) rfl rfl (fun _ => by simp [go_sem]) (fun _ => by go_simp; try (first | rfl | (simp [*]))) ?_; try walk_nrm
  clear h8
  obtain ⟨S4, hS4⟩ : ∃ S4, S4 = w9.heap.size := ⟨_, rfl⟩
  have h4x : (∀ j, j < m → bk j < S4 ∧ kb j < S4) ∧ C0 ≤ S4 ∧ G < S4 ∧ G + 1 < S4 := by
    obtain ⟨u, hu, hs⟩ := h9.tell
    rw [← hS4] at hs
    have := hu.rxb.lt
    refine ⟨fun j hj => ⟨?_, ?_⟩, by omega, by omega, by omega⟩
    · have := (hu.rbk j hj).1.lt; omega
    · have := (hu.rkb j hj).1.lt; omega
  refine callE O rfl (f := 27) (vals := #[.slice a0 n0 c0, .int .i64 m]) rfl rfl rfl Try.func27 rfl rfl rfl ?_
  refine order_g h9 a0 b0 f0 n0 c0 m xs HA.out.ha0 HA.out.hn0 (by omega) (fun u hu => gm_ints.keep W0 u hu.since.now HA.out.ints) fun vo w10 h10 hz10 => ?_
  rw [← hS4] at h10
  clear h9
  obtain ⟨ol, hol⟩ : ∃ ol, ol = ordL n0 xs m := ⟨_, rfl⟩
  have hol2 : ol.length ≤ 2000 := by rw [hol, ordL_len]; omega
  have hol3 : ∀ k ∈ ol, k < 9223372036854775808 := fun k hk => by
    rw [hol] at hk
    obtain ⟨j, _, rfl⟩ := List.mem_map.1 hk
    have := wi_lt (xs j) (m + 1) (by omega)
    omega
  rw [← hol] at h10
  clear hol
  obtain ⟨ao, co, hvo⟩ : ∃ a c, vo = .slice a ol.length c := by
    obtain ⟨u, hu, _⟩ := h10.tell
    exact own_form0 hu.1
  subst hvo
  obtain ⟨av, cv, hvv⟩ : ∃ a c, v = .slice a m c := by
    obtain ⟨u, hu, _⟩ := h10.tell
    obtain ⟨bs, _, hf⟩ := hu.2.thr
    exact own_form0 hf
  subst hvv
  try walk_nrm
  refine valE O rfl (.slice av m cv) rfl rfl (fun _ => by simp [go_sem]) (fun _ => by go_simp; try (first | rfl | (simp [*]))) ?_; try walk_nrm
  have hT := Kn.true rfl h10
  obtain ⟨hor, htm⟩ := hT
  refine callE O rfl (f := 31) (vals := #[.slice ao ol.length co, .slice av m cv]) rfl rfl rfl Try.func31 rfl rfl rfl ?_
  refine once_playC (S1 := S1) hW htm hor hBN hNS hNs hsS1 hgS ⟨hlS, hlC⟩ hgC (by omega) (by omega) (fun b hb => by rw [hX] at hb; exact hb) h4x.1 h4x.2 hm0 hm4 hn0 hn hol2 hol3 fun Wg k ta tn tc a b γ L0 L1 w11 hWg hsz hdone h11 => ?_
  have hfin : ∀ t' w', t'.getD 6 undef = .bool true → Kn ⟨some Wg, k⟩ (Gr W0) w' → Q ⟨some Wg, k⟩ .ret t' w' := fun t' w' h1 h2 => Hq.out Wg k t' w' hWg h1 h2
  have Hf := Lib.hid hfin
  have hold := once_old htm
  obtain ⟨old, hOld⟩ : ∃ old, old = oldOf (onceD sb lb (G + 1) G g m l ea kb) w10 := ⟨_, rfl⟩
  rw [← hOld] at h11 hold
  have HOld := Lib.hid hold
  clear hfin Hq h10 hor htm hOld hold
  show cpsR (envL Wm) _ _ _ ⟨some Wg, k⟩ _ _
  try walk_nrm
  refine valE O rfl (.tuple #[.agg #[.slice ta tn tc, .slice none 0 0], .int .i64 0]) rfl rfl (fun _ => by simp [go_sem]) (fun _ => by go_simp; try (first | rfl | (simp [*]))) ?_; try walk_nrm
  refine valE O rfl (.agg #[.slice ta tn tc, .slice none 0 0]) rfl rfl (fun _ => by simp [go_sem]) (fun _ => by go_simp; try (first | rfl | (simp [*]))) ?_; try walk_nrm
  refine valE O rfl (.int .i64 0) rfl rfl (fun _ => by simp [go_sem]) (fun _ => by go_simp; try (first | rfl | (simp [*]))) ?_; try walk_nrm
  obtain ⟨pl, hpl⟩ : ∃ pl, pl = w11.heap.size := ⟨_, rfl⟩
  have hgm : GM fun u => (bK B bk l S N n m old).core.Rep ((a, b), γ) u ∧ Since B (Gr W0) u := inferInstance
  have hfl : ∀ x, (bK B bk l S N n m old).core.foot ((a, b), γ) x → x < pl := fun x hx => by
    obtain ⟨u, hu, hs⟩ := h11.tell
    rw [hpl, ← hs]
    obtain ⟨o, ho, _⟩ := (bK B bk l S N n m old).core.real ((a, b), γ) u x hu.1 hx
    exact (Array.getElem?_eq_some_iff.1 ho).1
  have hBpl : B ≤ pl := by have := hfl S (.inl (.inl rfl)); omega
  refine opK (M' := fun u => Row u pl #[.slice none 0 0, .slice none 0 0] 81 ∧ ((bK B bk l S N n m old).core.Rep ((a, b), γ) u ∧ Since B (Gr W0) u)) h11 (.pointer (some ⟨pl, 0, none⟩)) rfl (by kernel_rfl) rfl (fun u hu hs => ⟨u.alloc (Obj.cells #[.slice none 0 0, .slice none 0 0] 81), .inl ?_, ?_⟩) fun w12 h12 _ => ?_
  · rw [hpl, ← hs]; go_simp
  · have hg : Gr u (u.alloc (Obj.cells #[.slice none 0 0, .slice none 0 0] 81)) := Gr.of_sm0 (F := fun _ => False) ((Sm.refl _ _).alloc _) fun _ h => h.elim
    exact ⟨by rw [hpl, ← hs]; exact Row.new u _ _, hgm.keep u _ hg hu⟩
  clear h11 hpl
  try walk_nrm
  refine opK (M' := fun u => Row u pl #[.slice ta tn tc, .slice none 0 0] 81 ∧ ((bK B bk l S N n m old).core.Rep ((a, b), γ) u ∧ Since B (Gr W0) u)) h12 undef rfl (by kernel_rfl) rfl (fun u hu hs => ⟨(u.setCell ⟨pl, 0, none⟩ (.slice ta tn tc)).setCell ⟨pl, 1, none⟩ (.slice none 0 0), .inr ⟨?_, rfl⟩, ?_⟩) fun w13 h13 _ => ?_
  · have hc0 := hu.1.cell 0
    have hf0 := hu.1.free 0
    have h1 := hu.1.set 0 (.slice ta tn tc)
    have hc1 := h1.cell 1
    have hf1 := h1.free 1
    go_simp
  · have hkeep : ∀ x, x < pl → ((u.setCell ⟨pl, 0, none⟩ (.slice ta tn tc)).setCell ⟨pl, 1, none⟩ (.slice none 0 0)).heap[x]? = u.heap[x]? := fun x hx =>
      (Below.heap_setCell _ _ _ _ (fun e => by have e : x = pl := e; omega)).trans (Below.heap_setCell _ _ _ _ (fun e => by have e : x = pl := e; omega))
    exact ⟨(hu.1.set 0 (.slice ta tn tc)).set 1 (.slice none 0 0), (bK B bk l S N n m old).core.frame _ u _ (fun x hx => hkeep x (hfl x hx)) hu.2.1, hu.2.2.sm (((Sm.refl (fun b => b = pl) _).setCell rfl _).setCell rfl _) fun x hx => by omega⟩
  clear h12
  try walk_nrm
  refine valE O rfl (.int .i64 0) rfl rfl (fun _ => by simp [go_sem]) (fun _ => by go_simp; try (first | rfl | (simp [*]))) ?_; try walk_nrm
  refine cpsR_nil O ?_
  show cps _ _ _ _ _ _
  repeat refine cps_seq O ?_
  refine aloneG (α := Nat) (fun y => #[.slice a0 n0 c0, .slice a1 n1 c1, .int .i64 bt, undef, undef, undef, .bool false, .int .i64 n, .pointer (some ⟨sb, 0, none⟩), .int .i64 0, .pointer (some ⟨lb, 0, none⟩), .pointer (some ⟨G + 1, 0, none⟩), .slice av m cv, f 13, .pointer (some ⟨pl, 0, none⟩), .int .i64 0, .bool true, .bool false, .int .i64 bt, .int .i64 (wi bt 4), .int .i64 n, .tuple #[.pointer (some ⟨S, 0, none⟩), .int .i64 0], .int .i64 n, .tuple #[.pointer (some ⟨S, 0, none⟩), .int .i64 0], .pointer (some ⟨S, 0, none⟩), .int .i64 0, .int .i64 0, .bool false, .bool false, .pointer (some ⟨S, 0, none⟩), .bool false, .bool false, .slice a1 n1 c1, .slice (some ⟨g, 0, none⟩) m cap, .slice (some ⟨g, 0, none⟩) m cap, .int .i64 m, .slice (some ⟨G, 0, none⟩) m m, f 37, f 38, f 39, f 40, f 41, f 42, f 43, f 44, f 45, f 46, f 47, f 48, f 49, f 50, f 51, f 52, .tuple #[.agg #[.slice ta tn tc, .slice none 0 0], .int .i64 0], .slice a0 n0 c0, .slice (some ⟨g, 0, none⟩) m cap, .int .i64 m, .slice ao ol.length co, .slice av m cv, .tuple #[.agg #[.slice ta tn tc, .slice none 0 0], .int .i64 0], .agg #[.slice ta tn tc, .slice none 0 0], .int .i64 0, .int .i64 0, .bool false, .bool false, .pointer (some ⟨pl, 1, none⟩), .slice none 0 0, .int .i64 0, .bool false, .bool false, undef, undef, undef, undef, undef, undef, undef, undef, undef, undef, undef]) (fun _ u => (bK B bk l S N n m old).core.Rep ((a, b), γ) u ∧ Since B (Gr W0) u) (hM := fun y => by infer_instance) h13 (by kernel_rfl) (fun u hu hs K hK => ?_) fun y w14 h14 hz14 => ?_
  · have c0 := hu.1.cell 1
    have Hu := Lib.hid hu.2
    clear hu
    go_wp2
    exact hK 0 _ _ rfl rfl Hu.out
  clear h13
  show cps _ _ _ _ _ _
  refine cps_cond O (v := false) rfl ?_
  simp only [Bool.false_eq_true, if_false]
  refine cps_skip O ?_
  show cps _ _ _ _ _ _
  repeat refine cps_seq O ?_
  refine aloneF (φ := fun _ t => t.getD 6 undef = .bool true) (M' := fun u => Since B (Gr W0) u) h14 (by kernel_rfl) (fun u hu hs K hK => ?_) fun t' w15 h15 hz15 => ?_
  · have hr := hu.1
    have hsn := hu.2
    obtain ⟨r1, r2, r3⟩ : SRep S N n a u ∧ PRep (bookP bk l S N n) m old (b, γ) u ∧ ∀ x, (x = S ∨ x = N) → ¬ (bookP bk l S N n).foots m old (b, γ) x := hr
    have hAS : AS S N n (lying a L0) u := ⟨_, _, _, _, _, r1.stk, hdone.stk⟩
    have hin : old.In u := r2.stat
    have hBk : Bks G m bk b γ u := ⟨fun k hk => hin.cell (HOld.out.gk k hk), fun k hk => r2.part k hk, cell_lt (hin.cell (HOld.out.gk 0 hm0))⟩
    have hGn : ¬ two S N G := fun h => by
      obtain ⟨o, ho, _⟩ := HOld.out.gk 0 hm0
      exact r3 G h (.inl (by have ho : old.ob G = some o := ho; rw [ho]; simp))
    have HE := Lib.hid (ends_c (gc := m) hn0 hn (lying a L0) u (by omega) hAS hBk hGn (fun j hj x hx h => r3 x h (.inr ⟨j, hj, hx⟩)) (once_lens hdone hm4) (hdone.settles hm4))
    have c0 := hin.cell HOld.out.sb
    have c1 := hin.cell HOld.out.xb
    have Hsn := Lib.hid hsn
    have HBS := Lib.hid (And.intro hBN hNS)
    clear hsn r1 r2 r3 hAS hin hBk hGn hX
    go_wp2_with fail
    refine HE.out.mono ?_
    rintro e u1 ⟨rfl, hsm⟩
    have Hsm := Lib.hid hsm
    clear hsm c0 c1
    go_wp2
    exact hK _ _ rfl rfl (Hsn.out.sm Hsm.out fun x hx => by have := HBS.out; rcases hx with rfl | rfl <;> omega)
  · obtain ⟨ht, h15⟩ := h15.sep
    show cps _ _ _ _ _ _
    exact cps_ret O (hQ _ _ _ _ (Hf.out _ _ ht (h15.mono fun u hu => hu.now)))
end
end Go.Proofs.Ytmcffabfghhpaaa
/- PROVED: patchbaylaw08.StackOnce answers true whatever it is given, in whatever order its threads' steps come by the scheduler, and leaves its arguments as they were. No condition. -/
namespace Go.Proofs.Ytmcffabfghhpaaa.stackOnce
open Go.Conc Go.ChangeShapes Go.WideShapes Go.ChangeAt Go.RowKit Go.Deep
set_option linter.unusedVariables false

theorem run {a0 : Option Addr} {b0 f0 n0 c0 : Nat} {xs : Nat → Int} {a1 : Option Addr} {b1 f1 n1 c1 : Nat} {V : Nat → Value} {bt : Int} (W : World) (hA : OnArg (fun b => b < W.heap.size) a0 b0 f0 n0 xs a1 b1 f1 n1 V W) :
    GoodEnd Try.prog (fun v W' => v = .bool true ∧ Gr W W') (solo (G (Frame.enter Try.prog 8 #[.slice a0 n0 c0, .slice a1 n1 c1, .int .i64 bt] .normal) []) W) #[] := by
  refine law_good (c := Try.f8.body.getD .skip) Try.func8 rfl (by decide) ?_
  simp only [Try.ntmps8]
  refine once_b back_goodEnd hA fun Wg k t' w' hWg ht h => ⟨rfl, .bool true, fun w₁ hR => ⟨#[], ?_, ⟨Nat.le_refl _, by simp⟩⟩, fun w₁ hR => ⟨rfl, gr_of_kn hWg (h.at hR)⟩⟩
  rw [Sem.runT_eq, results_tmp (t := 6) rfl, events_results_tmp (t := 6) rfl, ht]

section
variable {H : Type} {enc : TypeId × Value → H}
set_option maxRecDepth 100000 in
/-- A slice of slices of truths, opened. -/
theorem open_brows {W : World} {b0 : Nat} {v : Value} {d : DataW H} {p : List MemPlace}
    (hok : Value.okWide Try.prog W .any b0 38 v) (h : DataW.Trod enc Try.prog W 0 (fun _ => true) true 38 v d p) :
    ∃ a b off len cap V, v = .slice a len cap ∧ (0 < len → a = some ⟨b, off, none⟩) ∧ len ≤ 9223372036854775807 ∧ RowsArgB (fun b => b < W.heap.size) b off len V W := by
  obtain ⟨a0, len, cap, rfl⟩ := okWide_slice Try.underlying38 hok
  obtain ⟨fuel, hf⟩ := h
  rcases open_bool_rows Try.underlying38 Try.underlying22 Try.underlying4 (by kernel_rfl) (by kernel_rfl) hf with ⟨hcs, hx⟩ | ⟨a, len', cap', A, L, C, Z, hcs, _, hl, hm, hx, hr⟩
  · simp [Value.cells] at hcs
    obtain ⟨rfl, rfl, rfl⟩ := hcs
    exact ⟨none, 0, 0, 0, 0, fun _ => undef, rfl, fun h => absurd h (by decide), by omega, ⟨fun r h => absurd h (by omega), fun r h => absurd h (by omega), fun h => absurd h (by decide)⟩⟩
  · simp [Value.cells] at hcs
    obtain ⟨rfl, rfl, rfl⟩ := hcs
    unfold maxLen at hm
    by_cases h0 : len = 0
    · subst h0
      exact ⟨some a, 0, 0, 0, cap, fun _ => undef, rfl, fun h => absurd h (by decide), by omega, ⟨fun r h => absurd h (by omega), fun r h => absurd h (by omega), fun h => absurd h (by decide)⟩⟩
    · have c0 := (hr 0 (by omega)).1
      obtain ⟨b, off, rfl, hb, -⟩ := plain_at ⟨_, c0⟩ c0
      have add_p : ∀ (b off k : Nat), (⟨b, off, none⟩ : Addr).add k = ⟨b, off + k, none⟩ := fun b off k => by
        unfold Addr.add
        split <;> simp_all
      refine ⟨_, b, off, len, cap, fun r => .slice (A r) (L r) (C r), rfl, fun _ => rfl, by omega, ⟨fun r h => ?_, fun r h => ?_, fun _ => hb⟩⟩
      · rw [← add_p]
        exact (hr r (by omega)).1
      · obtain ⟨h1, h2, h3, h6, h7⟩ := hr r (by omega)
        refine ⟨L r, A r, L r, C r, rfl, Nat.le_refl _, h2, fun j hj => ?_⟩
        cases hA : A r with
        | none => have := h6 hA; omega
        | some a' =>
          obtain ⟨-, h8⟩ := h7 a' hA
          have d0 := h8 0 (by omega)
          obtain ⟨b', o', rfl, hb', hc'⟩ := plain_at ⟨_, d0⟩ (h8 j (by omega))
          exact ⟨b', o', Z r j, rfl, hb', hc', hb'⟩
end

set_option maxRecDepth 100000 in
theorem good (H : Type) (enc : TypeId × Value → H) (W : World) (base : Nat) (args : Array Value) (ds gs : List (DataW H)) (before : List MemPlace)
    (hval : ∀ (j : Nat) t v, Try.f8.params[j]? = some t → args[j]? = some v → Value.okWide Try.prog W .any base t v)
    (hW : DataW.Whole enc Try.prog Try.f8.params.toList Rows.stackOnceSpec.vars false W args.toList ds gs before) :
    GoodEnd Try.prog (fun v W' => Rows.stackOnceSpec.post enc Try.prog Try.f8 false true false false W args v W') (solo (G (Frame.enter Try.prog 8 args .normal) []) W) #[] := by
  have hW' := hW
  obtain ⟨p, q, hA0, hV, rfl, hfz, hnd⟩ := hW
  have hA : DataW.TrodAll enc Try.prog W 0 (fun _ => true) true Try.f8.params.toList args.toList ds p := hA0
  rw [Try.params8] at hA hval
  obtain ⟨v0, v1, v2, d0, d1, d2, p0, p1, p2, rfl, rfl, rfl, h0, h1, h2⟩ := trodAll_three hA
  obtain ⟨a0, b0, f0, n0, c0, xs, rfl, ha0, hn0, hi⟩ := open_i64s_arg (hval 0 53 v0 rfl rfl) h0
  obtain ⟨a1, b1, f1, n1, c1, V, rfl, ha1, hn1, hr⟩ := open_brows (hval 1 38 v1 rfl rfl) h1
  obtain ⟨x2, rfl, rfl, rfl, wx2⟩ := open_int Try.underlying3 (hval 2 3 v2 rfl rfl) h2
  obtain ⟨N, last, o, w', t', g1, g2, g3, g4⟩ := run (bt := x2) W ⟨ha0, hn0, hi, ha1, hn1, hr⟩
  refine ⟨N, last, o, w', t', g1, g2, g3, g4.mono fun v hv => ?_⟩
  obtain ⟨rfl, hg⟩ := hv
  exact law_post_gr laid_out (readable_of _ (by kernel_rfl)) rfl (tb := 4) (by kernel_rfl) Try.underlying4 hW' rfl hg

set_option maxRecDepth 100000 in
theorem lifted (os : Os) (started : os.Started) (H : Type) (enc : TypeId × Value → H) :
    ReturnsInLeavingWide {} Try.checked os 8 .any (Rows.stackOnceSpec.pre6 enc Try.prog Try.f8 Rows.stackOnceRow.domain false) (Rows.stackOnceSpec.post enc Try.prog Try.f8 false true false false) := by
  refine returnsInLeavingWide_of_change_sized (C := Try.checked) own_knob started Try.func8
    (ChangeSpec.witness6 (C := Try.checked) false ⟨#[], #[.slice none 0 0, .slice none 0 0, .int .i64 0], []⟩ 8 (by kernel_rfl) (by kernel_rfl) (by kernel_rfl) (by kernel_rfl)) ?_
  intro W base args ds gs before hval hW _ _ _
  exact good H enc W base args ds gs before hval hW

theorem proved : Rows.StackOnceSaid :=
  OpenClaim.holds_of_wide_leaving 8 Try.f8 rfl rfl rfl rfl rfl rfl rfl ⟨rfl, rfl, rfl, rfl, rfl⟩ rfl rfl rfl rfl rfl (by kernel_rfl) Try.func8 (by kernel_rfl)
    (of_decide_eq_true (by kernel_rfl)) (by unfold Func.isWrapper; first | (rw [if_pos (by decide +kernel)]; kernel_rfl) | (rw [if_neg (by decide +kernel)]; exact ⟨rfl, rfl⟩))
    (fun os started H enc _ => lifted os started H enc)
#print axioms proved
end Go.Proofs.Ytmcffabfghhpaaa.stackOnce
