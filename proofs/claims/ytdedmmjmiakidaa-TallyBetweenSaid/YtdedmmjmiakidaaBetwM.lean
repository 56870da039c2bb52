/- PROVED: patchbaylaw11.TallyBetween answers true whatever it is given, in whatever order its threads' steps come by the scheduler, and leaves its arguments as they were. No condition. -/
import Derived.Test.YtdedmmjmiakidaaBetwMAC
import Derived.Test.YtdedmmjmiakidaaFwAJ
import Derived.Deep.Cut
import Derived.Deep.Matrix
set_option linter.unusedVariables false
set_option linter.unusedSimpArgs false
/- Plain words: TallyBetween, by goroutine 0. No condition. -/
namespace Go.Proofs.Ytdedmmjmiakidaa
open Go.Conc Go.RowKit
set_option linter.unusedVariables false
set_option linter.unusedSimpArgs false
instance gm_rowsX {X : Nat → Prop} {b off n : Nat} {V : Nat → Value} : GM (RowsArgX X b off n V) := ⟨fun u u' h q => ⟨fun r hr => by
  have := q.hd r hr
  rw [gr_cell h (cell_lt this)]; exact this, fun r hr => by
  obtain ⟨m, a, l, c, e, h1, h2, h3⟩ := q.ok r hr
  exact ⟨m, a, l, c, e, h1, h2, fun j hj => by
    obtain ⟨b, o, x, g1, g2, g3, g4, g5⟩ := h3 j hj
    exact ⟨b, o, x, g1, Nat.lt_of_lt_of_le g2 h.size, g3, by rw [gr_cell h g2]; exact g4, g5⟩⟩, fun h0 => Nat.lt_of_lt_of_le (q.old h0) h.size⟩⟩
/-- What is handed in. -/
structure BeArg (X : Nat → Prop) (a0 : Option Addr) (b0 f0 n0 : Nat) (xs : Nat → Int) (a1 : Option Addr) (b1 f1 n1 : Nat) (V : Nat → Value) (W0 : World) : Prop where
  ha0 : 0 < n0 → a0 = some ⟨b0, f0, none⟩
  hn0 : n0 ≤ 9223372036854775807
  ints : IntsArg b0 f0 n0 xs W0
  ha1 : 0 < n1 → a1 = some ⟨b1, f1, none⟩
  hn1 : n1 ≤ 9223372036854775807
  rows : RowsArgX X b1 f1 n1 V W0
theorem info_fnT : (Try.prog.info? 94).map (fun i => (i.zero, i.size, i.bytes)) = some (some .nilFunc, 1, 8) := by kernel_rfl
/-- What lies there ahead of the loop. -/
structure BwP (W0 : World) (B T A H P N rb pb bb eb ob g m cap : Nat) (X : Nat → Prop) (Z : Nat → List Nat) (ea : Nat → Option Addr) (ec : Nat → Nat) (u : World) : Prop where
  pr : Pr P T A H N (List.replicate N 0) (List.replicate 67 0) u
  rrb : Row u rb #[.slice (some ⟨g, 0, none⟩) m cap] 34
  rpb : Row u pb #[.pointer (some ⟨P, 0, none⟩)] 65
  nums : NumsOwn X g m 10 Z ea ec u
  rbb : Row u bb #[.int .u64 0] 23
  reb : Row u eb #[.int .u64 0] 23
  rob : Row u ob #[.bool true] 4
  since : Since B (Gr W0) u
instance gm_bwP {W0 : World} {B T A H P N rb pb bb eb ob g m cap : Nat} {X : Nat → Prop} {Z : Nat → List Nat} {ea : Nat → Option Addr} {ec : Nat → Nat} : GM (BwP W0 B T A H P N rb pb bb eb ob g m cap X Z ea ec) := ⟨fun u u' h q =>
  ⟨gm_pr.keep u u' h q.pr, gm_row.keep u u' h q.rrb, gm_row.keep u u' h q.rpb, gm_nums.keep u u' h q.nums, gm_row.keep u u' h q.rbb, gm_row.keep u u' h q.reb, gm_row.keep u u' h q.rob, gm_since.keep u u' h q.since⟩⟩
section
variable {Wm : Machine → Trace → Prop} {W0 : World}
set_option maxRecDepth 100000 in
set_option maxHeartbeats 8000000 in
theorem between_b (hW : Back Try.prog Wm) {a0 : Option Addr} {b0 f0 n0 c0 : Nat} {xs : Nat → Int} {a1 : Option Addr} {b1 f1 n1 c1 : Nat} {V : Nat → Value} {sh : Int} (hA : BeArg (fun b => b < W0.heap.size) a0 b0 f0 n0 xs a1 b1 f1 n1 V W0) {Q : LX → Exit → Array Value → World → Prop}
    (hq : ∀ Wg k t' w', W0.heap.size ≤ Wg → t'.getD 6 undef = .bool true → Kn ⟨some Wg, k⟩ (Gr W0) w' → Q ⟨some Wg, k⟩ .ret t' w') :
    cps (envL Wm) (Try.f9.body.getD .skip) Q ⟨none, 1⟩ (#[.slice a0 n0 c0, .slice a1 n1 c1, .int .i64 sh] ++ Array.replicate 83 undef) W0 := by
  have O := envL_ok (W := Wm)
  obtain ⟨B, hB⟩ : ∃ B, B = W0.heap.size := ⟨_, rfl⟩
  have HA := Lib.hid hA
  rw [← hB] at hq
  have Hq := Lib.hid hq
  clear hq hA
  refine cps_opaque fun Q' hQ => ?_
  walk_nrmf Try.f9
  have h : Kn (⟨none, 1⟩ : LX) (Since B (Gr W0)) W0 := by rw [hB]; exact (Kn.of_true rfl (Gr.refl W0)).since
  have HB := Lib.hid hB
  clear hB
  repeat refine cps_seq O ?_
  refine aloneG (α := Nat) (fun rb => #[.slice a0 n0 c0, .slice a1 n1 c1, .int .i64 sh, undef, .pointer (some ⟨rb, 0, none⟩), undef, .bool false, undef, undef, undef, undef, undef, undef, undef, undef, undef, undef, undef, undef, undef, undef, undef, undef, undef, undef, undef, undef, undef, undef, undef, undef, undef, undef, undef, undef, undef, undef, undef, undef, undef, undef, undef, undef, undef, undef, undef, undef, undef, undef, undef, undef, undef, undef, undef, undef, undef, undef, undef, undef, undef, undef, undef, undef, undef, undef, undef, undef, undef, undef, undef, undef, undef, undef, undef, undef, undef, undef, undef, undef, undef, undef, undef, undef, undef, undef, undef]) (fun rb u => (B ≤ rb ∧ rb < u.heap.size) ∧ Row u rb #[.slice a1 n1 c1] 34 ∧ Since B (Gr W0) u) (hM := fun y => ⟨fun u u' e1 e2 e3 q => ⟨by rw [e1]; exact q.1, (inferInstance : HO fun u => Row u y #[.slice a1 n1 c1] 34 ∧ Since B (Gr W0) u).eq u u' e1 e2 e3 q.2⟩⟩) h (by kernel_rfl) (fun u hu hs K hK => ?_) fun rb w1 h1 hz1 => ?_
  · have hBu : B ≤ u.heap.size := by obtain ⟨u0, _, q2, q3⟩ := hu; rw [← q3]; exact q2.size
    have hsm : Sm (fun _ => False) u (u.alloc (.cells #[.slice a1 n1 c1] 34 (0, 0))) := (Sm.refl _ _).alloc _
    have Hall := Lib.hid (And.intro (And.intro hBu (show u.heap.size < (u.alloc (.cells #[.slice a1 n1 c1] 34 (0, 0))).heap.size by simp)) (And.intro (Row.new u #[.slice a1 n1 c1] 34) (GM.sm hsm hu)))
    clear hu hs hBu hsm
    go_wp2
    exact hK u.heap.size _ _ rfl rfl Hall.out
  clear h
  have hrbz : B ≤ rb ∧ rb < w1.heap.size := by
    obtain ⟨u, hu, hs⟩ := h1.tell
    rw [← hs]; exact hu.1
  have h1 : Kn (⟨none, 1⟩ : LX) (fun u => Row u rb #[.slice a1 n1 c1] 34 ∧ Since B (Gr W0) u) w1 := h1.mono fun u hu => hu.2
  show cps _ _ _ _ _ _
  repeat refine cps_seq O ?_
  obtain ⟨N, hN⟩ : ∃ N : Nat, N = 1 + wi sh 8 := ⟨_, rfl⟩
  have hN1 : 0 < N := by omega
  have hN8 : N ≤ 8 := by have := wi_lt sh 8 (by decide); omega
  have HN := Lib.hid hN
  clear hN
  refine aloneG (α := (Nat × Nat × Nat × Nat) × Nat) (fun y => #[.slice a0 n0 c0, .slice a1 n1 c1, .int .i64 sh, undef, .pointer (some ⟨rb, 0, none⟩), undef, .bool false, .pointer (some ⟨y.2, 0, none⟩), undef, undef, undef, undef, undef, undef, undef, undef, undef, .int .i64 sh, .int .i64 (wi sh 8), .int .i64 N, .pointer (some ⟨y.1.1, 0, none⟩), undef, undef, undef, undef, undef, undef, undef, undef, undef, undef, undef, undef, undef, undef, undef, undef, undef, undef, undef, undef, undef, undef, undef, undef, undef, undef, undef, undef, undef, undef, undef, undef, undef, undef, undef, undef, undef, undef, undef, undef, undef, undef, undef, undef, undef, undef, undef, undef, undef, undef, undef, undef, undef, undef, undef, undef, undef, undef, undef, undef, undef, undef, undef, undef, undef]) (fun y u => (rb < y.1.2.2.1 ∧ y.1.1 < y.2 ∧ y.2 < u.heap.size) ∧ Pr y.1.1 y.1.2.1 y.1.2.2.1 y.1.2.2.2 N (List.replicate N 0) (List.replicate 67 0) u ∧ Row u y.2 #[.pointer (some ⟨y.1.1, 0, none⟩)] 65 ∧ Row u rb #[.slice a1 n1 c1] 34 ∧ Since B (Gr W0) u)
    (hM := fun y => ⟨fun u u' e1 e2 e3 q => ⟨by rw [e1]; exact q.1, (by infer_instance : HO fun u => Pr y.1.1 y.1.2.1 y.1.2.2.1 y.1.2.2.2 N (List.replicate N 0) (List.replicate 67 0) u ∧ Row u y.2 #[.pointer (some ⟨y.1.1, 0, none⟩)] 65 ∧ Row u rb #[.slice a1 n1 c1] 34 ∧ Since B (Gr W0) u).eq u u' e1 e2 e3 q.2⟩⟩) h1 (by kernel_rfl) (fun u hu hs K hK => ?_) fun y w2 h2 hz2 => ?_
  · have hru := hu.1.lt
    have Hu := Lib.hid hu
    clear hu
    go_wp2_with fail
    refine (within_c sh 8 (by decide) (by decide) u).mono ?_
    rintro e u1 ⟨rfl, rfl⟩
    have hn : wrap64 (1 + wi sh 8) = (N : Int) := by have := HN.out; have := wi_lt sh 8 (by decide); unfold wrap64; omega
    have hn' : IntKind.i64.wrap (1 + wi sh 8) = (N : Int) := by have := HN.out; rw [IntKind.wrap_i64]; omega
    go_wp2_with fail
    refine (made_c N hN1 (by omega) u).mono ?_
    rintro e u2 ⟨P, T, A, H, hAB, rfl, hp, hsm⟩
    have hPl := hp.rP.lt
    have hsm2 : Sm (fun _ => False) u2 (u2.alloc (.cells #[.pointer (some ⟨P, 0, none⟩)] 65 (0, 0))) := (Sm.refl _ _).alloc _
    have hrw : Row (u2.alloc (.cells #[.pointer none] 65 (0, 0))) u2.heap.size #[.pointer none] 65 := Row.new u2 _ _
    have Hall := Lib.hid (And.intro (show rb < A ∧ P < u2.heap.size ∧ u2.heap.size < (u2.alloc (.cells #[.pointer (some ⟨P, 0, none⟩)] 65 (0, 0))).heap.size from ⟨by omega, hPl, by simp⟩) (And.intro (gm_pr.keep _ _ (Gr.sm0 hsm2) hp) (And.intro (Row.new u2 #[.pointer (some ⟨P, 0, none⟩)] 65) (And.intro (gm_row.keep _ _ ((Gr.sm0 hsm).trans (Gr.sm0 hsm2)) Hu.out.1) (gm_since.keep _ _ ((Gr.sm0 hsm).trans (Gr.sm0 hsm2)) Hu.out.2)))))
    have q1 := hrw.cell 0
    have q2 := hrw.free 0
    clear hp hsm hsm2 hrw hPl hs hn hn' hAB hru hrbz hz1
    go_wp2
    exact hK ((P, T, A, H), u2.heap.size) _ _ rfl rfl Hall.out
  obtain ⟨⟨P, T, A, H⟩, pb⟩ := y
  dsimp only at h2 ⊢
  have hpz : rb < A ∧ P < pb ∧ pb < w2.heap.size := by
    obtain ⟨u, hu, hs⟩ := h2.tell
    rw [← hs]; exact hu.1
  have hord : A < T ∧ T < H ∧ H < P := by
    obtain ⟨u, hu, hs⟩ := h2.tell
    exact ⟨hu.2.1.aT, hu.2.1.tH, hu.2.1.hP⟩
  have h2 : Kn (⟨none, 1⟩ : LX) (fun u => Pr P T A H N (List.replicate N 0) (List.replicate 67 0) u ∧ Row u pb #[.pointer (some ⟨P, 0, none⟩)] 65 ∧ Row u rb #[.slice a1 n1 c1] 34 ∧ Since B (Gr W0) u) w2 := h2.mono fun u hu => hu.2
  clear h1
  show cps _ _ _ _ _ _
  repeat refine cps_seq O ?_
  refine aloneG (α := Nat) (fun y => #[.slice a0 n0 c0, .slice a1 n1 c1, .int .i64 sh, undef, .pointer (some ⟨rb, 0, none⟩), undef, .bool false, .pointer (some ⟨pb, 0, none⟩), undef, undef, undef, undef, undef, undef, undef, undef, undef, .int .i64 sh, .int .i64 (wi sh 8), .int .i64 N, .pointer (some ⟨P, 0, none⟩), .pointer (some ⟨P, 0, none⟩), .bool false, .bool false, .bool true, .bool false, .bool false, undef, undef, undef, undef, undef, undef, undef, undef, undef, undef, undef, undef, undef, undef, undef, undef, undef, undef, undef, undef, undef, undef, undef, undef, undef, undef, undef, undef, undef, undef, undef, undef, undef, undef, undef, undef, undef, undef, undef, undef, undef, undef, undef, undef, undef, undef, undef, undef, undef, undef, undef, undef, undef, undef, undef, undef, undef, undef, undef]) (fun y u => Pr P T A H N (List.replicate N 0) (List.replicate 67 0) u ∧ Row u pb #[.pointer (some ⟨P, 0, none⟩)] 65 ∧ Row u rb #[.slice a1 n1 c1] 34 ∧ Since B (Gr W0) u) (hM := fun y => by infer_instance) h2 (by kernel_rfl) (fun u hu hs K hK => ?_) fun y w3 h3 hz3 => ?_
  · have c1 := hu.2.1.cell 0
    have Hu := Lib.hid hu
    clear hu
    go_wp2_with fail
    refine (awake_c u).mono ?_
    rintro e u1 ⟨rfl, hsm⟩
    have Hsm := Lib.hid hsm
    clear hsm c1
    go_wp2
    exact hK 0 _ _ rfl rfl ⟨gm_pr.keep _ _ (Gr.sm0 Hsm.out) Hu.out.1, gm_row.keep _ _ (Gr.sm0 Hsm.out) Hu.out.2.1, gm_row.keep _ _ (Gr.sm0 Hsm.out) Hu.out.2.2.1, gm_since.keep _ _ (Gr.sm0 Hsm.out) Hu.out.2.2.2⟩
  clear h2
  show cps _ _ _ _ _ _
  refine cps_cond O (v := false) rfl ?_
  simp only [Bool.false_eq_true, if_false]
  refine cps_skip O ?_
  show cps _ _ _ _ _ _
  repeat refine cps_seq O ?_
  obtain ⟨S1, hS1⟩ : ∃ S1, S1 = w3.heap.size := ⟨_, rfl⟩
  have hpS : pb < S1 := by omega
  have HS1 := Lib.hid hS1
  clear hS1
  refine aloneG (α := (Nat × Nat × Nat) × (Nat → List Nat) × (Nat → Option Addr) × (Nat → Nat)) (fun y => #[.slice a0 n0 c0, .slice a1 n1 c1, .int .i64 sh, undef, .pointer (some ⟨rb, 0, none⟩), undef, .bool false, .pointer (some ⟨pb, 0, none⟩), undef, undef, undef, undef, undef, undef, undef, undef, undef, .int .i64 sh, .int .i64 (wi sh 8), .int .i64 N, .pointer (some ⟨P, 0, none⟩), .pointer (some ⟨P, 0, none⟩), .bool false, .bool false, .bool true, .bool false, .bool false, .slice a1 n1 c1, .slice (some ⟨y.1.1, 0, none⟩) y.1.2.1 y.1.2.2, undef, undef, undef, undef, undef, undef, undef, undef, undef, undef, undef, undef, undef, undef, undef, undef, undef, undef, undef, undef, undef, undef, undef, undef, undef, undef, undef, undef, undef, undef, undef, undef, undef, undef, undef, undef, undef, undef, undef, undef, undef, undef, undef, undef, undef, undef, undef, undef, undef, undef, undef, undef, undef, undef, undef, undef, undef])
    (fun y u => (0 < y.1.2.1 ∧ y.1.2.1 ≤ 6 ∧ S1 ≤ y.1.1 ∧ y.1.1 < u.heap.size) ∧ NumsOwn (fun b => b < B ∨ (S1 ≤ b ∧ b < u.heap.size)) y.1.1 y.1.2.1 10 y.2.1 y.2.2.1 y.2.2.2 u ∧ Pr P T A H N (List.replicate N 0) (List.replicate 67 0) u ∧ Row u pb #[.pointer (some ⟨P, 0, none⟩)] 65 ∧ Row u rb #[.slice (some ⟨y.1.1, 0, none⟩) y.1.2.1 y.1.2.2] 34 ∧ Since B (Gr W0) u)
    (hM := fun y => ⟨fun u u' e1 e2 e3 q => by
      have hg : Gr u u' := ⟨by rw [e1]; exact Nat.le_refl _, fun b _ => by rw [e1], e2, e3⟩
      rw [e1]
      exact ⟨q.1, gm_nums.keep u u' hg q.2.1, gm_pr.keep u u' hg q.2.2.1, gm_row.keep u u' hg q.2.2.2.1, gm_row.keep u u' hg q.2.2.2.2.1, gm_since.keep u u' hg q.2.2.2.2.2⟩⟩) h3 (by kernel_rfl) (fun u hu hs K hK => ?_) fun y w4 h4 hz4 => ?_
  · have Hu := Lib.hid hu
    have cr := hu.2.2.1.cell 0
    clear hu
    have hrows : RowsArgX (fun b => b < B ∨ S1 ≤ b) b1 f1 n1 V u := by
      have h := HA.out.rows
      have hg : Gr W0 u := Hu.out.2.2.2.now
      have h := gm_rowsX.keep W0 u hg h
      exact ⟨h.hd, fun r hr => by
        obtain ⟨m, a, l, c, e, h1, h2, h3⟩ := h.ok r hr
        exact ⟨m, a, l, c, e, h1, h2, fun j hj => by
          obtain ⟨b, o, x, g1, g2, g3, g4, g5⟩ := h3 j hj
          exact ⟨b, o, x, g1, g2, g3, g4, .inl (by rw [HB.out]; exact g5)⟩⟩, h.old⟩
    have HR := Lib.hid hrows
    have Hs := Lib.hid hs
    clear hrows hs
    go_wp2_with fail
    refine (few_cX (X := fun b => b < B ∨ S1 ≤ b) a1 b1 f1 n1 c1 10 V HA.out.ha1 HA.out.hn1 (by decide) (by decide) u (fun b hb => .inr (by have := HS1.out; have := Hs.out; omega)) HR.out).mono ?_
    rintro e u1 ⟨v0, xs0, rfl, hown, hx0, hx6, hgood, hsm⟩
    obtain ⟨g, cap, hv0⟩ := own_form hown hx0
    subst hv0
    obtain ⟨m, hm⟩ : ∃ m, m = xs0.length := ⟨_, rfl⟩
    rw [← hm] at hown hx0 hx6
    rw [← hm]
    obtain ⟨Z, ea, ec, q1⟩ := nums_of hm hown hgood
    have hg := hown.lt g rfl
    have hg1 : S1 ≤ g := by have := HS1.out; have := Hs.out; omega
    have hrr : Row u1 rb #[.slice a1 n1 c1] 34 := gm_row.keep _ _ (Gr.sm0 hsm) Hu.out.2.2.1
    have hrb1 : rb < S1 := by omega
    obtain ⟨u2, hu2⟩ : ∃ u2, u2 = u1.setCell ⟨rb, 0, none⟩ (.slice (some ⟨g, 0, none⟩) m cap) := ⟨_, rfl⟩
    have hs2 : Sm (fun b => b = rb) u1 u2 := by rw [hu2]; exact (Sm.refl (fun b => b = rb) _).setCell rfl _
    have hz2' : u2.heap.size = u1.heap.size := by rw [hu2]; simp
    have hr2 : Row u2 rb #[.slice (some ⟨g, 0, none⟩) m cap] 34 := by rw [hu2]; exact hrr.set 0 _
    have hnums : NumsOwn (fun b => b < B ∨ (S1 ≤ b ∧ b < u2.heap.size)) g m 10 Z ea ec u2 := by
      refine ⟨fun r hr => ?_, q1.le, q1.lt, fun r hr j hj => ?_⟩
      · have hc := q1.hd r hr
        have hb : u2.heap[g]? = u1.heap[g]? := hs2.block g (by omega) (by omega)
        unfold World.cell? at hc ⊢
        rw [hb]; exact hc
      · obtain ⟨b, o, z1, z2, z3, z4⟩ := q1.dat r hr j hj
        have hb : u2.heap[b]? = u1.heap[b]? := hs2.block b z2 (by rcases z4 with z4 | z4 <;> omega)
        refine ⟨b, o, z1, by omega, ?_, z4.imp id fun h => ⟨h, by omega⟩⟩
        unfold World.cell? at z3 ⊢
        rw [hb]; exact z3
    have hpr2 : Pr P T A H N (List.replicate N 0) (List.replicate 67 0) u2 := (gm_pr.keep _ _ (Gr.sm0 hsm) Hu.out.1).sm hs2 fun b h1 h2 e => by omega
    have hpb2 : Row u2 pb #[.pointer (some ⟨P, 0, none⟩)] 65 := (gm_row.keep _ _ (Gr.sm0 hsm) Hu.out.2.1).sm hs2 (by omega)
    have hsn : Since B (Gr W0) u2 := (gm_since.keep _ _ (Gr.sm0 hsm) Hu.out.2.2.2).sm hs2 fun b hb => by omega
    have Hall := Lib.hid (And.intro (show 0 < m ∧ m ≤ 6 ∧ S1 ≤ g ∧ g < u2.heap.size from ⟨hx0, hx6, hg1, by omega⟩) (And.intro hnums (And.intro hpr2 (And.intro hpb2 (And.intro hr2 hsn)))))
    have c1 := hrr.cell 0
    have c2 := hrr.free 0
    have HU2 := Lib.hid hu2
    clear hsm hown hgood q1 hm hg hg1 hrr hs2 hz2' hr2 hnums hpr2 hpb2 hsn hu2 cr
    go_wp2
    rw [← HU2.out]
    exact hK ((g, m, cap), Z, ea, ec) _ _ rfl rfl Hall.out
  obtain ⟨⟨g, m, cap⟩, Z, ea, ec⟩ := y
  dsimp only at h4 ⊢
  clear h3
  show cps _ _ _ _ _ _
  obtain ⟨C0, hC0⟩ : ∃ C0, C0 = w4.heap.size := ⟨_, rfl⟩
  obtain ⟨X, hX⟩ : ∃ X : Nat → Prop, X = fun b => b < B ∨ (S1 ≤ b ∧ b < C0) := ⟨_, rfl⟩
  obtain ⟨⟨hm0, hm6, hgS, hgC⟩, h4⟩ : (0 < m ∧ m ≤ 6 ∧ S1 ≤ g ∧ g < C0) ∧ Kn ⟨none, 1⟩ (fun u => NumsOwn X g m 10 Z ea ec u ∧ Pr P T A H N (List.replicate N 0) (List.replicate 67 0) u ∧ Row u pb #[.pointer (some ⟨P, 0, none⟩)] 65 ∧ Row u rb #[.slice (some ⟨g, 0, none⟩) m cap] 34 ∧ Since B (Gr W0) u) w4 := by
    have h6 := h4.size
    refine Kn.sep (h6.mono fun u hu => ?_)
    obtain ⟨⟨q1, q2⟩, q3⟩ := hu
    have q3 : u.heap.size = C0 := by rw [hC0]; exact q3
    simp only [q3] at q1 q2
    exact ⟨q1, by rw [hX]; exact q2⟩
  have HC0 := Lib.hid hC0
  have HX := Lib.hid hX
  clear hC0 hX
  repeat refine cps_seq O ?_
  refine aloneG (α := Nat) (fun y => #[.slice a0 n0 c0, .slice a1 n1 c1, .int .i64 sh, undef, .pointer (some ⟨rb, 0, none⟩), undef, .bool false, .pointer (some ⟨pb, 0, none⟩), .pointer (some ⟨C0, 0, none⟩), .pointer (some ⟨C0 + 1, 0, none⟩), undef, undef, undef, undef, undef, undef, undef, .int .i64 sh, .int .i64 (wi sh 8), .int .i64 N, .pointer (some ⟨P, 0, none⟩), .pointer (some ⟨P, 0, none⟩), .bool false, .bool false, .bool true, .bool false, .bool false, .slice a1 n1 c1, .slice (some ⟨g, 0, none⟩) m cap, undef, undef, undef, undef, undef, undef, undef, undef, undef, undef, undef, undef, undef, undef, undef, undef, undef, undef, undef, undef, undef, undef, undef, undef, undef, undef, undef, undef, undef, undef, undef, undef, undef, undef, undef, undef, undef, undef, undef, undef, undef, undef, undef, undef, undef, undef, undef, undef, undef, undef, undef, undef, undef, undef, undef, undef, undef]) (fun y u => Row u C0 #[.int .u64 0] 23 ∧ Row u (C0 + 1) #[.int .u64 0] 23 ∧ NumsOwn X g m 10 Z ea ec u ∧ Pr P T A H N (List.replicate N 0) (List.replicate 67 0) u ∧ Row u pb #[.pointer (some ⟨P, 0, none⟩)] 65 ∧ Row u rb #[.slice (some ⟨g, 0, none⟩) m cap] 34 ∧ Since B (Gr W0) u) (hM := fun y => by infer_instance) h4 (by kernel_rfl) (fun u hu hs K hK => ?_) fun y w5 h5 hz5 => ?_
  · have hCu : C0 = u.heap.size := by rw [HC0.out, hs]
    have hsm : Sm (fun _ => False) u ((u.alloc (.cells #[.int .u64 0] 23 (0, 0))).alloc (.cells #[.int .u64 0] 23 (0, 0))) := ((Sm.refl _ _).alloc _).alloc _
    have r0 : Row ((u.alloc (.cells #[.int .u64 0] 23 (0, 0))).alloc (.cells #[.int .u64 0] 23 (0, 0))) C0 #[.int .u64 0] 23 := by rw [hCu]; exact (Row.new u _ _).alloc _
    have r1 : Row ((u.alloc (.cells #[.int .u64 0] 23 (0, 0))).alloc (.cells #[.int .u64 0] 23 (0, 0))) (C0 + 1) #[.int .u64 0] 23 := by
      have := Row.new (u.alloc (.cells #[.int .u64 0] 23 (0, 0))) #[.int .u64 0] 23
      rw [World.size_alloc, ← hCu] at this
      exact this
    have Hall := Lib.hid (And.intro r0 (And.intro r1 (And.intro (gm_nums.keep _ _ (Gr.sm0 hsm) hu.1) (And.intro (gm_pr.keep _ _ (Gr.sm0 hsm) hu.2.1) (And.intro (gm_row.keep _ _ (Gr.sm0 hsm) hu.2.2.1) (And.intro (gm_row.keep _ _ (Gr.sm0 hsm) hu.2.2.2.1) (gm_since.keep _ _ (Gr.sm0 hsm) hu.2.2.2.2)))))))
    have e0 := r0.cell 0
    have e1 := r0.free 0
    have e2 := r1.cell 0
    have e3 := r1.free 0
    have HCU := Lib.hid hCu
    clear hu r0 r1 hsm hs h4
    rw [hCu] at e0 e1 e2 e3
    clear hCu
    go_wp2
    all_goals first
      | exact hK 0 _ _ rfl (by rw [HCU.out]) Hall.out
      | skip
  clear h4
  show cps _ _ _ _ _ _
  repeat refine cps_seq O ?_
  refine aloneG (α := Nat) (fun ob => #[.slice a0 n0 c0, .slice a1 n1 c1, .int .i64 sh, undef, .pointer (some ⟨rb, 0, none⟩), undef, .bool false, .pointer (some ⟨pb, 0, none⟩), .pointer (some ⟨C0, 0, none⟩), .pointer (some ⟨C0 + 1, 0, none⟩), .pointer (some ⟨ob, 0, none⟩), undef, undef, undef, undef, undef, undef, .int .i64 sh, .int .i64 (wi sh 8), .int .i64 N, .pointer (some ⟨P, 0, none⟩), .pointer (some ⟨P, 0, none⟩), .bool false, .bool false, .bool true, .bool false, .bool false, .slice a1 n1 c1, .slice (some ⟨g, 0, none⟩) m cap, undef, undef, undef, undef, undef, undef, undef, undef, undef, undef, undef, undef, undef, undef, undef, undef, undef, undef, undef, undef, undef, undef, undef, undef, undef, undef, undef, undef, undef, undef, undef, undef, undef, undef, undef, undef, undef, undef, undef, undef, undef, undef, undef, undef, undef, undef, undef, undef, undef, undef, undef, undef, undef, undef, undef, undef, undef]) (fun ob u => C0 + 1 < ob ∧ BwP W0 B T A H P N rb pb C0 (C0 + 1) ob g m cap X Z ea ec u) (hM := fun y => by infer_instance) h5 (by kernel_rfl) (fun u hu hs K hK => ?_) fun ob w6 h6 hz6 => ?_
  · have hrw : Row (u.alloc (.cells #[.bool true] 4 (0, 0))) u.heap.size #[.bool true] 4 := Row.new u _ _
    have hrz : Row (u.alloc (.cells #[.bool false] 4 (0, 0))) u.heap.size #[.bool false] 4 := Row.new u _ _
    have hsm : Sm (fun _ => False) u (u.alloc (.cells #[.bool true] 4 (0, 0))) := (Sm.refl _ _).alloc _
    have q1 := hrz.cell 0
    have q2 := hrz.free 0
    have Hall := Lib.hid (And.intro (show C0 + 1 < u.heap.size from hu.2.1.lt) (BwP.mk (W0 := W0) (ob := u.heap.size) (gm_pr.keep _ _ (Gr.sm0 hsm) hu.2.2.2.1) (gm_row.keep _ _ (Gr.sm0 hsm) hu.2.2.2.2.2.1) (gm_row.keep _ _ (Gr.sm0 hsm) hu.2.2.2.2.1) (gm_nums.keep _ _ (Gr.sm0 hsm) hu.2.2.1) (gm_row.keep _ _ (Gr.sm0 hsm) hu.1) (gm_row.keep _ _ (Gr.sm0 hsm) hu.2.1) hrw (gm_since.keep _ _ (Gr.sm0 hsm) hu.2.2.2.2.2.2)))
    clear hu hsm hrw hrz hs
    go_wp2
    exact hK u.heap.size _ _ rfl rfl Hall.out
  obtain ⟨hob, h6⟩ := h6.sep
  clear h5
  show cps _ _ _ _ _ _
  repeat refine cps_seq O ?_
  (refine cps_region O ?_; simp only [List.size_toArray, List.length_cons, List.length_nil, Nat.reduceAdd, Nat.zero_add, List.range, List.range.loop])
  refine valE O rfl (.slice none 0 0) rfl rfl (fun _ => by simp [go_sem]) (fun _ => by go_simp; try (first | rfl | (simp [*]))) ?_; try walk_nrm
  refine cpsR_nil O ?_
  show cps _ _ _ _ _ _
  repeat refine cps_seq O ?_
  refine aloneG (α := Nat) (fun q => #[.slice a0 n0 c0, .slice a1 n1 c1, .int .i64 sh, undef, .pointer (some ⟨rb, 0, none⟩), undef, .bool false, .pointer (some ⟨pb, 0, none⟩), .pointer (some ⟨C0, 0, none⟩), .pointer (some ⟨C0 + 1, 0, none⟩), .pointer (some ⟨ob, 0, none⟩), .slice none 0 0, .pointer (some ⟨q, 0, none⟩), undef, undef, undef, undef, .int .i64 sh, .int .i64 (wi sh 8), .int .i64 N, .pointer (some ⟨P, 0, none⟩), .pointer (some ⟨P, 0, none⟩), .bool false, .bool false, .bool true, .bool false, .bool false, .slice a1 n1 c1, .slice (some ⟨g, 0, none⟩) m cap, undef, undef, undef, undef, undef, undef, undef, undef, undef, undef, undef, undef, undef, undef, undef, undef, undef, undef, undef, undef, undef, undef, undef, undef, undef, undef, undef, undef, undef, undef, undef, undef, undef, undef, undef, undef, undef, undef, undef, undef, undef, undef, undef, undef, undef, undef, undef, undef, undef, undef, undef, undef, undef, undef, undef, undef, undef]) (fun q u => C0 ≤ q ∧ Row u q #[.int .i64 0] 3 ∧ BwP W0 B T A H P N rb pb C0 (C0 + 1) ob g m cap X Z ea ec u) (hM := fun y => by infer_instance) h6 (by kernel_rfl) (fun u hu hs K hK => ?_) fun q0 w7 h7 hz7 => ?_
  · have hrw : Row (u.alloc (.cells #[.int .i64 0] 3 (0, 0))) u.heap.size #[.int .i64 0] 3 := Row.new u _ _
    have hsm : Sm (fun _ => False) u (u.alloc (.cells #[.int .i64 0] 3 (0, 0))) := (Sm.refl _ _).alloc _
    have q1 := hrw.cell 0
    have q2 := hrw.free 0
    have Hall := Lib.hid (And.intro (show C0 ≤ u.heap.size by have := hu.rbb.lt; omega) (And.intro hrw (gm_bwP.keep _ _ (Gr.sm0 hsm) hu)))
    clear hu hsm hrw hs
    go_wp2
    exact hK u.heap.size _ _ rfl rfl Hall.out
  clear h6
  show cps _ _ _ _ _ _
  repeat refine cps_seq O ?_
  refine aloneG (α := Value × (Nat → Nat) × (Nat → Value)) (fun y => #[.slice a0 n0 c0, .slice a1 n1 c1, .int .i64 sh, undef, .pointer (some ⟨rb, 0, none⟩), undef, .bool false, .pointer (some ⟨pb, 0, none⟩), .pointer (some ⟨C0, 0, none⟩), .pointer (some ⟨C0 + 1, 0, none⟩), .pointer (some ⟨ob, 0, none⟩), y.1, y.2.2 12, undef, undef, undef, undef, .int .i64 sh, .int .i64 (wi sh 8), .int .i64 N, .pointer (some ⟨P, 0, none⟩), .pointer (some ⟨P, 0, none⟩), .bool false, .bool false, .bool true, .bool false, .bool false, .slice a1 n1 c1, .slice (some ⟨g, 0, none⟩) m cap, y.2.2 29, y.2.2 30, y.2.2 31, y.2.2 32, y.2.2 33, y.2.2 34, y.2.2 35, y.2.2 36, y.2.2 37, y.2.2 38, y.2.2 39, y.2.2 40, y.2.2 41, y.2.2 42, y.2.2 43, undef, undef, undef, undef, undef, undef, undef, undef, undef, undef, undef, undef, undef, undef, undef, undef, undef, undef, undef, undef, undef, undef, undef, undef, undef, undef, undef, undef, undef, undef, undef, undef, undef, undef, undef, undef, undef, undef, undef, undef, undef, undef]) (fun y u => ((∀ j, j < m → Row u (y.2.1 j) #[.int .i64 j] 3 ∧ C0 ≤ y.2.1 j) ∧ ∃ bs, C0 ≤ bs ∧ u.ownsRow bs 94 1 y.1 m (addVs rb pb C0 (C0 + 1) ob y.2.1 m)) ∧ BwP W0 B T A H P N rb pb C0 (C0 + 1) ob g m cap X Z ea ec u)
    (hM := fun y => by infer_instance) h7 (by kernel_rfl) (fun u hu hs K hK => ?_) fun y w8 h8 hz8 => ?_
  · have hK' : ∀ (a' : Act) (u' : World), a'.defers = [] → (∃ v kb, a'.tmps = #[.slice a0 n0 c0, .slice a1 n1 c1, .int .i64 sh, undef, .pointer (some ⟨rb, 0, none⟩), undef, .bool false, .pointer (some ⟨pb, 0, none⟩), .pointer (some ⟨C0, 0, none⟩), .pointer (some ⟨C0 + 1, 0, none⟩), .pointer (some ⟨ob, 0, none⟩), v, (slotsOf a'.tmps) 12, undef, undef, undef, undef, .int .i64 sh, .int .i64 (wi sh 8), .int .i64 N, .pointer (some ⟨P, 0, none⟩), .pointer (some ⟨P, 0, none⟩), .bool false, .bool false, .bool true, .bool false, .bool false, .slice a1 n1 c1, .slice (some ⟨g, 0, none⟩) m cap, (slotsOf a'.tmps) 29, (slotsOf a'.tmps) 30, (slotsOf a'.tmps) 31, (slotsOf a'.tmps) 32, (slotsOf a'.tmps) 33, (slotsOf a'.tmps) 34, (slotsOf a'.tmps) 35, (slotsOf a'.tmps) 36, (slotsOf a'.tmps) 37, (slotsOf a'.tmps) 38, (slotsOf a'.tmps) 39, (slotsOf a'.tmps) 40, (slotsOf a'.tmps) 41, (slotsOf a'.tmps) 42, (slotsOf a'.tmps) 43, undef, undef, undef, undef, undef, undef, undef, undef, undef, undef, undef, undef, undef, undef, undef, undef, undef, undef, undef, undef, undef, undef, undef, undef, undef, undef, undef, undef, undef, undef, undef, undef, undef, undef, undef, undef, undef, undef, undef, undef, undef, undef] ∧ ((∀ j, j < m → Row u' (kb j) #[.int .i64 j] 3 ∧ C0 ≤ kb j) ∧ ∃ bs, C0 ≤ bs ∧ u'.ownsRow bs 94 1 v m (addVs rb pb C0 (C0 + 1) ob kb m)) ∧ BwP W0 B T A H P N rb pb C0 (C0 + 1) ob g m cap X Z ea ec u') → K a' u' := fun a' u' h1 h => by
      obtain ⟨v, kb, h2, h3⟩ := h
      exact hK (v, kb, slotsOf a'.tmps) a' u' h1 h2 h3
    obtain ⟨i0, hi, hz0, hz1, hz2⟩ := info_parts info_fnT
    have Hi := Lib.hid hi
    have Hz0 := Lib.hid hz0
    have Hz1 := Lib.hid hz1
    have Hz2 := Lib.hid hz2
    have Hu := Lib.hid hu
    have HK := Lib.hid hK'
    clear hi hz0 hz1 hz2 hu hK hs h7 hK'
    go_wp2
    go_loopw [11, 12] (fun s11 s12 wr => ∃ (i : Nat) (kb : Nat → Nat) (q : Nat), i ≤ m ∧ s12 = .pointer (some ⟨q, 0, none⟩) ∧ Hid (Row wr q #[.int .i64 i] 3) ∧ Hid (C0 ≤ q) ∧ Hid (wr.ownsRow u.heap.size 94 1 s11 i (addVs rb pb C0 (C0 + 1) ob kb i)) ∧ Hid (∀ j, j < i → Row wr (kb j) #[.int .i64 j] 3 ∧ C0 ≤ kb j) ∧ Hid (Row wr rb #[.slice (some ⟨g, 0, none⟩) m cap] 34) ∧ Hid (Sm (fun _ => False) u wr)) (fun s11 _ _ => match s11 with | .slice _ n _ => m - n | _ => 0)
    case atStart =>
      refine ⟨0, fun _ => 0, q0, by omega, rfl, Lib.hid Hu.out.2.1, Lib.hid Hu.out.1, Lib.hid (World.ownsRow_nil _ _ _ _), Lib.hid (fun j hj => by omega), Lib.hid Hu.out.2.2.rrb, Lib.hid (Sm.refl _ _)⟩
    case round =>
      have hBU : C0 ≤ u.heap.size := by have := Hu.out.2.1.lt; have := Hu.out.1; omega
      obtain ⟨wo, rfl⟩ : ∃ wo : World, wo = wr := ⟨_, rfl⟩
      obtain ⟨i, kb, q, hi, rfl, hq, hqB, hown, hkb, h2, hS⟩ := hrel
      obtain ⟨a7, c7, hv7⟩ := own_form0 hown.out
      subst hv7
      have c1 := hq.out.cell 0
      have c2 := h2.out.cell 0
      by_cases hlt : i < m
      · have j1 : (i : Int) < (m : Int) := by omega
        have hp : wrap64 ((i : Int) + 1) = ((i + 1 : Nat) : Int) := by unfold wrap64; omega
        have HP := Lib.hid hp
        clear hp
        have hBs := hS.out.size
        obtain ⟨kb', hkb'⟩ : ∃ kb' : Nat → Nat, kb' = fun j => if j = i then q else kb j := ⟨_, rfl⟩
        have HK1 := Lib.hid (show kb' i = q by rw [hkb']; simp)
        have HK2 := Lib.hid (show ∀ j, j < i → kb' j = kb j from fun j hj => by rw [hkb']; simp; intro e; omega)
        clear hkb'
        have d1 := Lib.hid (hown.out.alloc (.cells #[addV rb pb C0 (C0 + 1) ob kb' i] 94 (0, 0)))
        obtain ⟨fv, hfv⟩ : ∃ fv, fv = addV rb pb C0 (C0 + 1) ob kb' i := ⟨_, rfl⟩
        have hfv' : fv = .func (.func 42) #[] #[.pointer (some ⟨rb, 0, none⟩), .pointer (some ⟨q, 0, none⟩), .pointer (some ⟨C0, 0, none⟩), .pointer (some ⟨pb, 0, none⟩), .pointer (some ⟨C0 + 1, 0, none⟩), .pointer (some ⟨ob, 0, none⟩)] := by rw [hfv]; unfold addV; rw [HK1.out]
        have HFV := Lib.hid hfv
        have HFV' := Lib.hid hfv'
        rw [← hfv, hfv'] at d1
        clear hfv hfv'
        go_upto_region 12 with (at_builtin; refine wpList_append_own _ rfl (.tmp 35) (.tmp 37) 70 rfl u.heap.size 94 i0 .nilFunc 1 8 Try.underlying70 Hi.out Hz0.out Hz1.out Hz2.out rfl (by decide) _ i (addVs rb pb C0 (C0 + 1) ob kb i) rfl d1.out ⟨wo.heap.size, 0, none⟩ 1 1 [.func (.func 42) #[] #[.pointer (some ⟨rb, 0, none⟩), .pointer (some ⟨q, 0, none⟩), .pointer (some ⟨C0, 0, none⟩), .pointer (some ⟨pb, 0, none⟩), .pointer (some ⟨C0 + 1, 0, none⟩), .pointer (some ⟨ob, 0, none⟩)]] rfl rfl (new_cells wo [.func (.func 42) #[] #[.pointer (some ⟨rb, 0, none⟩), .pointer (some ⟨q, 0, none⟩), .pointer (some ⟨C0, 0, none⟩), .pointer (some ⟨pb, 0, none⟩), .pointer (some ⟨C0 + 1, 0, none⟩), .pointer (some ⟨ob, 0, none⟩)]] 94) (by simp [Value.oneCell']) (by unfold maxLen; omega) (by omega) (by simp; omega) ?_; intro v' w4 hown4 hgr4 _)
        have hw4 : Hid (wo.heap.size < w4.heap.size) := Lib.hid (by have := hgr4.size; simp at this; omega)
        have eq4 : Hid (Row w4 q #[.int .i64 i] 3) := Lib.hid ((hq.out.alloc _).grown hgr4 (own_ne_row hown.out hq.out (by decide)))
        have e2 : Hid (Row w4 rb #[.slice (some ⟨g, 0, none⟩) m cap] 34) := Lib.hid ((h2.out.alloc _).grown hgr4 (own_ne_row hown.out h2.out (by decide)))
        have ek : Hid (∀ j, j < i + 1 → Row w4 (kb' j) #[.int .i64 j] 3 ∧ C0 ≤ kb' j) := Lib.hid (fun j hj => by
          by_cases e : j = i
          · subst e
            rw [HK1.out]
            exact ⟨eq4.out, hqB.out⟩
          · rw [HK2.out j (by omega)]
            obtain ⟨k1, k2⟩ := hkb.out j (by omega)
            exact ⟨(k1.alloc _).grown hgr4 (own_ne_row hown.out k1 (by decide)), k2⟩)
        have eo : Hid (w4.ownsRow u.heap.size 94 1 v' (i + 1) (addVs rb pb C0 (C0 + 1) ob kb' (i + 1))) := Lib.hid (by
          rw [addVs_succ _ _ _ _ _ kb kb' i HK2.out, ← HFV.out, HFV'.out]
          exact hown4)
        have es : Hid (Sm (fun _ => False) u w4) := Lib.hid (by
          have z := hS.out.size
          exact ⟨hgr4.os.trans hS.out.os, hgr4.tape.trans hS.out.tape, hgr4.output.trans hS.out.output, by have := hgr4.size; simp at this; omega, fun j hj hf => (hgr4.block j (by simp; omega) (fun e => by have := (hown.out.lt j e.symm).1; omega)).trans ((Below.heap_alloc _ _ _ (by omega)).trans (hS.out.block j hj hf))⟩)
        clear hgr4 hown4 hown hq h2 hS c1 c2 hkb d1
        obtain ⟨a8, c8, hv8⟩ := own_form0 eo.out
        subst hv8
        have c1 := eq4.out.cell 0
        have q0 : Row (w4.alloc (.cells #[.int .i64 0] 3 (0, 0))) w4.heap.size #[.int .i64 0] 3 := Row.new w4 _ _
        have q1 := q0.cell 0
        have q2 := q0.free 0
        have z0 : (w4.alloc (.cells #[.int .i64 0] 3 (0, 0))).heap.size = w4.heap.size + 1 := by simp [World.size_alloc]
        go_wp2_with fail
        have hsz := es.out.size
        refine ⟨⟨i + 1, kb', w4.heap.size, by omega, rfl, Lib.hid (by have := Row.new w4 #[.int .i64 ((i + 1 : Nat) : Int)] 3; simpa using this), Lib.hid (by have := hw4.out; omega), Lib.hid (eo.out.alloc _), Lib.hid (fun j hj => ⟨(ek.out j hj).1.alloc _, (ek.out j hj).2⟩), Lib.hid (e2.out.alloc _), Lib.hid (es.out.alloc _)⟩, ?_⟩
        simp
        omega
      · have hii : i = m := by omega
        subst hii
        have j1 : ¬ (i : Int) < (i : Int) := by omega
        go_wp2
        exact HK.out _ _ rfl ⟨_, kb, by kernel_rfl, ⟨hkb.out, _, hBU, hown.out⟩, gm_bwP.keep _ _ (Gr.sm0 hS.out) Hu.out.2.2⟩
  obtain ⟨v, kb, f⟩ := y
  dsimp only at h8 ⊢
  clear h7
  show cps _ _ _ _ _ _
  repeat refine cps_seq O ?_
  refine aloneG (α := Value × (Nat → Value)) (fun y => #[.slice a0 n0 c0, .slice a1 n1 c1, .int .i64 sh, undef, .pointer (some ⟨rb, 0, none⟩), undef, .bool false, .pointer (some ⟨pb, 0, none⟩), .pointer (some ⟨C0, 0, none⟩), .pointer (some ⟨C0 + 1, 0, none⟩), .pointer (some ⟨ob, 0, none⟩), y.1, y.2 12, undef, undef, undef, undef, .int .i64 sh, .int .i64 (wi sh 8), .int .i64 N, .pointer (some ⟨P, 0, none⟩), .pointer (some ⟨P, 0, none⟩), .bool false, .bool false, .bool true, .bool false, .bool false, .slice a1 n1 c1, .slice (some ⟨g, 0, none⟩) m cap, y.2 29, y.2 30, y.2 31, y.2 32, y.2 33, y.2 34, y.2 35, y.2 36, y.2 37, y.2 38, y.2 39, y.2 40, y.2 41, y.2 42, y.2 43, undef, undef, undef, undef, undef, undef, undef, undef, undef, undef, undef, undef, undef, undef, undef, undef, undef, undef, undef, undef, undef, undef, undef, undef, undef, undef, undef, undef, undef, undef, undef, undef, undef, undef, undef, undef, undef, undef, undef, undef, undef, undef]) (fun y u => BwM W0 B T A H P N rb pb C0 (C0 + 1) ob g m cap C0 X Z ea ec kb y.1 u) (hM := fun y => by infer_instance) h8 (by kernel_rfl) (fun u hu hs K hK => ?_) fun y w9 h9 hz9 => ?_
  · obtain ⟨i0, hi, hz0, hz1, hz2⟩ := info_parts info_fnT
    have Hi := Lib.hid hi
    have Hz0 := Lib.hid hz0
    have Hz1 := Lib.hid hz1
    have Hz2 := Lib.hid hz2
    obtain ⟨⟨hkb, bs, hbs, hown⟩, hP⟩ := hu
    obtain ⟨gv, c7, hv7⟩ := own_form hown hm0
    subst hv7
    have hgv := hown.lt gv rfl
    have Hkb := Lib.hid hkb
    have HP := Lib.hid hP
    have Hown := Lib.hid hown
    have d1 := Lib.hid (hown.alloc (.cells #[.func (.func 43) #[] #[.pointer (some ⟨C0 + 1, 0, none⟩), .pointer (some ⟨pb, 0, none⟩), .pointer (some ⟨ob, 0, none⟩), .pointer (some ⟨C0, 0, none⟩)]] 94 (0, 0)))
    have hK' : ∀ (a' : Act) (u' : World), a'.defers = [] → (∃ v, a'.tmps = #[.slice a0 n0 c0, .slice a1 n1 c1, .int .i64 sh, undef, .pointer (some ⟨rb, 0, none⟩), undef, .bool false, .pointer (some ⟨pb, 0, none⟩), .pointer (some ⟨C0, 0, none⟩), .pointer (some ⟨C0 + 1, 0, none⟩), .pointer (some ⟨ob, 0, none⟩), v, (slotsOf a'.tmps) 12, undef, undef, undef, undef, .int .i64 sh, .int .i64 (wi sh 8), .int .i64 N, .pointer (some ⟨P, 0, none⟩), .pointer (some ⟨P, 0, none⟩), .bool false, .bool false, .bool true, .bool false, .bool false, .slice a1 n1 c1, .slice (some ⟨g, 0, none⟩) m cap, (slotsOf a'.tmps) 29, (slotsOf a'.tmps) 30, (slotsOf a'.tmps) 31, (slotsOf a'.tmps) 32, (slotsOf a'.tmps) 33, (slotsOf a'.tmps) 34, (slotsOf a'.tmps) 35, (slotsOf a'.tmps) 36, (slotsOf a'.tmps) 37, (slotsOf a'.tmps) 38, (slotsOf a'.tmps) 39, (slotsOf a'.tmps) 40, (slotsOf a'.tmps) 41, (slotsOf a'.tmps) 42, (slotsOf a'.tmps) 43, undef, undef, undef, undef, undef, undef, undef, undef, undef, undef, undef, undef, undef, undef, undef, undef, undef, undef, undef, undef, undef, undef, undef, undef, undef, undef, undef, undef, undef, undef, undef, undef, undef, undef, undef, undef, undef, undef, undef, undef, undef, undef] ∧ BwM W0 B T A H P N rb pb C0 (C0 + 1) ob g m cap C0 X Z ea ec kb v u') → K a' u' := fun a' u' h1 h => by
      obtain ⟨v, h2, h3⟩ := h
      exact hK (v, slotsOf a'.tmps) a' u' h1 h2 h3
    have HK := Lib.hid hK'
    clear hi hz0 hz1 hz2 hkb hP hown hK hs h8 hK'
    go_wp2_with (at_builtin; refine wpList_append_own _ rfl (.tmp 40) (.tmp 42) 70 rfl bs 94 i0 .nilFunc 1 8 Try.underlying70 Hi.out Hz0.out Hz1.out Hz2.out rfl (by decide) _ m (addVs rb pb C0 (C0 + 1) ob kb m) rfl d1.out ⟨u.heap.size, 0, none⟩ 1 1 [.func (.func 43) #[] #[.pointer (some ⟨C0 + 1, 0, none⟩), .pointer (some ⟨pb, 0, none⟩), .pointer (some ⟨ob, 0, none⟩), .pointer (some ⟨C0, 0, none⟩)]] rfl rfl (new_cells u [.func (.func 43) #[] #[.pointer (some ⟨C0 + 1, 0, none⟩), .pointer (some ⟨pb, 0, none⟩), .pointer (some ⟨ob, 0, none⟩), .pointer (some ⟨C0, 0, none⟩)]] 94) (by simp [Value.oneCell']) (by unfold maxLen; omega) (by omega) (by simp; omega) ?_)
    intro v' w4 hown4 hgr4 _
    have row4 : ∀ {b : Nat} {c : Array Value} {T : TypeId}, Row u b c T → 94 ≠ T → Row w4 b c T := fun hr hT => (hr.alloc _).grown hgr4 (own_ne_row Hown.out hr hT)
    have hP := HP.out
    have hkb := Hkb.out
    have hs4 : Sm (fun b => b = gv) u w4 := ((Sm.refl (fun b => b = gv) u).alloc _).trans (sm_grown hgr4 fun k e => (Option.some.inj e).symm)
    obtain ⟨a8, c8, hv8⟩ := own_form0 hown4
    subst hv8
    have hXl : ∀ b, X b → b < B ∨ (S1 ≤ b ∧ b < C0) := fun b hb => by rw [HX.out] at hb; exact hb
    have hnums : NumsOwn X g m 10 Z ea ec w4 := by
      refine ⟨fun r hr => ?_, hP.nums.le, hP.nums.lt, fun r hr j hj => ?_⟩
      · have hc := hP.nums.hd r hr
        have hb : w4.heap[g]? = u.heap[g]? := hs4.block g (cell_lt hc) (by omega)
        unfold World.cell? at hc ⊢
        rw [hb]; exact hc
      · obtain ⟨b, o, z1, z2, z3, z4⟩ := hP.nums.dat r hr j hj
        have hb : w4.heap[b]? = u.heap[b]? := hs4.block b z2 (by have := hXl b z4; omega)
        refine ⟨b, o, z1, Nat.lt_of_lt_of_le z2 hs4.size, ?_, z4⟩
        unfold World.cell? at z3 ⊢
        rw [hb]; exact z3
    have Hall := Lib.hid (show BwM W0 B T A H P N rb pb C0 (C0 + 1) ob g m cap C0 X Z ea ec kb (.slice a8 (m + 1) c8) w4 from
      ⟨hP.pr.sm hs4 fun b h1 h2 e => by omega, row4 hP.rrb (by decide), row4 hP.rpb (by decide), hnums, row4 hP.rbb (by decide), row4 hP.reb (by decide), row4 hP.rob (by decide), fun j hj => ⟨row4 (hkb j hj).1 (by decide), (hkb j hj).2⟩, ⟨bs, hbs, hown4⟩, hP.since.sm hs4 fun b hb => by omega⟩)
    clear hP hkb hs4 hnums hXl row4 hgr4 hown4 hgv
    go_wp2
    exact HK.out _ _ rfl ⟨_, by kernel_rfl, Hall.out⟩
  obtain ⟨v9, f9⟩ := y
  dsimp only at h9 ⊢
  clear h8
  obtain ⟨av, cv, hvv⟩ : ∃ a c, v9 = .slice a (m + 1) c := by
    obtain ⟨u, hu, _⟩ := h9.tell
    obtain ⟨bs, _, hf⟩ := hu.thr
    exact own_form0 hf
  subst hvv
  show cps _ _ _ _ _ _
  repeat refine cps_seq O ?_
  (refine cps_region O ?_; simp only [List.size_toArray, List.length_cons, List.length_nil, Nat.reduceAdd, Nat.zero_add, List.range, List.range.loop])
  refine valE O rfl (.slice a0 n0 c0) rfl rfl (fun _ => by simp [go_sem]) (fun _ => by go_simp; try (first | rfl | (simp [*]))) ?_; try walk_nrm
  refine valE O rfl (.slice av (m + 1) cv) rfl rfl (fun _ => by simp [go_sem]) (fun _ => by go_simp; try (first | rfl | (simp [*]))) ?_; try walk_nrm
  refine valE O rfl (.int .i64 (m + 1 : Nat)) rfl rfl (fun _ => by simp [go_sem]) (fun _ => by go_simp; try (first | rfl | (simp [*]))) ?_; try walk_nrm
  obtain ⟨S4, hS4⟩ : ∃ S4, S4 = w9.heap.size := ⟨_, rfl⟩
  have h4x : (∀ j, j < m → kb j < S4) ∧ C0 ≤ S4 ∧ C0 < S4 ∧ C0 + 1 < S4 ∧ ob < S4 := by
    obtain ⟨u, hu, hs⟩ := h9.tell
    rw [← hS4] at hs
    have := hu.rob.lt
    refine ⟨fun j hj => ?_, by omega, by omega, by omega, by omega⟩
    have := (hu.rkb j hj).1.lt; omega
  refine callE O rfl (f := 31) (vals := #[.slice a0 n0 c0, .int .i64 (m + 1 : Nat)]) rfl rfl rfl Try.func31 rfl rfl rfl ?_
  refine order_g h9 a0 b0 f0 n0 c0 (m + 1) xs HA.out.ha0 HA.out.hn0 (by omega) (fun u hu => gm_ints.keep W0 u hu.since.now HA.out.ints) fun vo w10 h10 hz10 => ?_
  rw [← hS4] at h10
  clear h9
  obtain ⟨ol, hol⟩ : ∃ ol, ol = ordL n0 xs (m + 1) := ⟨_, rfl⟩
  have hol2 : ol.length ≤ 2000 := by rw [hol, ordL_len]; omega
  have hol3 : ∀ k ∈ ol, k < 9223372036854775808 := fun k hk => by
    rw [hol] at hk
    obtain ⟨j, _, rfl⟩ := List.mem_map.1 hk
    have := wi_lt (xs j) ((m + 1 : Nat) + 1) (by omega)
    omega
  rw [← hol] at h10
  clear hol
  obtain ⟨ao, co, hvo⟩ : ∃ a c, vo = .slice a ol.length c := by
    obtain ⟨u, hu, _⟩ := h10.tell
    exact own_form0 hu.1
  subst hvo
  try walk_nrm
  refine valE O rfl (.slice av (m + 1) cv) rfl rfl (fun _ => by simp [go_sem]) (fun _ => by go_simp; try (first | rfl | (simp [*]))) ?_; try walk_nrm
  have hT := Kn.true rfl h10
  obtain ⟨hor, htm⟩ := hT
  refine callE O rfl (f := 37) (vals := #[.slice ao ol.length co, .slice av (m + 1) cv]) rfl rfl rfl Try.func37 rfl rfl rfl ?_
  refine bw_playC (S1 := S1) hW htm hor hrbz.1 hpz.1 hpz.2.1 hpS hgS hgC (fun b hb => by rw [HX.out] at hb; exact hb) ⟨Nat.le_refl _, by omega, by omega⟩ ⟨by omega, by omega, by omega⟩ h4x.1 h4x.2 hm0 hm6 hN1 hN8 hol2 hol3 fun Wg k ta tn tc a β γ w11 hWg hsz hok hbe hsu h11 => ?_
  have hfin : ∀ t' w', t'.getD 6 undef = .bool true → Kn ⟨some Wg, k⟩ (Gr W0) w' → Q ⟨some Wg, k⟩ .ret t' w' := fun t' w' h1 h2 => Hq.out Wg k t' w' hWg h1 h2
  have Hf := Lib.hid hfin
  have hold := bw_old htm
  obtain ⟨old, hOld⟩ : ∃ old, old = oldOf (bwD rb pb P g m Z ea kb) w10 := ⟨_, rfl⟩
  rw [← hOld] at h11 hold
  have HOld := Lib.hid hold
  clear hfin Hq h10 hor htm hOld hold
  obtain ⟨M11, hM11⟩ : ∃ M11 : World → Prop, M11 = fun u => (bwK B T A H N m (rowsZ m Z) old C0 (C0 + 1) ob).core.Rep ((a, β), γ) u ∧ Since B (Gr W0) u := ⟨_, rfl⟩
  have hgm : GM M11 := by rw [hM11]; infer_instance
  have hM : ∀ u, M11 u → TRep T A H N a u ∧ BwMem old C0 (C0 + 1) ob β (γ m) u ∧ Since B (Gr W0) u := fun u hu => by
    rw [hM11] at hu
    exact ⟨hu.1.1, hu.1.2.1, hu.2⟩
  have h11 : Kn ⟨some Wg, k⟩ M11 w11 := by rw [hM11]; exact h11
  have HV := Lib.hid (And.intro hok (And.intro hbe hsu))
  clear hM11 hok hbe hsu
  show cpsR (envL Wm) _ _ _ ⟨some Wg, k⟩ _ _
  try walk_nrm
  refine valE O rfl (.tuple #[.agg #[.slice ta tn tc, .slice none 0 0], .int .i64 0]) rfl rfl (fun _ => by simp [go_sem]) (fun _ => by go_simp; try (first | rfl | (simp [*]))) ?_; try walk_nrm
  refine valE O rfl (.agg #[.slice ta tn tc, .slice none 0 0]) rfl rfl (fun _ => by simp [go_sem]) (fun _ => by go_simp; try (first | rfl | (simp [*]))) ?_; try walk_nrm
  refine valE O rfl (.int .i64 0) rfl rfl (fun _ => by simp [go_sem]) (fun _ => by go_simp; try (first | rfl | (simp [*]))) ?_; try walk_nrm
  obtain ⟨pl, hpl⟩ : ∃ pl, pl = w11.heap.size := ⟨_, rfl⟩
  refine opK (M' := fun u => Row u pl #[.slice none 0 0, .slice none 0 0] 97 ∧ Since pl M11 u) h11 (.pointer (some ⟨pl, 0, none⟩)) rfl (by kernel_rfl) rfl (fun u hu hs => ⟨u.alloc (Obj.cells #[.slice none 0 0, .slice none 0 0] 97), .inl ?_, ?_⟩) fun w12 h12 _ => ?_
  · rw [hpl, ← hs]; go_simp
  · have hg : Gr u (u.alloc (Obj.cells #[.slice none 0 0, .slice none 0 0] 97)) := Gr.of_sm0 (F := fun _ => False) ((Sm.refl _ _).alloc _) fun _ h => h.elim
    exact ⟨by rw [hpl, ← hs]; exact Row.new u _ _, u, hu, hg, by rw [hpl, hs]⟩
  clear h11 hpl
  try walk_nrm
  refine opK (M' := fun u => Row u pl #[.slice ta tn tc, .slice none 0 0] 97 ∧ Since pl M11 u) h12 undef rfl (by kernel_rfl) rfl (fun u hu hs => ⟨(u.setCell ⟨pl, 0, none⟩ (.slice ta tn tc)).setCell ⟨pl, 1, none⟩ (.slice none 0 0), .inr ⟨?_, rfl⟩, ?_⟩) fun w13 h13 _ => ?_
  · have hc0 := hu.1.cell 0
    have hf0 := hu.1.free 0
    have h1 := hu.1.set 0 (.slice ta tn tc)
    have hc1 := h1.cell 1
    have hf1 := h1.free 1
    go_simp
  · exact ⟨(hu.1.set 0 (.slice ta tn tc)).set 1 (.slice none 0 0), hu.2.sm (((Sm.refl (fun b => b = pl) _).setCell rfl _).setCell rfl _) fun x hx => by omega⟩
  clear h12
  try walk_nrm
  refine valE O rfl (.int .i64 0) rfl rfl (fun _ => by simp [go_sem]) (fun _ => by go_simp; try (first | rfl | (simp [*]))) ?_; try walk_nrm
  refine cpsR_nil O ?_
  show cps _ _ _ _ _ _
  repeat refine cps_seq O ?_
  refine aloneG (α := Nat) (fun y => #[.slice a0 n0 c0, .slice a1 n1 c1, .int .i64 sh, undef, .pointer (some ⟨rb, 0, none⟩), undef, .bool false, .pointer (some ⟨pb, 0, none⟩), .pointer (some ⟨C0, 0, none⟩), .pointer (some ⟨C0 + 1, 0, none⟩), .pointer (some ⟨ob, 0, none⟩), .slice av (m + 1) cv, f9 12, .pointer (some ⟨pl, 0, none⟩), .int .i64 0, .int .u64 (wsum a.s : Nat), .int .i64 0, .int .i64 sh, .int .i64 (wi sh 8), .int .i64 N, .pointer (some ⟨P, 0, none⟩), .pointer (some ⟨P, 0, none⟩), .bool false, .bool false, .bool true, .bool false, .bool false, .slice a1 n1 c1, .slice (some ⟨g, 0, none⟩) m cap, f9 29, f9 30, f9 31, f9 32, f9 33, f9 34, f9 35, f9 36, f9 37, f9 38, f9 39, f9 40, f9 41, f9 42, f9 43, .tuple #[.agg #[.slice ta tn tc, .slice none 0 0], .int .i64 0], .slice a0 n0 c0, .slice av (m + 1) cv, .int .i64 (m + 1 : Nat), .slice ao ol.length co, .slice av (m + 1) cv, .tuple #[.agg #[.slice ta tn tc, .slice none 0 0], .int .i64 0], .agg #[.slice ta tn tc, .slice none 0 0], .int .i64 0, .tuple #[.int .u64 (wsum a.s : Nat), .int .i64 0], .pointer (some ⟨P, 0, none⟩), .pointer (some ⟨P, 0, none⟩), .pointer (some ⟨P, 0, none⟩), .pointer (some ⟨T, 0, none⟩), .tuple #[.int .u64 (wsum a.s : Nat), .int .i64 0], .int .u64 (wsum a.s : Nat), .int .i64 0, undef, undef, undef, undef, undef, undef, undef, undef, undef, undef, undef, undef, undef, undef, undef, undef, undef, undef, undef, undef, undef, undef, undef, undef, undef]) (fun _ u => Row u pl #[.slice ta tn tc, .slice none 0 0] 97 ∧ Since pl M11 u) (hM := fun y => by infer_instance) h13 (by kernel_rfl) (fun u hu hs K hK => ?_) fun y w14 h14 hz14 => ?_
  · obtain ⟨r1, r2, r3⟩ := hM u hu.2.now
    have hin : old.In u := r2.stat
    have c1 := hin.cell HOld.out.pb
    have c2 := hin.cell HOld.out.p0
    have HE := Lib.hid (tsum_c T A a.s u r1.tal)
    have Hu := Lib.hid hu
    clear hu r1 r2 r3 hin
    go_wp2_with fail
    refine HE.out.mono ?_
    rintro e u1 ⟨rfl, hsm⟩
    have Hsm := Lib.hid hsm
    clear hsm c1 c2
    go_wp2
    exact hK 0 _ _ rfl rfl ⟨gm_row.keep _ _ (Gr.sm0 Hsm.out) Hu.out.1, gm_since.keep _ _ (Gr.sm0 Hsm.out) Hu.out.2⟩
  clear h13
  show cps _ _ _ _ _ _
  repeat refine cps_seq O ?_
  refine aloneF (φ := fun _ t => t.getD 6 undef = .bool true) (M' := fun u => Since B (Gr W0) u) h14 (by kernel_rfl) (fun u hu hs K hK => ?_) fun t' w15 h15 hz15 => ?_
  · obtain ⟨r1, r2, r3⟩ := hM u hu.2.now
    have c0 := hu.1.cell 1
    have c1 := r2.ro.cell 0
    have c2 := r2.rb.cell 0
    have c3 := r2.re.cell 0
    rw [HV.out.1] at c1
    rw [HV.out.2.1] at c2
    rw [HV.out.2.2]
    have Hr3 := Lib.hid r3
    clear hu r1 r2 r3
    go_wp2
    exact hK _ _ rfl rfl Hr3.out
  · obtain ⟨ht, h15⟩ := h15.sep
    show cps _ _ _ _ _ _
    exact cps_ret O (hQ _ _ _ _ (Hf.out _ _ ht (h15.mono fun u hu => hu.now)))
end
end Go.Proofs.Ytdedmmjmiakidaa
/- PROVED: patchbaylaw11.TallyBetween answers true whatever it is given, in whatever order its threads' steps come by the scheduler, and leaves its arguments as they were. No condition. -/
namespace Go.Proofs.Ytdedmmjmiakidaa.tallyBetween
open Go.Conc Go.ChangeShapes Go.WideShapes Go.ChangeAt Go.RowKit Go.Deep
set_option linter.unusedVariables false

theorem run {a0 : Option Addr} {b0 f0 n0 c0 : Nat} {xs : Nat → Int} {a1 : Option Addr} {b1 f1 n1 c1 : Nat} {V : Nat → Value} {sh : Int} (W : World) (hA : BeArg (fun b => b < W.heap.size) a0 b0 f0 n0 xs a1 b1 f1 n1 V W) :
    GoodEnd Try.prog (fun v W' => v = .bool true ∧ Gr W W') (solo (G (Frame.enter Try.prog 9 #[.slice a0 n0 c0, .slice a1 n1 c1, .int .i64 sh] .normal) []) W) #[] := by
  refine law_good (c := Try.f9.body.getD .skip) Try.func9 rfl (by decide) ?_
  simp only [Try.ntmps9]
  refine between_b back_goodEnd hA fun Wg k t' w' hWg ht h => ⟨rfl, .bool true, fun w₁ hR => ⟨#[], ?_, ⟨Nat.le_refl _, by simp⟩⟩, fun w₁ hR => ⟨rfl, gr_of_kn hWg (h.at hR)⟩⟩
  rw [Sem.runT_eq, results_tmp (t := 6) rfl, events_results_tmp (t := 6) rfl, ht]

section
variable {H : Type} {enc : TypeId × Value → H}
set_option maxRecDepth 100000 in
/-- A slice of slices of numbers, opened. -/
theorem open_u64rows {W : World} {b0 : Nat} {v : Value} {d : DataW H} {p : List MemPlace}
    (hok : Value.okWide Try.prog W .any b0 34 v) (h : DataW.Trod enc Try.prog W 0 (fun _ => true) true 34 v d p) :
    ∃ a b off len cap V, v = .slice a len cap ∧ (0 < len → a = some ⟨b, off, none⟩) ∧ len ≤ 9223372036854775807 ∧ RowsArgX (fun b => b < W.heap.size) b off len V W := by
  obtain ⟨a0, len, cap, rfl⟩ := okWide_slice Try.underlying34 hok
  obtain ⟨fuel, hf⟩ := h
  rcases open_int_rows Try.underlying34 Try.underlying38 Try.underlying23 (by kernel_rfl) (by kernel_rfl) hf with ⟨hcs, hx⟩ | ⟨a, len', cap', A, L, C, Z, hcs, _, hl, hm, hx, hr⟩
  · simp [Value.cells] at hcs
    obtain ⟨rfl, rfl, rfl⟩ := hcs
    exact ⟨none, 0, 0, 0, 0, fun _ => undef, rfl, fun h => absurd h (by decide), by omega, ⟨fun r h => absurd h (by omega), fun r h => absurd h (by omega), fun h => absurd h (by decide)⟩⟩
  · simp [Value.cells] at hcs
    obtain ⟨rfl, rfl, rfl⟩ := hcs
    unfold maxLen at hm
    by_cases h0 : len = 0
    · subst h0
      exact ⟨some a, 0, 0, 0, cap, fun _ => undef, rfl, fun h => absurd h (by decide), by omega, ⟨fun r h => absurd h (by omega), fun r h => absurd h (by omega), fun h => absurd h (by decide)⟩⟩
    · have c0 := (hr 0 (by omega)).1
      obtain ⟨b, off, rfl, hb, -⟩ := plain_at ⟨_, c0⟩ c0
      have add_p : ∀ (b off k : Nat), (⟨b, off, none⟩ : Addr).add k = ⟨b, off + k, none⟩ := fun b off k => by
        unfold Addr.add
        split <;> simp_all
      refine ⟨_, b, off, len, cap, fun r => .slice (A r) (L r) (C r), rfl, fun _ => rfl, by omega, ⟨fun r h => ?_, fun r h => ?_, fun _ => hb⟩⟩
      · rw [← add_p]
        exact (hr r (by omega)).1
      · obtain ⟨h1, h2, h3, h4, h5, h6, h7⟩ := hr r (by omega)
        refine ⟨L r, A r, L r, C r, rfl, Nat.le_refl _, h2, fun j hj => ?_⟩
        cases hA : A r with
        | none => have := h6 hA; omega
        | some a' =>
          obtain ⟨-, h8⟩ := h7 a' hA
          have d0 := h8 0 (by omega)
          obtain ⟨b', o', rfl, hb', hc'⟩ := plain_at ⟨_, d0⟩ (h8 j (by omega))
          have hz := h5 ((Z r).getD j 0) (by
            have hjl : j < (Z r).length := by omega
            simp [List.getD, hjl])
          simp [Lit.wf, IntKind.min, IntKind.max, IntKind.signed, IntKind.bits] at hz
          refine ⟨b', o', ((Z r).getD j 0).toNat, rfl, hb', by simp only [List.getD_eq_getElem?_getD] at hz ⊢; omega, ?_, hb'⟩
          rw [hc']
          congr 2
          simp only [List.getD_eq_getElem?_getD] at hz ⊢
          omega
end

set_option maxRecDepth 100000 in
theorem good (H : Type) (enc : TypeId × Value → H) (W : World) (base : Nat) (args : Array Value) (ds gs : List (DataW H)) (before : List MemPlace)
    (hval : ∀ (j : Nat) t v, Try.f9.params[j]? = some t → args[j]? = some v → Value.okWide Try.prog W .any base t v)
    (hW : DataW.Whole enc Try.prog Try.f9.params.toList Rows.tallyBetweenSpec.vars false W args.toList ds gs before) :
    GoodEnd Try.prog (fun v W' => Rows.tallyBetweenSpec.post enc Try.prog Try.f9 false true false false W args v W') (solo (G (Frame.enter Try.prog 9 args .normal) []) W) #[] := by
  have hW' := hW
  obtain ⟨p, q, hA0, hV, rfl, hfz, hnd⟩ := hW
  have hA : DataW.TrodAll enc Try.prog W 0 (fun _ => true) true Try.f9.params.toList args.toList ds p := hA0
  rw [Try.params9] at hA hval
  obtain ⟨v0, v1, v2, d0, d1, d2, p0, p1, p2, rfl, rfl, rfl, h0, h1, h2⟩ := trodAll_three hA
  obtain ⟨a0, b0, f0, n0, c0, xs, rfl, ha0, hn0, hi⟩ := open_i64s_arg (hval 0 76 v0 rfl rfl) h0
  obtain ⟨a1, b1, f1, n1, c1, V, rfl, ha1, hn1, hr⟩ := open_u64rows (hval 1 34 v1 rfl rfl) h1
  obtain ⟨x2, rfl, rfl, rfl, wx2⟩ := open_int Try.underlying3 (hval 2 3 v2 rfl rfl) h2
  obtain ⟨N, last, o, w', t', g1, g2, g3, g4⟩ := run (sh := x2) W ⟨ha0, hn0, hi, ha1, hn1, hr⟩
  refine ⟨N, last, o, w', t', g1, g2, g3, g4.mono fun v hv => ?_⟩
  obtain ⟨rfl, hg⟩ := hv
  exact law_post_gr laid_out (readable_of _ (by kernel_rfl)) rfl (tb := 4) (by kernel_rfl) Try.underlying4 hW' rfl hg

set_option maxRecDepth 100000 in
theorem lifted (os : Os) (started : os.Started) (H : Type) (enc : TypeId × Value → H) :
    ReturnsInLeavingWide {} Try.checked os 9 .any (Rows.tallyBetweenSpec.pre6 enc Try.prog Try.f9 Rows.tallyBetweenRow.domain false) (Rows.tallyBetweenSpec.post enc Try.prog Try.f9 false true false false) := by
  refine returnsInLeavingWide_of_change_sized (C := Try.checked) own_knob started Try.func9
    (ChangeSpec.witness6 (C := Try.checked) false ⟨#[], #[.slice none 0 0, .slice none 0 0, .int .i64 0], []⟩ 8 (by kernel_rfl) (by kernel_rfl) (by kernel_rfl) (by kernel_rfl)) ?_
  intro W base args ds gs before hval hW _ _ _
  exact good H enc W base args ds gs before hval hW

theorem proved : Rows.TallyBetweenSaid :=
  OpenClaim.holds_of_wide_leaving 9 Try.f9 rfl rfl rfl rfl rfl rfl rfl ⟨rfl, rfl, rfl, rfl, rfl⟩ rfl rfl rfl rfl rfl (by kernel_rfl) Try.func9 (by kernel_rfl)
    (of_decide_eq_true (by kernel_rfl)) (by unfold Func.isWrapper; first | (rw [if_pos (by decide +kernel)]; kernel_rfl) | (rw [if_neg (by decide +kernel)]; exact ⟨rfl, rfl⟩))
    (fun os started H enc _ => lifted os started H enc)
#print axioms proved
end Go.Proofs.Ytdedmmjmiakidaa.tallyBetween
