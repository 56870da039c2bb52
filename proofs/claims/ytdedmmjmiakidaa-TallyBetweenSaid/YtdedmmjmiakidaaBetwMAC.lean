/- Plain words: the thread of TallyBetween that asks, from its start to its end. No condition. -/
import Derived.Test.YtdedmmjmiakidaaBetwMAB
import Derived.Test.YtdedmmjmiakidaaBetwMAA
import Derived.Test.YtdedmmjmiakidaaFwAK
import Derived.Test.YtdedmmjmiakidaaFwAJ
set_option linter.unusedVariables false
set_option linter.unusedSimpArgs false
/- Plain words: the thread of TallyBetween that asks, from its start to its end. No condition. -/
namespace Go.Proofs.Ytdedmmjmiakidaa
open Go.Conc Go.RowKit
section
variable {B T A H N m : Nat} {rows : List (List Nat)} {old : Old} {bb eb ob : Nat} {rb pb P R rc : Nat} {kb : Nat → Nat} {ea : Nat → Option Addr} {ec : Nat → Nat}
theorem ask_begin {i : Nat} {β : BwB} (hi : i < 8) : bwNext rows N m m i β = (β, some (TPos.part 0 [], (m, i, β.ended))) := by
  unfold bwNext
  rw [if_neg (Nat.lt_irrefl _), if_pos hi]
theorem ask_stop {i : Nat} {β : BwB} (hi : ¬ i < 8) : bwNext rows N m m i β = (β, none) := by
  unfold bwNext
  rw [if_neg (Nat.lt_irrefl _), if_neg hi]
theorem ask_tid {β : BwB} {p : TPos × BwC} (h : (bwNext rows N m m 0 β).2 = some p) : p.2.1 = m := by
  rw [ask_begin (by decide)] at h
  obtain rfl := Option.some.inj h
  rfl
set_option maxRecDepth 100000 in
set_option maxHeartbeats 8000000 in
theorem ask_thr (hm : BwOld old rb pb P R rc T N m kb rows ea ec) (hN : 0 < N) {g0 : Priv} :
    ThrC (bwK B T A H N m rows old bb eb ob).core m g0 43 #[.pointer (some ⟨eb, 0, none⟩), .pointer (some ⟨pb, 0, none⟩), .pointer (some ⟨ob, 0, none⟩), .pointer (some ⟨bb, 0, none⟩)] (fun σ => ((σ.1, (bwNext rows N m m 0 σ.2).1), (bwNext rows N m m 0 σ.2).2)) where
  fn := ⟨_, _, Try.func43, by kernel_rfl, rfl⟩
  tid := fun a p h => ask_tid (β := a.2) h
  run := fun Wg s θ n1 w a o E hs ho hSh hw hr hg hE => by
    obtain ⟨⟨a, β⟩, γ⟩ := a
    have O := envT_ok (bwK B T A H N m rows old bb eb ob).core.spec Wg (WgL Wg) s
    have h : TK (bwK B T A H N m rows old bb eb ob) Wg s m (n1, E, θ) a (β, γ) ((a, (bwNext rows N m m 0 β).1), (bwNext rows N m m 0 β).2) w := ⟨hs, ho, hSh, hw, o, hr, hE⟩
    clear hs ho hSh hw hr hE
    refine cpsC_body O Try.func43 rfl ?_
    simp only [Try.ntmps43]
    refine cps_opaque fun Q' hQ => ?_
    walk_nrm
    repeat refine cps_seq O ?_
    (refine cps_region O ?_; simp only [List.size_toArray, List.length_cons, List.length_nil, Nat.reduceAdd, Nat.zero_add, List.range, List.range.loop])
    refine valE O rfl (.int .i64 0) rfl rfl (fun _ => by simp [go_sem]) (fun _ => by go_simp; try (first | rfl | (simp [*]))) ?_; try walk_nrm
    refine cpsR_nil O ?_
    show cps _ _ _ _ _ _
    refine cps_block O ?_
    refine cps_loopm O (fun m' n' t w' => ∃ (i : Nat) (a' : TSt) (b' : BwB) (γ' : Nat → Priv), m' + i = 8 ∧ TK (bwK B T A H N m rows old bb eb ob) Wg s m n' a' (b', γ') ((a', (bwNext rows N m m i b').1), (bwNext rows N m m i b').2) w' ∧ ∃ f : Nat → Value, t = #[seatGate s, .pointer (some ⟨eb, 0, none⟩), .pointer (some ⟨pb, 0, none⟩), .pointer (some ⟨ob, 0, none⟩), .pointer (some ⟨bb, 0, none⟩), f 5, .int .i64 i, f 7, f 8, f 9, f 10, f 11, f 12, f 13, f 14, f 15, f 16, f 17, f 18, f 19, f 20, f 21, f 22, f 23, f 24, f 25, f 26, f 27, f 28, f 29, f 30, f 31, f 32, f 33, f 34, f 35, f 36, f 37, f 38]) ?_ (m := 8) ⟨0, a, β, γ, rfl, h, fun _ => undef, rfl⟩
    clear h
    rintro m' n' t w' ⟨i, a', β', γ', hmi, h, f, rfl⟩
    repeat refine cps_seq O ?_
    (refine cps_region O ?_; simp only [List.size_toArray, List.length_cons, List.length_nil, Nat.reduceAdd, Nat.zero_add, List.range, List.range.loop])
    refine valE O rfl (.int .i64 i) rfl rfl (fun _ => by simp [go_sem]) (fun _ => by go_simp; try (first | rfl | (simp [*]))) ?_; try walk_nrm
    by_cases hi : i < 8
    · have i1 : (i : Int) < 8 := by omega
      refine valE O rfl (.bool true) rfl rfl (fun _ => by simp [go_sem]) (fun _ => by go_simp; try (first | rfl | (simp [*]))) ?_; try walk_nrm
      refine cpsR_nil O ?_
      show cps _ _ _ _ _ _
      refine cps_cond O (v := true) rfl ?_
      simp only [if_true]
      refine cps_skip O ?_
      show cps _ _ _ _ _ _
      repeat refine cps_seq O ?_
      refine cps_block O ?_
      refine cps_seq O ?_
      rw [ask_begin hi] at h
      (refine cps_region O ?_; simp only [List.size_toArray, List.length_cons, List.length_nil, Nat.reduceAdd, Nat.zero_add, List.range, List.range.loop])
      refine readTK h (.int .u64 (β'.ended : Nat)) rfl (by kernel_rfl) rfl (fun u h1 h2 => by have hcl := (BwMem.re h2).cell 0; go_simp) fun _ h => ?_; try walk_nrm
      refine valE O rfl (.int .u64 (β'.ended : Nat)) rfl rfl (fun _ => by simp [go_sem]) (fun _ => by go_simp; try (first | rfl | (simp [*]))) ?_; try walk_nrm
      refine cpsR_nil O ?_
      show cps _ _ _ _ _ _
      refine cps_seq O ?_
      (refine cps_region O ?_; simp only [List.size_toArray, List.length_cons, List.length_nil, Nat.reduceAdd, Nat.zero_add, List.range, List.range.loop])
      refine readTK h (.pointer (some ⟨P, 0, none⟩)) rfl (by kernel_rfl) rfl (fun u h1 h2 => by have hcl := (BwMem.stat h2).cell (hm.pb); go_simp) fun _ h => ?_; try walk_nrm
      refine valE O rfl (.pointer (some ⟨P, 0, none⟩)) rfl rfl (fun _ => by simp [go_sem]) (fun _ => by go_simp; try (first | rfl | (simp [*]))) ?_; try walk_nrm
      refine valE O rfl (.pointer (some ⟨P, 0, none⟩)) rfl rfl (fun _ => by simp [go_sem]) (fun _ => by go_simp; try (first | rfl | (simp [*]))) ?_; try walk_nrm
      refine readTK h (.pointer (some ⟨T, 0, none⟩)) rfl (by kernel_rfl) rfl (fun u h1 h2 => by have hcl := (BwMem.stat h2).cell (hm.p0); go_simp) fun _ h => ?_; try walk_nrm
      refine valE O rfl (seatGate s) rfl rfl (fun _ => by simp [go_sem]) (fun _ => by go_simp; try (first | rfl | (simp [*]))) ?_; try walk_nrm
      refine callE O rfl (f := 20) (vals := #[.pointer (some ⟨T, 0, none⟩), seatGate s]) rfl rfl rfl Try.func20 rfl rfl rfl ?_
      refine sum_t hN (h.call rfl) fun n5 k5 a5 L l5 w5 h5 => ?_
      obtain ⟨b5, _, h5⟩ := AtT.answer (ti := m) h5 rfl
      obtain ⟨β5, γ5⟩ := b5
      clear h
      try walk_nrm
      refine valE O rfl (.tuple #[.int .u64 (wsum L : Nat), .int .i64 0]) rfl rfl (fun _ => by simp [go_sem]) (fun _ => by go_simp; try (first | rfl | (simp [*]))) ?_; try walk_nrm
      refine valE O rfl (.int .u64 (wsum L : Nat)) rfl rfl (fun _ => by simp [go_sem]) (fun _ => by go_simp; try (first | rfl | (simp [*]))) ?_; try walk_nrm
      refine valE O rfl (.int .i64 0) rfl rfl (fun _ => by simp [go_sem]) (fun _ => by go_simp; try (first | rfl | (simp [*]))) ?_; try walk_nrm
      refine valE O rfl (.int .u64 (wsum L : Nat)) rfl rfl (fun _ => by simp [go_sem]) (fun _ => by go_simp; try (first | rfl | (simp [*]))) ?_; try walk_nrm
      refine valE O rfl (.int .i64 0) rfl rfl (fun _ => by simp [go_sem]) (fun _ => by go_simp; try (first | rfl | (simp [*]))) ?_; try walk_nrm
      refine cpsR_nil O ?_
      show cps _ _ _ _ _ _
      obtain ⟨lo, hlo⟩ : ∃ lo, lo = β'.ended := ⟨_, rfl⟩
      obtain ⟨su, hsu⟩ : ∃ su, su = wsum L := ⟨_, rfl⟩
      obtain ⟨β6, hβ6⟩ : ∃ β6 : BwB, β6 = { β5 with ok := β5.ok && decide (lo ≤ su) && decide (su ≤ β5.begun) } := ⟨_, rfl⟩
      have h5 : TK (bwK B T A H N m rows old bb eb ob) Wg s m n5 a5 (β5, γ5) ((a5, (bwNext rows N m m (i + 1) β6).1), (bwNext rows N m m (i + 1) β6).2) w5 := by
        rw [hβ6, hlo, hsu]; exact h5
      rw [← hlo, ← hsu]
      have hok6 : β6.ok = (β5.ok && decide (lo ≤ su) && decide (su ≤ β5.begun)) := by rw [hβ6]
      have hbe6 : β6.begun = β5.begun ∧ β6.ended = β5.ended := by rw [hβ6]; exact ⟨rfl, rfl⟩
      clear hlo hsu hβ6
      have HI := Lib.hid (And.intro hi hmi)
      clear hi hmi i1
      refine aloneTK h5 (by kernel_rfl) fun u h1 h2 h3 => ?_
      have h2 : BwMem old bb eb ob β5 (γ5 m) u := h2
      have hc := h2.ro.cell 0
      have hf := h2.ro.free 0
      have hb := h2.rb.cell 0
      have hne := h2.ne
      have Hmv := Lib.hid (bw_mv (B := B) (rows := rows) (ti := m) (β' := β6) h1 h2 h3 ((Sm.refl (fun x => x = bb ∨ x = eb ∨ x = ob) _).setCell (.inr (.inr rfl)) (.bool β6.ok) : Sm _ u (u.setCell ⟨ob, 0, none⟩ (.bool β6.ok))) (by rw [hbe6.1]; exact h2.rb.set_ne (fun e => hne.2.1 e.symm) _) (by rw [hbe6.2]; exact h2.re.set_ne (fun e => hne.2.2 e.symm) _) (h2.ro.set 0 _) (by rw [hbe6.1, hbe6.2]; exact h2.lt))
      have HB := Lib.hid hbe6
      clear h1 h2 h3 hne hbe6
      obtain ⟨o5, ho5⟩ : ∃ o5, o5 = β5.ok := ⟨_, rfl⟩
      rw [← ho5] at hc hok6
      clear ho5
      cases o5
      · rw [show β6.ok = false from by rw [hok6]; rfl] at Hmv
        clear hok6
        go_wp2
        refine ⟨rfl, a5, β6, γ5, Hmv.out, fun w7 h7 => ?_⟩
        clear hc hf hb Hmv HB
        obtain ⟨hi, hmi⟩ := HI.out
        show cps _ _ _ _ _ _
        have hp : IntKind.i64.wrap ((i : Int) + 1) = ((i + 1 : Nat) : Int) := by rw [IntKind.wrap_i64]; omega
        (refine cps_region O ?_; simp only [List.size_toArray, List.length_cons, List.length_nil, Nat.reduceAdd, Nat.zero_add, List.range, List.range.loop])
        refine valE O rfl (.int .i64 i) rfl rfl (fun _ => by simp [go_sem]) (fun _ => by go_simp; try (first | rfl | (simp [*]))) ?_; try walk_nrm
        refine valE O rfl (.int .i64 (i + 1 : Nat)) rfl rfl (fun _ => by simp [go_sem]) (fun _ => by go_simp; try (first | rfl | (simp [*]))) ?_; try walk_nrm
        refine valE O rfl (.int .i64 (i + 1 : Nat)) rfl rfl (fun _ => by simp [go_sem]) (fun _ => by go_simp; try (first | rfl | (simp [*]))) ?_; try walk_nrm
        refine cpsR_nil O ?_
        exact ⟨m' - 1, by omega, i + 1, by omega, ⟨a5, β6, γ5, h7⟩, ex_fun (φ := fun f => #[seatGate s, .pointer (some ⟨eb, 0, none⟩), .pointer (some ⟨pb, 0, none⟩), .pointer (some ⟨ob, 0, none⟩), .pointer (some ⟨bb, 0, none⟩), f 5, .int .i64 (i + 1 : Nat), f 7, f 8, f 9, f 10, f 11, f 12, f 13, f 14, f 15, f 16, f 17, f 18, f 19, f 20, f 21, f 22, f 23, f 24, f 25, f 26, f 27, f 28, f 29, f 30, f 31, f 32, f 33, f 34, f 35, f 36, f 37, f 38]) rfl⟩
      · by_cases c1 : lo ≤ su
        · have d1 : (lo : Int) ≤ (su : Int) := by omega
          by_cases c2 : su ≤ β5.begun
          · have d2 : (su : Int) ≤ (β5.begun : Int) := by omega
            rw [show β6.ok = true from by rw [hok6]; simp [c1, c2]] at Hmv
            clear hok6
            go_wp2
            refine ⟨rfl, a5, β6, γ5, Hmv.out, fun w7 h7 => ?_⟩
            clear hc hf hb Hmv HB
            obtain ⟨hi, hmi⟩ := HI.out
            show cps _ _ _ _ _ _
            have hp : IntKind.i64.wrap ((i : Int) + 1) = ((i + 1 : Nat) : Int) := by rw [IntKind.wrap_i64]; omega
            (refine cps_region O ?_; simp only [List.size_toArray, List.length_cons, List.length_nil, Nat.reduceAdd, Nat.zero_add, List.range, List.range.loop])
            refine valE O rfl (.int .i64 i) rfl rfl (fun _ => by simp [go_sem]) (fun _ => by go_simp; try (first | rfl | (simp [*]))) ?_; try walk_nrm
            refine valE O rfl (.int .i64 (i + 1 : Nat)) rfl rfl (fun _ => by simp [go_sem]) (fun _ => by go_simp; try (first | rfl | (simp [*]))) ?_; try walk_nrm
            refine valE O rfl (.int .i64 (i + 1 : Nat)) rfl rfl (fun _ => by simp [go_sem]) (fun _ => by go_simp; try (first | rfl | (simp [*]))) ?_; try walk_nrm
            refine cpsR_nil O ?_
            exact ⟨m' - 1, by omega, i + 1, by omega, ⟨a5, β6, γ5, h7⟩, ex_fun (φ := fun f => #[seatGate s, .pointer (some ⟨eb, 0, none⟩), .pointer (some ⟨pb, 0, none⟩), .pointer (some ⟨ob, 0, none⟩), .pointer (some ⟨bb, 0, none⟩), f 5, .int .i64 (i + 1 : Nat), f 7, f 8, f 9, f 10, f 11, f 12, f 13, f 14, f 15, f 16, f 17, f 18, f 19, f 20, f 21, f 22, f 23, f 24, f 25, f 26, f 27, f 28, f 29, f 30, f 31, f 32, f 33, f 34, f 35, f 36, f 37, f 38]) rfl⟩
          · have d2 : ¬ (su : Int) ≤ (β5.begun : Int) := by omega
            rw [show β6.ok = false from by rw [hok6]; simp [c1, c2]] at Hmv
            clear hok6
            go_wp2
            refine ⟨rfl, a5, β6, γ5, Hmv.out, fun w7 h7 => ?_⟩
            clear hc hf hb Hmv HB
            obtain ⟨hi, hmi⟩ := HI.out
            show cps _ _ _ _ _ _
            have hp : IntKind.i64.wrap ((i : Int) + 1) = ((i + 1 : Nat) : Int) := by rw [IntKind.wrap_i64]; omega
            (refine cps_region O ?_; simp only [List.size_toArray, List.length_cons, List.length_nil, Nat.reduceAdd, Nat.zero_add, List.range, List.range.loop])
            refine valE O rfl (.int .i64 i) rfl rfl (fun _ => by simp [go_sem]) (fun _ => by go_simp; try (first | rfl | (simp [*]))) ?_; try walk_nrm
            refine valE O rfl (.int .i64 (i + 1 : Nat)) rfl rfl (fun _ => by simp [go_sem]) (fun _ => by go_simp; try (first | rfl | (simp [*]))) ?_; try walk_nrm
            refine valE O rfl (.int .i64 (i + 1 : Nat)) rfl rfl (fun _ => by simp [go_sem]) (fun _ => by go_simp; try (first | rfl | (simp [*]))) ?_; try walk_nrm
            refine cpsR_nil O ?_
            exact ⟨m' - 1, by omega, i + 1, by omega, ⟨a5, β6, γ5, h7⟩, ex_fun (φ := fun f => #[seatGate s, .pointer (some ⟨eb, 0, none⟩), .pointer (some ⟨pb, 0, none⟩), .pointer (some ⟨ob, 0, none⟩), .pointer (some ⟨bb, 0, none⟩), f 5, .int .i64 (i + 1 : Nat), f 7, f 8, f 9, f 10, f 11, f 12, f 13, f 14, f 15, f 16, f 17, f 18, f 19, f 20, f 21, f 22, f 23, f 24, f 25, f 26, f 27, f 28, f 29, f 30, f 31, f 32, f 33, f 34, f 35, f 36, f 37, f 38]) rfl⟩
        · have d1 : ¬ (lo : Int) ≤ (su : Int) := by omega
          rw [show β6.ok = false from by rw [hok6]; simp [c1]] at Hmv
          clear hok6
          go_wp2
          refine ⟨rfl, a5, β6, γ5, Hmv.out, fun w7 h7 => ?_⟩
          clear hc hf hb Hmv HB
          obtain ⟨hi, hmi⟩ := HI.out
          show cps _ _ _ _ _ _
          have hp : IntKind.i64.wrap ((i : Int) + 1) = ((i + 1 : Nat) : Int) := by rw [IntKind.wrap_i64]; omega
          (refine cps_region O ?_; simp only [List.size_toArray, List.length_cons, List.length_nil, Nat.reduceAdd, Nat.zero_add, List.range, List.range.loop])
          refine valE O rfl (.int .i64 i) rfl rfl (fun _ => by simp [go_sem]) (fun _ => by go_simp; try (first | rfl | (simp [*]))) ?_; try walk_nrm
          refine valE O rfl (.int .i64 (i + 1 : Nat)) rfl rfl (fun _ => by simp [go_sem]) (fun _ => by go_simp; try (first | rfl | (simp [*]))) ?_; try walk_nrm
          refine valE O rfl (.int .i64 (i + 1 : Nat)) rfl rfl (fun _ => by simp [go_sem]) (fun _ => by go_simp; try (first | rfl | (simp [*]))) ?_; try walk_nrm
          refine cpsR_nil O ?_
          exact ⟨m' - 1, by omega, i + 1, by omega, ⟨a5, β6, γ5, h7⟩, ex_fun (φ := fun f => #[seatGate s, .pointer (some ⟨eb, 0, none⟩), .pointer (some ⟨pb, 0, none⟩), .pointer (some ⟨ob, 0, none⟩), .pointer (some ⟨bb, 0, none⟩), f 5, .int .i64 (i + 1 : Nat), f 7, f 8, f 9, f 10, f 11, f 12, f 13, f 14, f 15, f 16, f 17, f 18, f 19, f 20, f 21, f 22, f 23, f 24, f 25, f 26, f 27, f 28, f 29, f 30, f 31, f 32, f 33, f 34, f 35, f 36, f 37, f 38]) rfl⟩
    · have i1 : ¬ (i : Int) < 8 := by omega
      refine valE O rfl (.bool false) rfl rfl (fun _ => by simp [go_sem]) (fun _ => by go_simp; try (first | rfl | (simp [*]))) ?_; try walk_nrm
      refine cpsR_nil O ?_
      show cps _ _ _ _ _ _
      refine cps_cond O (v := false) rfl ?_
      simp only [Bool.false_eq_true, if_false]
      refine cps_exit O ?_
      rw [ask_stop hi] at h
      exact hQ _ _ _ _ ⟨.inl rfl, .tuple #[], ret0E O rfl rfl, h.done⟩
end
end Go.Proofs.Ytdedmmjmiakidaa
/- patchbaylaw11: made and awake, walked alone. -/
namespace Go.Proofs.Ytdedmmjmiakidaa
open Go.RowKit
set_option linter.unusedVariables false

def prow (T H : Nat) (n : Nat) : Array Value := #[.pointer (some ⟨T, 0, none⟩), .pointer (some ⟨H, 0, none⟩), .int .i64 n]

/-- A pair in memory. -/
structure Pr (P T A H n : Nat) (m hm : List Nat) (w : World) : Prop where
  rP : Row w P (prow T H n) 115
  tal : Tal T A m w
  his : His H hm w
  aT : A < T
  tH : T < H
  hP : H < P

theorem Pr.sm {F : Nat → Prop} {P T A H n : Nat} {m hm : List Nat} {w w' : World} (h : Pr P T A H n m hm w) (k : Sm F w w') (hF : ∀ b, A ≤ b → b ≤ P → ¬ F b) : Pr P T A H n m hm w' :=
  { h with
    rP := h.rP.sm k (hF P (by have := h.aT; have := h.tH; have := h.hP; omega) (Nat.le_refl _))
    tal := h.tal.sm k (hF T (by have := h.aT; omega) (by have := h.tH; have := h.hP; omega)) (hF A (Nat.le_refl _) (by have := h.aT; have := h.tH; have := h.hP; omega))
    his := h.his.sm k (hF H (by have := h.aT; have := h.tH; omega) (by have := h.hP; omega)) }

set_option maxRecDepth 100000 in
theorem made_c (n : Nat) (h0 : 0 < n) (hn : n ≤ 64) (w : World) :
    Calls Try.prog 25 #[.int .i64 n] w fun e w' =>
      ∃ P T A H, w.heap.size ≤ A ∧ e = .returned (.pointer (some ⟨P, 0, none⟩)) ∧ Pr P T A H n (List.replicate n 0) (List.replicate 67 0) w' ∧ Sm (fun _ => False) w w' := by
  go_enter Try.func25, Try.ntmps25
  go_wp2_with fail
  refine (tnew_ok n h0 hn w).mono ?_
  rintro e w1 ⟨rfl, hs1, ht1⟩
  have HS1 := Lib.hid hs1
  have HT1 := Lib.hid ht1
  have HX := Lib.hid (And.intro ht1.rT.lt ht1.rA.lt)
  clear hs1 ht1
  go_wp2_with fail
  refine (newHist_c w1).mono ?_
  rintro e w2 ⟨rfl, hs2, hh2⟩
  have HS2 := Lib.hid hs2
  have HH2 := Lib.hid hh2
  clear hs2 hh2
  go_wp2
  go_ret
  have hx := HX.out
  have hl := HH2.out.r.lt
  refine ⟨w2.heap.size, w.heap.size + 1, w.heap.size, w1.heap.size, Nat.le_refl _, rfl, ⟨Row.new w2 _ _, ?_, ?_, by omega, by omega, hl⟩, (HS1.out.trans HS2.out).alloc _⟩
  · exact (HT1.out.sm HS2.out (fun h => h) (fun h => h)).sm ((Sm.refl (fun _ => False) _).alloc _) (fun h => h) (fun h => h)
  · exact HH2.out.sm ((Sm.refl (fun _ => False) _).alloc _) (fun h => h)

/-- A gate that is notes, beside something else that stays. -/
theorem gate_noteX (B nb : Nat) (X : Nat → Prop) (Y : World → Prop) (hX : ∀ k, X k → k < nb) (hB : B ≤ nb) (hY1 : ∀ w w', Y w → Sm X w w' → Y w') (hY2 : ∀ w w', Y w → Sm (fun b => nb ≤ b) w w' → Y w') :
    GateOk (.iface 61 (.pointer (some ⟨nb, 0, none⟩))) B X (fun w L => (nb < w.heap.size ∧ Noted nb w L) ∧ Y w) where
  step := fun w L op wd hL hg => (tstep_note nb op wd w L hL hg.1.2).mono fun e w' ⟨h1, h2, h3⟩ =>
    ⟨h1, ⟨⟨Nat.lt_of_lt_of_le hg.1.1 h3.size, h2⟩, hY2 w w' hg.2 h3⟩, h3.below (by omega) (fun k hk => by omega), fun k hk => h3.block k (by have := hX k hk; omega) (by have := hX k hk; omega)⟩
  keep := fun w w' L hg k => ⟨⟨Nat.lt_of_lt_of_le hg.1.1 k.size, hg.1.2.sm k (fun b hb hf => by have := hX b hf; omega)⟩, hY1 w w' hg.2 k⟩

theorem setRow_new (w : World) (m : List Nat) (hm : m.length = 67) : (w.alloc (.cells Try.zeroCells26 26)).setRow w.heap.size (uw m) = w.alloc (.cells (uw m) 26) := World.setRow_alloc_new _ _ _ _
theorem wpList_store_new67 {ops : Array Oper} {rest : List Oper} {o : Oper} {a : Act} {w : World} {Q : Exit → Act → World → Prop} (hgd : o.guard = none) (x y : Operand) (ho : o.op = .store 26 x y)
    (hx : a.eval x = .pointer (some ⟨w.heap.size, 0, none⟩)) (m' : List Nat) (hy : a.eval y = .agg (uw m')) (hlen' : m'.length = 67) (h : wpList Try.prog ops Q rest (a.put o.dst undef) (w.alloc (.cells (uw m') 26))) : wpList Try.prog ops Q (o :: rest) a (w.alloc (.cells Try.zeroCells26 26)) := by
  refine wpList_store_u67 hgd x y ho w.heap.size 26 hx (List.replicate 67 0) m' hy (by simp) hlen' (by rw [← zero_ah]; exact Row.new w _ _) ?_
  rw [setRow_new w m' hlen']
  exact h
end Go.Proofs.Ytdedmmjmiakidaa
/- patchbaylaw11.awake, walked alone: true. -/
namespace Go.Proofs.Ytdedmmjmiakidaa
open Go.RowKit
set_option linter.unusedVariables false

theorem padd_nil (P T A H n : Nat) (m hm : List Nat) (i v s : Nat) (hi : i < m.length) (hs : (m[i] + v) % 18446744073709551616 = s) (w : World) (h : Pr P T A H n m hm w) :
    Calls Try.prog 19 #[.pointer (some ⟨T, 0, none⟩), .nilIface, .int .i64 i, .int .u64 v] w fun e w' =>
      e = .returned (.tuple #[.int .u64 s, .int .i64 0]) ∧ Below A w w' ∧ Pr P T A H n (m.set i s) hm w' := by
  have a1 := h.aT
  have a2 := h.tH
  have a3 := h.hP
  refine (tadd_c (gate_nilX A (fun k => k = T ∨ k = A) (fun w => Row w P (prow T H n) 115 ∧ His H hm w) (fun w w' hy k => ⟨hy.1.sm k (by omega), hy.2.sm k (by omega)⟩)) (Nat.le_refl _) m i v s hi hs w [] (by simp) ⟨h.rP, h.his⟩ h.tal).mono ?_
  rintro e w' ⟨h1, h2, h3, h4⟩
  exact ⟨h1, h3, ⟨h2.1, h4, h2.2, a1, a2, a3⟩⟩

theorem phadd_nil (P T A H n : Nat) (m hm : List Nat) (v : Nat) (hv : v < 18446744073709551616) (w : World) (h : Pr P T A H n m hm w) :
    Calls Try.prog 17 #[.pointer (some ⟨H, 0, none⟩), .nilIface, .int .u64 v] w fun e w' =>
      e = .returned (.int .i64 0) ∧ Below A w w' ∧ Pr P T A H n m (come hm v) w' := by
  have a1 := h.aT
  have a2 := h.tH
  have a3 := h.hP
  refine (hadd_c (gate_nilX A (fun k => k = H) (fun w => Row w P (prow T H n) 115 ∧ Tal T A m w) (fun w w' hy k => ⟨hy.1.sm k (by omega), hy.2.sm k (by omega) (by omega)⟩)) (by omega) hm v hv w [] (by simp) ⟨h.rP, h.tal⟩ h.his).mono ?_
  rintro e w' ⟨h1, h2, h3, h4⟩
  exact ⟨h1, h3, ⟨h2.1, h2.2, h4, a1, a2, a3⟩⟩

def awakeMarks : List (Int × Int) := [(3, 3), (3, 65), (1, 66), (5, 66)]
theorem uw_is (m : List Nat) (i x : Nat) (h : m[i]? = some x) : (uw m)[i]? = some (.int .u64 (x : Int)) := by
  simp [uw, h]
theorem len5 : Lib.bitLen 5 = 3 := by decide

/-- Hist.Add(5) of a new histogram, told to notes. -/
theorem phadd_note (nb P T A H n : Nat) (m : List Nat) (w : World) (h : Pr P T A H n m (List.replicate 67 0) w) (hn : Noted nb w []) (hP : P < nb) (hnb : nb < w.heap.size) :
    Calls Try.prog 17 #[.pointer (some ⟨H, 0, none⟩), .iface 61 (.pointer (some ⟨nb, 0, none⟩)), .int .u64 5] w fun e w' =>
      e = .returned (.int .i64 0) ∧ Below A w w' ∧ Pr P T A H n m (come (List.replicate 67 0) 5) w' ∧ Noted nb w' awakeMarks ∧ nb < w'.heap.size := by
  have a1 := h.aT
  have a2 := h.tH
  have a3 := h.hP
  refine (hadd_c (gate_noteX A nb (fun k => k = H) (fun w => Row w P (prow T H n) 115 ∧ Tal T A m w) (by omega) (by omega) (fun w w' hy k => ⟨hy.1.sm k (by omega), hy.2.sm k (by omega) (by omega)⟩)
    (fun w w' hy k => ⟨hy.1.sm k (by omega), hy.2.sm k (by omega) (by omega)⟩)) (by omega) (List.replicate 67 0) 5 (by decide) w [] (by simp) ⟨⟨hnb, hn⟩, h.rP, h.tal⟩ h.his).mono ?_
  rintro e w' ⟨h1, h2, h3, h4⟩
  rw [len5] at h2
  exact ⟨h1, h3, ⟨h2.2.1, h2.2.2, h4, a1, a2, a3⟩, h2.1.2, h2.1.1⟩

set_option maxRecDepth 100000 in
set_option maxHeartbeats 800000 in
theorem awake_c (w : World) :
    Calls Try.prog 14 #[] w fun e w' => e = .returned (.bool true) ∧ Sm (fun _ => False) w w' := by
  go_enter Try.func14, Try.ntmps14
  go_wp2_with fail
  refine (made_c 2 (by decide) (by decide) w).mono ?_
  rintro e w1 ⟨P, T, A, H, hA, rfl, hp1, hs1⟩
  have c0 : w1.cell? ⟨P, 0, none⟩ = some (.pointer (some ⟨T, 0, none⟩)) := hp1.rP.cell 0
  have HP1 := Lib.hid hp1
  have HS1 := Lib.hid hs1
  clear hp1 hs1
  go_wp2_with fail
  refine (padd_nil P T A H 2 _ _ 0 5 5 (by decide) (by decide) w1 HP1.out).mono ?_
  rintro e w2 ⟨rfl, hb2, hp2⟩
  have c0' : w2.cell? ⟨P, 0, none⟩ = some (.pointer (some ⟨T, 0, none⟩)) := hp2.rP.cell 0
  have HP2 := Lib.hid hp2
  clear hp2 c0
  go_wp2_with fail
  refine (padd_nil P T A H 2 _ _ 1 2 2 (by decide) (by decide) w2 HP2.out).mono ?_
  rintro e w3 ⟨rfl, hb3, hp3⟩
  have c0 : w3.cell? ⟨P, 0, none⟩ = some (.pointer (some ⟨T, 0, none⟩)) := hp3.rP.cell 0
  have HP3 := Lib.hid hp3
  clear hp3 c0'
  go_wp2_with fail
  refine (tsum_c T A _ w3 HP3.out.tal).mono ?_
  rintro e w4 ⟨rfl, hs4⟩
  rw [show ((wsum (((List.replicate 2 0).set 0 5).set 1 2) : Nat) : Int) = 7 by decide]
  have HS4 := Lib.hid hs4
  have HP4 := Lib.hid (HP3.out.sm hs4 (fun _ _ _ h => h))
  clear hs4 c0
  go_wp2_with fail
  refine (newNotes_c w4).mono ?_
  rintro e w5 ⟨rfl, hs5, hn5, hz5⟩
  have HP5 := Lib.hid (HP4.out.sm hs5 (fun _ _ _ h => h))
  have HS5 := Lib.hid hs5
  have HPN := Lib.hid HP4.out.rP.lt
  have HN5 := Lib.hid hn5
  have c0 : w5.cell? ⟨P, 1, none⟩ = some (.pointer (some ⟨H, 0, none⟩)) := HP5.out.rP.cell 1
  clear hs5 hn5
  go_wp2_with fail
  refine (phadd_note w4.heap.size P T A H 2 _ w5 HP5.out HN5.out HPN.out (by omega)).mono ?_
  rintro e w6 ⟨rfl, hb6, hp6, hn6, hz6⟩
  have HP6 := Lib.hid hp6
  have HN6 := Lib.hid hn6
  have c0' : w6.cell? ⟨P, 1, none⟩ = some (.pointer (some ⟨H, 0, none⟩)) := hp6.rP.cell 1
  clear hp6 hn6 c0
  obtain ⟨m, hm⟩ : ∃ m, m = come (List.replicate 67 0) 5 := ⟨_, rfl⟩
  have HM := Lib.hid hm
  have HP6 := HP6
  rw [← hm] at HP6
  clear hm
  have hml : m.length = 67 := HP6.out.his.len
  go_wp2_with fail
  refine (hget_c H m w6 HP6.out.his).mono ?_
  rintro e w7 ⟨rfl, hs7⟩
  have HS7 := Lib.hid hs7
  have HN7 := Lib.hid (HN6.out.sm hs7 (fun _ _ h => h))
  clear hs7
  go_wp2_with (first
    | refine wpList_store_new67 rfl (.tmp 10) (.tmp 54) rfl (by simp [Act.eval]) m (by simp [Act.eval]) hml ?_
    | refine (marks_c w4.heap.size awakeMarks _ ((HN7.out.alloc _).alloc _) (by decide)).mono ?_)
  rintro e w8 ⟨v8, rfl, h8, hb8⟩
  have H8 := Lib.hid h8
  have hmw : ((w7.alloc (.cells (uw m) 26 (0, 0))).alloc (.cells #[.int .u8 3, .int .i64 3, .int .u8 3, .int .i64 65, .int .u8 1, .int .i64 66, .int .u8 5, .int .i64 66] 118 (0, 0))).heap.size = w7.heap.size + 2 := by simp
  have q1 : Row w8 w7.heap.size (uw m) 26 := ((Row.new w7 _ _).alloc _).sm hb8 (fun h => h)
  have q2 : Row w8 (w7.heap.size + 1) (mks awakeMarks).toArray 118 := by
    have := Row.new (w7.alloc (.cells (uw m) 26 (0, 0))) (mks awakeMarks).toArray 118
    simp only [World.size_alloc] at this
    exact this.sm hb8 (fun h => h)
  have HQ1 := Lib.hid q1
  have HQ2 := Lib.hid q2
  have HB8 := Lib.hid hb8
  clear h8 q1 q2 hb8
  go_wp2_with (refine (sameMarks_c v8 _ awakeMarks awakeMarks w8 (own_zero H8.out) (own_row HQ2.out 4 2 rfl (by unfold maxLen; omega)) (by decide)).mono ?_)
  rintro e w9 ⟨rfl⟩
  intro hb9
  have q9 : Row w9 w7.heap.size (uw m) 26 := HQ1.out.sm hb9 (fun h => h)
  have g3 : w9.cell? ⟨w7.heap.size, 3, none⟩ = some (.int .u64 1) := by
    rw [q9.cell 3, HM.out]; exact uw_is _ 3 1 (by decide)
  have g5 : w9.cell? ⟨w7.heap.size, 65, none⟩ = some (.int .u64 5) := by
    rw [q9.cell 65, HM.out]; exact uw_is _ 65 5 (by decide)
  have g6 : w9.cell? ⟨w7.heap.size, 66, none⟩ = some (.int .u64 5) := by
    rw [q9.cell 66, HM.out]; exact uw_is _ 66 5 (by decide)
  have HB9 := Lib.hid hb9
  clear q9 hb9
  go_wp2
  go_ret
  refine ⟨rfl, ?_⟩
  have hAw := HP1.out.aT
  have hb6' : Below w.heap.size w5 w6 := ⟨hb6.os, hb6.tape, hb6.output, hb6.size, fun k hk => hb6.block k (by omega)⟩
  have f : ∀ {a b : World}, Below A a b → w.heap.size ≤ a.heap.size → Sm (fun k => w.heap.size ≤ k) a b := fun h _ => ⟨h.os, h.tape, h.output, h.size, fun k hk hf => h.block k (by omega)⟩
  have s1 := HS1.out
  have z1 := s1.size
  have s2 := f hb2 z1
  have z2 := s2.size
  have s3 := f hb3 (by omega)
  have z3 := s3.size
  have s4 := HS4.out
  have z4 := s4.size
  have s5 := HS5.out
  have z5 := s5.size
  have s6 := f hb6 (by omega)
  have g : ∀ {a b : World}, Sm (fun _ => False) a b → Sm (fun k => w.heap.size ≤ k) a b := fun h => h.mono (fun _ x => x.elim)
  have all := (((((((g s1).trans s2).trans s3).trans (g s4)).trans (g s5)).trans s6).trans (g HS7.out))
  have all2 := (((all.alloc _).alloc _).trans (g HB8.out)).trans (g HB9.out)
  exact ⟨all2.os, all2.tape, all2.output, all2.size, fun k hk _ => all2.block k hk (by omega)⟩
end Go.Proofs.Ytdedmmjmiakidaa
/- Plain words: patchbaylaw11.few, walked alone: where the rows lie that it hands on. No condition. -/
namespace Go.Proofs.Ytdedmmjmiakidaa
open Go.RowKit
set_option linter.unusedVariables false
set_option linter.unusedSimpArgs false
theorem info_u64s : (Try.prog.info? 38).map (fun i => (i.zero, i.size, i.bytes)) = some (some (.slice none 0 0), 1, 24) := by kernel_rfl
/-- A row of numbers that lies in memory. -/
def GoodRowX (X : Nat → Prop) (most : Nat) (w : World) (u : Value) : Prop :=
  ∃ (a : Option Addr) (l c : Nat), u = .slice a l c ∧ l ≤ most ∧ l ≤ c ∧ ∀ j, j < l → ∃ b o x, a = some ⟨b, o, none⟩ ∧ b < w.heap.size ∧ x < 18446744073709551616 ∧ w.cell? ⟨b, o + j, none⟩ = some (.int .u64 ((x : Nat) : Int)) ∧ X b

theorem GoodRowX.sm {X : Nat → Prop} {most : Nat} {w w' : World} {u : Value} (h : GoodRowX X most w u) (k : Sm (fun _ => False) w w') : GoodRowX X most w' u := by
  obtain ⟨a, l, c, rfl, h1, h2, h3⟩ := h
  refine ⟨a, l, c, rfl, h1, h2, fun j hj => ?_⟩
  obtain ⟨b, o, x, h4, h5, h6, h7, h8⟩ := h3 j hj
  exact ⟨b, o, x, h4, Nat.lt_of_lt_of_le h5 k.size, h6, (k.cell h5 (fun h => h)).trans h7, h8⟩

theorem GoodRowX.cut {X : Nat → Prop} {m1 most : Nat} {w : World} {a : Option Addr} {l c : Nat} (h : GoodRowX X m1 w (.slice a l c)) (k : Nat) (hk : k ≤ most) (hl : k ≤ l) : GoodRowX X most w (.slice a k c) := by
  obtain ⟨a', l', c', e, h1, h2, h3⟩ := h
  simp only [Value.slice.injEq] at e
  obtain ⟨rfl, rfl, rfl⟩ := e
  exact ⟨a, k, c, rfl, hk, by omega, fun j hj => h3 j (by omega)⟩

/-- The rows of an argument. -/
structure RowsArgX (X : Nat → Prop) (b off n : Nat) (V : Nat → Value) (w : World) : Prop where
  hd : ∀ r, r < n → w.cell? ⟨b, off + r, none⟩ = some (V r)
  ok : ∀ r, r < n → ∃ m, GoodRowX X m w (V r)
  old : 0 < n → b < w.heap.size
theorem RowsArgX.sm {X : Nat → Prop} {b off n : Nat} {V : Nat → Value} {w w' : World} (h : RowsArgX X b off n V w) (k : Sm (fun _ => False) w w') : RowsArgX X b off n V w' :=
  ⟨fun r hr => (k.cell (h.old (by omega)) (fun h => h)).trans (h.hd r hr), fun r hr => (h.ok r hr).elim fun m hm => ⟨m, hm.sm k⟩, fun h0 => Nat.lt_of_lt_of_le (h.old h0) k.size⟩

theorem info_rowX : (Try.prog.info? 38).map (fun i => (i.zero, i.size, i.bytes)) = some (some (.slice none 0 0), 1, 24) := by kernel_rfl

set_option maxRecDepth 100000 in
set_option maxHeartbeats 1600000 in
theorem few_cX {X : Nat → Prop} (a : Option Addr) (b off n c most : Nat) (V : Nat → Value) (ha : 0 < n → a = some ⟨b, off, none⟩) (hn : n ≤ 9223372036854775807) (hm : most ≤ 1000) (h1 : 0 < most) (w : World) (hX : ∀ b, w.heap.size ≤ b → X b) (h : RowsArgX X b off n V w) :
    Calls Try.prog 15 #[.slice a n c, .int .i64 most] w fun e w' =>
      ∃ v xs, e = .returned v ∧ w'.ownsRow w.heap.size 38 1 v xs.length xs ∧ 0 < xs.length ∧ xs.length ≤ 6 ∧ (∀ u ∈ xs, GoodRowX X most w' u) ∧ Sm (fun _ => False) w w' := by
  obtain ⟨i0, hi, hz0, hz1, hz2⟩ := info_parts info_rowX
  have Hi := Lib.hid hi
  have Hz0 := Lib.hid hz0
  have Hz1 := Lib.hid hz1
  have Hz2 := Lib.hid hz2
  have HH := Lib.hid h
  have HA := Lib.hid ha
  clear hi hz0 hz1 hz2 h ha
  go_enter Try.func15, Try.ntmps15
  go_wp2
  go_loopw [5, 6] (fun s5 s6 wr => ∃ k : Nat, k ≤ n ∧ k ≤ 6 ∧ s6 = .int .i64 k ∧ (∃ xs : List Value, xs.length = k ∧ Hid (wr.ownsRow w.heap.size 38 1 s5 k xs) ∧ Hid (∀ u ∈ xs, GoodRowX X most w u)) ∧ Hid (Sm (fun _ => False) w wr)) (fun s5 s6 _ => n - (intOf s6).toNat)
  case atStart => exact ⟨0, by omega, by omega, rfl, ⟨[], rfl, Lib.hid (World.ownsRow_nil _ _ _ _), Lib.hid (by simp)⟩, Lib.hid (Sm.refl _ _)⟩
  case round =>
    obtain ⟨k, hk, hk6, rfl, ⟨xs, hxl, hown, hgood⟩, hS⟩ := hrel
    by_cases hlt : k < n
    · have j1 : (k : Int) < (n : Int) := by omega
      by_cases h6 : k < 6
      · have j6 : (k : Int) < 6 := by omega
        have hp : wrap64 ((k : Int) + 1) = ((k + 1 : Nat) : Int) := by unfold wrap64; omega
        have HP := Lib.hid hp
        clear hp
        have hA1 := HA.out (by omega)
        subst hA1
        have hr := HH.out.sm hS.out
        have hc := hr.hd k hlt
        obtain ⟨m1, hg⟩ := HH.out.ok k hlt
        obtain ⟨ra, rl, rc, hV, hrl, hrc, hrd⟩ := hg
        rw [hV] at hc
        have HV := Lib.hid (show GoodRowX X m1 w (.slice ra rl rc) from ⟨ra, rl, rc, rfl, hrl, hrc, hrd⟩)
        obtain ⟨a5, c5, hv5⟩ := own_form0 hown.out
        subst hv5
        clear hr hrd hV
        by_cases hbig : (most : Int) < (rl : Int)
        · skip
          go_wp2_with (at_builtin; refine wpList_append_own _ rfl (.tmp 29) (.tmp 31) 34 rfl w.heap.size 38 i0 (.slice none 0 0) 1 24 Try.underlying34 Hi.out Hz0.out Hz1.out Hz2.out rfl (by decide) _ k xs rfl (hown.out.alloc _) ⟨wr.heap.size, 0, none⟩ 1 1 [.slice ra most rc] rfl rfl (new_cells wr [.slice ra most rc] 38) (by simp [Value.oneCell']) (by unfold maxLen; omega) (by omega) (by have := hS.out.size; simp; omega) ?_; intro v' w4 hown4 hgr4 _)
          have n1 : Hid (w4.ownsRow w.heap.size 38 1 v' (k + 1) (xs ++ [.slice ra most rc])) := Lib.hid hown4
          have n2 : Hid (∀ u ∈ xs ++ [.slice ra most rc], GoodRowX X most w u) := Lib.hid (fun u hu => by
            rcases List.mem_append.1 hu with h | h
            · exact hgood.out u h
            · rw [List.mem_singleton.1 h]
              have hg := HV.out
              exact hg.cut most (Nat.le_refl _) (by omega))
          have n3 : Hid (Sm (fun _ => False) w w4) := Lib.hid (by
            have z := hS.out.size
            exact ⟨hgr4.os.trans hS.out.os, hgr4.tape.trans hS.out.tape, hgr4.output.trans hS.out.output, by have := hgr4.size; simp at this; omega, fun j hj hf => (hgr4.block j (by simp; omega) (fun e => by have := (hown.out.lt j e.symm).1; omega)).trans ((Below.heap_alloc _ _ _ (by omega)).trans (hS.out.block j hj hf))⟩)
          go_wp2
          go_roundw
          case rel => exact ⟨k + 1, by omega, by omega, by first | rw [HP.out] | go_num, ⟨_, by simp [hxl], n1, n2⟩, n3⟩
          case measure => (try rw [HP.out]); simp only [intOf]; omega
        · skip
          go_wp2_with (at_builtin; refine wpList_append_own _ rfl (.tmp 29) (.tmp 31) 34 rfl w.heap.size 38 i0 (.slice none 0 0) 1 24 Try.underlying34 Hi.out Hz0.out Hz1.out Hz2.out rfl (by decide) _ k xs rfl (hown.out.alloc _) ⟨wr.heap.size, 0, none⟩ 1 1 [.slice ra rl rc] rfl rfl (new_cells wr [.slice ra rl rc] 38) (by simp [Value.oneCell']) (by unfold maxLen; omega) (by omega) (by have := hS.out.size; simp; omega) ?_; intro v' w4 hown4 hgr4 _)
          have n1 : Hid (w4.ownsRow w.heap.size 38 1 v' (k + 1) (xs ++ [.slice ra rl rc])) := Lib.hid hown4
          have n2 : Hid (∀ u ∈ xs ++ [.slice ra rl rc], GoodRowX X most w u) := Lib.hid (fun u hu => by
            rcases List.mem_append.1 hu with h | h
            · exact hgood.out u h
            · rw [List.mem_singleton.1 h]
              have hg := HV.out
              exact hg.cut rl (by omega) (Nat.le_refl _))
          have n3 : Hid (Sm (fun _ => False) w w4) := Lib.hid (by
            have z := hS.out.size
            exact ⟨hgr4.os.trans hS.out.os, hgr4.tape.trans hS.out.tape, hgr4.output.trans hS.out.output, by have := hgr4.size; simp at this; omega, fun j hj hf => (hgr4.block j (by simp; omega) (fun e => by have := (hown.out.lt j e.symm).1; omega)).trans ((Below.heap_alloc _ _ _ (by omega)).trans (hS.out.block j hj hf))⟩)
          go_wp2
          go_roundw
          case rel => exact ⟨k + 1, by omega, by omega, by first | rw [HP.out] | go_num, ⟨_, by simp [hxl], n1, n2⟩, n3⟩
          case measure => (try rw [HP.out]); simp only [intOf]; omega
      · have j6 : ¬ (k : Int) < 6 := by omega
        have hk0 : 0 < k := by omega
        obtain ⟨a5, c5, hv5⟩ := own_form0 hown.out
        subst hv5
        have HO := Lib.hid (show wr.ownsRow w.heap.size 38 1 (.slice a5 k c5) xs.length xs by rw [hxl]; exact hown.out)
        have hkz : ((k : Int) == 0) = false := by rw [beq_eq_false_iff_ne]; omega
        go_wp2
        go_ret
        exact ⟨_, rfl, xs, HO.out, by omega, by omega, fun u hu => (hgood.out u hu).sm hS.out, hS.out⟩
    · have j1 : ¬ (k : Int) < (n : Int) := by omega
      by_cases hk0 : 0 < k
      · skip
        obtain ⟨a5, c5, hv5⟩ := own_form0 hown.out
        subst hv5
        have HO := Lib.hid (show wr.ownsRow w.heap.size 38 1 (.slice a5 k c5) xs.length xs by rw [hxl]; exact hown.out)
        have hkz : ((k : Int) == 0) = false := by rw [beq_eq_false_iff_ne]; omega
        go_wp2
        go_ret
        exact ⟨_, rfl, xs, HO.out, by omega, by omega, fun u hu => (hgood.out u hu).sm hS.out, hS.out⟩
      · obtain rfl : k = 0 := by omega
        obtain rfl : xs = [] := List.eq_nil_of_length_eq_zero hxl
        obtain ⟨a5, c5, hv5⟩ := own_form0 hown.out
        subst hv5
        go_wp2_with (at_builtin; refine wpList_append_own _ rfl (.tmp 36) (.tmp 38) 34 rfl w.heap.size 38 i0 (.slice none 0 0) 1 24 Try.underlying34 Hi.out Hz0.out Hz1.out Hz2.out rfl (by decide) _ 0 [] rfl ((hown.out.alloc _).alloc _) ⟨wr.heap.size + 1, 0, none⟩ 1 1 [.slice (some ⟨wr.heap.size, 0, none⟩) 1 1] rfl rfl (by have := new_cells (wr.alloc (.cells #[.int .u64 1] 23)) [.slice (some ⟨wr.heap.size, 0, none⟩) 1 1] 38; simpa using this) (by simp [Value.oneCell']) (by unfold maxLen; omega) (by omega) (by have := hS.out.size; simp; omega) ?_; intro v' w4 hown4 hgr4 _)
        have z := hS.out.size
        have e1 : Row w4 wr.heap.size #[.int .u64 1] 23 := by
          have r := ((Row.new wr #[.int .u64 1] 23).alloc (.cells #[.slice (some ⟨wr.heap.size, 0, none⟩) 1 1] 38 (0, 0)))
          exact r.grown hgr4 (fun e => by have := (hown.out.lt _ e).2; omega)
        have g1 : GoodRowX X most w4 (.slice (some ⟨wr.heap.size, 0, none⟩) 1 1) := by
          refine ⟨_, 1, 1, rfl, by omega, by omega, fun j hj => ⟨wr.heap.size, 0, 1, rfl, e1.lt, by omega, ?_⟩⟩
          obtain rfl : j = 0 := by omega
          exact ⟨e1.cell 0, hX _ (by omega)⟩
        have n3 : Sm (fun _ => False) w w4 :=
          ⟨hgr4.os.trans hS.out.os, hgr4.tape.trans hS.out.tape, hgr4.output.trans hS.out.output, by have := hgr4.size; simp at this; omega, fun j hj hf => (hgr4.block j (by simp; omega) (fun e => by have := (hown.out.lt j e.symm).1; omega)).trans ((Below.heap_alloc _ _ _ (by simp; omega)).trans ((Below.heap_alloc _ _ _ (by omega)).trans (hS.out.block j hj hf)))⟩
        go_wp2
        go_ret
        exact ⟨_, rfl, [.slice (some ⟨wr.heap.size, 0, none⟩) 1 1], hown4, by simp, by simp, by simpa using g1, n3⟩

def numOf : Option Value → Nat
  | some (.int _ x) => x.toNat
  | _ => 0
def atOf : Option Addr → Nat → Addr
  | some ⟨b, o, _⟩, j => ⟨b, o + j, none⟩
  | none, j => ⟨0, j, none⟩
/-- Rows of numbers that lie in memory. -/
structure NumsOwn (X : Nat → Prop) (g m most : Nat) (Z : Nat → List Nat) (ea : Nat → Option Addr) (ec : Nat → Nat) (w : World) : Prop where
  hd : ∀ r, r < m → w.cell? ⟨g, r, none⟩ = some (.slice (ea r) (Z r).length (ec r))
  le : ∀ r, (Z r).length ≤ most
  lt : ∀ r j, (Z r).getD j 0 < 18446744073709551616
  dat : ∀ r, r < m → ∀ j, j < (Z r).length → ∃ b o, ea r = some ⟨b, o, none⟩ ∧ b < w.heap.size ∧ w.cell? ⟨b, o + j, none⟩ = some (.int .u64 ((Z r).getD j 0 : Nat)) ∧ X b
theorem nums_of {X : Nat → Prop} {g m cap most : Nat} {xs : List Value} {w : World} {base : Nat} (hm : m = xs.length) (hown : w.ownsRow base 38 1 (.slice (some ⟨g, 0, none⟩) m cap) m xs) (hgood : ∀ u ∈ xs, GoodRowX X most w u) :
    ∃ (Z : Nat → List Nat) (ea : Nat → Option Addr) (ec : Nat → Nat), NumsOwn X g m most Z ea ec w := by
  have key : ∀ r, ∃ y : List Nat × Option Addr × Nat, y.1.length ≤ most ∧ (∀ j, y.1.getD j 0 < 18446744073709551616) ∧ (r < m → w.cell? ⟨g, r, none⟩ = some (.slice y.2.1 y.1.length y.2.2) ∧ ∀ j, j < y.1.length → ∃ b o, y.2.1 = some ⟨b, o, none⟩ ∧ b < w.heap.size ∧ w.cell? ⟨b, o + j, none⟩ = some (.int .u64 (y.1.getD j 0 : Nat)) ∧ X b) := fun r => by
    by_cases hr : r < m
    · obtain ⟨a, n, c, e, h1, h2, h3⟩ := hgood xs[r] (List.getElem_mem (by omega))
      have h4 := hown.cells (g := g) rfl r xs[r] (List.getElem?_eq_getElem (by omega))
      have e2 : (⟨g, 0, none⟩ : Addr).add r = ⟨g, r, none⟩ := by
        unfold Addr.add
        split <;> simp_all
      rw [e2, e] at h4
      have hg : ∀ j, j < n → ((List.range n).map fun j => numOf (w.cell? (atOf a j))).getD j 0 = numOf (w.cell? (atOf a j)) := fun j hj => by simp [List.getD_eq_getElem?_getD, hj]
      have h3' : ∀ j, j < n → ∃ b o x, a = some ⟨b, o, none⟩ ∧ b < w.heap.size ∧ x < 18446744073709551616 ∧ w.cell? ⟨b, o + j, none⟩ = some (.int .u64 ((x : Nat) : Int)) ∧ numOf (w.cell? (atOf a j)) = x ∧ X b := fun j hj => by
        obtain ⟨b, o, x, g1, g2, g3, g4, g5⟩ := h3 j hj
        refine ⟨b, o, x, g1, g2, g3, g4, ?_, g5⟩
        subst g1
        show numOf (w.cell? ⟨b, o + j, none⟩) = x
        rw [g4]
        simp [numOf]
      refine ⟨((List.range n).map fun j => numOf (w.cell? (atOf a j)), a, c), by simpa using h1, fun j => ?_, fun _ => ⟨by simpa using h4, fun j hj => ?_⟩⟩
      · by_cases hj : j < n
        · obtain ⟨b, o, x, g1, g2, g3, g4, g5, g6⟩ := h3' j hj
          show ((List.range n).map fun j => numOf (w.cell? (atOf a j))).getD j 0 < _
          rw [hg j hj, g5]; exact g3
        · show ((List.range n).map fun j => numOf (w.cell? (atOf a j))).getD j 0 < _
          rw [List.getD_eq_getElem?_getD, List.getElem?_eq_none (by simp; omega)]
          decide
      · have hj : j < n := by simpa using hj
        obtain ⟨b, o, x, g1, g2, g3, g4, g5, g6⟩ := h3' j hj
        refine ⟨b, o, g1, g2, ?_, g6⟩
        show _ = some (Value.int .u64 ((((List.range n).map fun j => numOf (w.cell? (atOf a j))).getD j 0 : Nat) : Int))
        rw [hg j hj, g5]; exact g4
    · exact ⟨([], none, 0), Nat.zero_le _, fun j => by simp, fun h => absurd h hr⟩
  refine ⟨fun r => (Classical.choose (key r)).1, fun r => (Classical.choose (key r)).2.1, fun r => (Classical.choose (key r)).2.2, fun r hr => ((Classical.choose_spec (key r)).2.2 hr).1, fun r => (Classical.choose_spec (key r)).1, fun r => (Classical.choose_spec (key r)).2.1, fun r hr => ((Classical.choose_spec (key r)).2.2 hr).2⟩
end Go.Proofs.Ytdedmmjmiakidaa
/- Plain words: TallyBetween's play, told apart from memory: every order ends, and all is well. No condition. -/
namespace Go.Proofs.Ytdedmmjmiakidaa
open Go.Conc Go.RowKit
open Go.ConcN (sumTo upd sumTo_upd upd_ne upd_same sumTo_congr le_sumTo)
theorem sum_getD (l : List Nat) : l.sum = sumTo l.length (fun j => l.getD j 0) := by
  have key : ∀ N, N ≤ l.length → (l.take N).sum = sumTo N (fun j => l.getD j 0) := fun N => by
    induction N with
    | zero => intro _; rfl
    | succ N ih =>
      intro hN
      rw [List.take_succ_eq_append_getElem (by omega), List.sum_append, ih (by omega), List.sum_singleton]
      show _ + l[N] = sumTo N _ + l.getD N 0
      rw [List.getD_eq_getElem?_getD, List.getElem?_eq_getElem (by omega)]
      rfl
  have := key l.length (Nat.le_refl _)
  rwa [List.take_length] at this
theorem startF_run {Y : Core} (f : Nat → Y.St → Y.St × Option Y.Pc) (st : Nat → Y.St) (q : Nat → Option Y.Pc) {M : Nat} (h : ∀ K, K < M → f K (st K) = (st (K + 1), q K)) : ∀ K, K ≤ M → startF ((List.range K).map f) (⟨st 0, [], []⟩ : PSt Y) = ⟨st K, (List.range K).map q, []⟩
  | 0, _ => rfl
  | K + 1, hK => by
    have ih := startF_run f st q h K (by omega)
    have key : ∀ (l : List (Y.St → Y.St × Option Y.Pc)) (g : Y.St → Y.St × Option Y.Pc) (σ : PSt Y), startF (l ++ [g]) σ = ⟨(g (startF l σ).a).1, (startF l σ).ps ++ [(g (startF l σ).a).2], (startF l σ).tr⟩ := fun l g => by
      induction l with
      | nil => intro σ; rfl
      | cons x l ih => intro σ; exact ih _
    rw [List.range_succ, List.map_append, List.map_append]
    simp only [List.map_cons, List.map_nil]
    rw [key, ih]
    simp only [h K (by omega)]
section
variable {B T A H N m : Nat} {rows : List (List Nat)} {old : Old} {bb eb ob : Nat}
abbrev BSt (B T A H N m : Nat) (rows : List (List Nat)) (old : Old) (bb eb ob : Nat) := PSt (bwK B T A H N m rows old bb eb ob).core
theorem bw_next (p : TPos × BwC) (a : TSt) (β : BwB) : (bwK B T A H N m rows old bb eb ob).core.next p (a, β) = (((bwStep rows N m p a β).1, (bwStep rows N m p a β).2.1), (bwStep rows N m p a β).2.2) := by
  obtain ⟨p, c⟩ := p
  show (bwK B T A H N m rows old bb eb ob).after c (p.exec a) β = _
  unfold bwStep Client.after
  generalize p.exec a = d
  obtain ⟨a', q | r⟩ := d
  · rfl
  · rfl
def bwSt (rows : List (List Nat)) (N m k : Nat) (σ : TSt × BwB) : (TSt × BwB) × Option (TPos × BwC) := ((σ.1, (bwNext rows N m k 0 σ.2).1), (bwNext rows N m k 0 σ.2).2)
def q0 (rows : List (List Nat)) (N m k : Nat) : Option (TPos × BwC) := (bwNext rows N m k 0 ⟨0, 0, true⟩).2
theorem q0_pre {k : Nat} (hk : k < m) : pre rows k (ixOf rows k (q0 rows N m k)) = 0 := by
  unfold q0 bwNext
  rw [if_pos hk]
  split
  · rfl
  · show pre rows k (rowOf rows k).length = 0
    rw [show (rowOf rows k).length = 0 from by omega]
    rfl
theorem q0_le {K : Nat} (hK : K ≤ m) : sumTo K (fun k => pend (q0 rows N m k)) ≤ total rows m := by
  refine Nat.le_trans (sumTo_pre hK) (sumTo_mono fun k hk => ?_)
  have := okA_le (next_okA (rows := rows) (N := N) (i := 0) hk (β := ⟨0, 0, true⟩))
  unfold q0
  omega
def qS (rows : List (List Nat)) (N m K : Nat) : Option (TPos × BwC) := if K < m then q0 rows N m K else some (.part 0 [], (m, 0, 0))
def stS (rows : List (List Nat)) (N m : Nat) (a : TSt) (K : Nat) : TSt × BwB := (a, ⟨sumTo (min K m) (fun k => pend (q0 rows N m k)), 0, true⟩)
theorem st_step {a : TSt} (hT : total rows m < 9223372036854775808) {K : Nat} (hK : K < m + 1) : bwSt rows N m K (stS rows N m a K) = (stS rows N m a (K + 1), qS rows N m K) := by
  unfold stS qS
  by_cases hk : K < m
  · have hb := q0_le (rows := rows) (N := N) (m := m) (K := K + 1) (by omega)
    have e1 : sumTo (K + 1) (fun k => pend (q0 rows N m k)) = sumTo K (fun k => pend (q0 rows N m k)) + pend (q0 rows N m K) := rfl
    rw [show min K m = K by omega, show min (K + 1) m = K + 1 by omega, if_pos hk]
    rw [e1] at hb ⊢
    unfold bwSt
    generalize sumTo K (fun k => pend (q0 rows N m k)) = SS at hb ⊢
    unfold q0 bwNext at hb ⊢
    simp only [if_pos hk] at hb ⊢
    by_cases hl : 0 < (rowOf rows K).length
    · simp only [if_pos hl, pend] at hb ⊢
      rw [show w64 (SS + bv rows K 0) = SS + bv rows K 0 from Nat.mod_eq_of_lt (by omega)]
    · simp only [if_neg hl, pend]
      rfl
  · obtain rfl : K = m := by omega
    rw [show min (K + 1) K = min K K by omega, if_neg hk]
    unfold bwSt bwNext
    simp only [if_neg (Nat.lt_irrefl _)]
    rfl
theorem bw_begins {a : TSt} (ha : a.s = List.replicate N 0) (hN : 0 < N) (hT : total rows m < 9223372036854775808) : ∃ β, startF ((List.range (m + 1)).map (bwSt rows N m)) (⟨(a, (⟨0, 0, true⟩ : BwB)), [], []⟩ : BSt B T A H N m rows old bb eb ob) = (⟨(a, β), (List.range (m + 1)).map (qS rows N m), []⟩ : BSt B T A H N m rows old bb eb ob) ∧
    BwInv rows N m a β ((List.range (m + 1)).map (qS rows N m)) := by
  refine ⟨⟨sumTo (min (m + 1) m) (fun k => pend (q0 rows N m k)), 0, true⟩, ?_, ?_⟩
  · have h0 : stS rows N m a 0 = (a, ⟨0, 0, true⟩) := by unfold stS; rw [show min 0 m = 0 by omega]; rfl
    have := startF_run (Y := (bwK B T A H N m rows old bb eb ob).core) (bwSt rows N m) (stS rows N m a) (qS rows N m) (M := m + 1) (fun K hK => st_step hT hK) (m + 1) (Nat.le_refl _)
    have key : ∀ x : TSt × BwB, x = (a, ⟨0, 0, true⟩) → startF ((List.range (m + 1)).map (bwSt rows N m)) (⟨x, [], []⟩ : BSt B T A H N m rows old bb eb ob) = (⟨stS rows N m a (m + 1), (List.range (m + 1)).map (qS rows N m), []⟩ : BSt B T A H N m rows old bb eb ob) → startF ((List.range (m + 1)).map (bwSt rows N m)) (⟨(a, (⟨0, 0, true⟩ : BwB)), [], []⟩ : BSt B T A H N m rows old bb eb ob) = (⟨stS rows N m a (m + 1), (List.range (m + 1)).map (qS rows N m), []⟩ : BSt B T A H N m rows old bb eb ob) := fun x e h => by subst e; exact h
    exact key _ h0 this
  · rw [show min (m + 1) m = m by omega]
    have hat : ∀ k, k < m → ((List.range (m + 1)).map (qS rows N m)).getD k none = q0 rows N m k := fun k hk => by
      rw [List.getD_eq_getElem?_getD]
      simp [show k < m + 1 by omega, qS, hk]
    have hlast : ((List.range (m + 1)).map (qS rows N m)).getD m none = some (TPos.part 0 [], (m, 0, 0)) := by
      rw [List.getD_eq_getElem?_getD]
      simp [qS]
    have hz : ∀ n, sumTo n (fun t => a.s.getD t 0) = 0 := fun n => by
      rw [sumTo_congr (g := fun _ => 0) fun t _ => ?_, sumTo_zero]
      rw [ha, List.getD_eq_getElem?_getD, List.getElem?_replicate]
      split <;> rfl
    refine ⟨by simp, by rw [ha]; simp, fun k hk => by rw [hat k hk]; exact next_okA hk, by rw [hlast]; exact ⟨rfl, by show (0 : Nat) < 8; decide, hN, rfl, by rw [hz, hz]; exact Nat.le_refl _, Nat.zero_le _⟩, hz N, ?_, ?_, rfl⟩
    · rw [sumTo_congr (f := fun k => pre rows k (ixOf rows k (((List.range (m + 1)).map (qS rows N m)).getD k none))) (g := fun _ => 0) fun k hk => by rw [hat k hk]; exact q0_pre hk, sumTo_zero]
    · show sumTo m _ = 0 + sumTo m _
      rw [Nat.zero_add]
      exact sumTo_congr fun k hk => by rw [hat k hk]
theorem bw_falls (hN : 0 < N) (hT : total rows m < 9223372036854775808) : Falls (Y := (bwK B T A H N m rows old bb eb ob).core) (fun σ => BwInv rows N m σ.a.1 σ.a.2 σ.ps) (fun σ => bwCost rows N m σ.ps) where
  step := fun σ k pc h hp => by
    have hs := BwInv.step h hN hT hp
    have e : (bwK B T A H N m rows old bb eb ob).core.next pc σ.a = _ := bw_next (B := B) (T := T) (A := A) (H := H) (old := old) (bb := bb) (eb := eb) (ob := ob) pc σ.a.1 σ.a.2
    have e1 : (σ.turn k pc).a = ((bwStep rows N m pc σ.a.1 σ.a.2).1, (bwStep rows N m pc σ.a.1 σ.a.2).2.1) := by unfold PSt.turn; rw [e]
    have e2 : (σ.turn k pc).ps = σ.ps.set k (bwStep rows N m pc σ.a.1 σ.a.2).2.2 := by unfold PSt.turn; rw [e]
    rw [e1, e2]
    exact hs
/-- Every order ends, and all is well. -/
theorem bw_play {a : TSt} (ha : a.s = List.replicate N 0) (hN : 0 < N) (hN8 : N ≤ 8) (hm : m ≤ 6) (hl : ∀ k, (rowOf rows k).length ≤ 10) (order : List Int) {starts : List ((bwK B T A H N m rows old bb eb ob).core.St → (bwK B T A H N m rows old bb eb ob).core.St × Option (bwK B T A H N m rows old bb eb ob).core.Pc)}
    (hst : starts = (List.range (m + 1)).map (bwSt rows N m)) (σ : BSt B T A H N m rows old bb eb ob) (hσ : σ = playF starts order (a, (⟨0, 0, true⟩ : BwB))) :
    (∀ p ∈ σ.ps, p = none) ∧ σ.a.2.ok = true ∧ σ.a.2.begun = σ.a.2.ended ∧ wsum σ.a.1.s = σ.a.2.ended := by
  have hv : ∀ k i, bv rows k i ≤ 1099511627776 := fun k i => Nat.le_of_lt (Nat.mod_lt _ (by decide))
  have hp : ∀ k i, pre rows k i ≤ 1099511627776 * i := fun k i => by
    induction i with
    | zero => exact Nat.zero_le _
    | succ i ih =>
      rw [pre_succ, Nat.mul_succ]
      have := hv k i
      omega
  have hT : total rows m < 9223372036854775808 := by
    have : ∀ M, sumTo M (fun k => pre rows k (rowOf rows k).length) ≤ 10995116277760 * M := fun M => by
      induction M with
      | zero => exact Nat.zero_le _
      | succ M ih =>
        show sumTo M _ + pre rows M (rowOf rows M).length ≤ _
        have h1 := hp M (rowOf rows M).length
        have h2 := hl M
        have h3 : 1099511627776 * (rowOf rows M).length ≤ 1099511627776 * 10 := Nat.mul_le_mul_left _ h2
        omega
    have := this m
    unfold total
    omega
  obtain ⟨β, e1, h1⟩ := bw_begins (B := B) (T := T) (A := A) (H := H) (old := old) (bb := bb) (eb := eb) (ob := ob) ha hN hT
  have hcost : bwCost rows N m ((List.range (m + 1)).map (qS rows N m)) ≤ 16384 := by
    unfold bwCost
    have hA : ∀ M, M ≤ m → sumTo M (fun k => costA rows k (((List.range (m + 1)).map (qS rows N m)).getD k none)) ≤ 10 * M := fun M => by
      induction M with
      | zero => intro _; exact Nat.zero_le _
      | succ M ih =>
        intro hM
        show sumTo M _ + costA rows M _ ≤ _
        have h2 := ih (by omega)
        have h3 : costA rows M (((List.range (m + 1)).map (qS rows N m)).getD M none) ≤ (rowOf rows M).length := by
          generalize ((List.range (m + 1)).map (qS rows N m)).getD M none = z
          rcases z with _ | ⟨p, c⟩
          · exact Nat.zero_le _
          · exact Nat.sub_le _ _
        have := hl M
        omega
    have hS : costS N (((List.range (m + 1)).map (qS rows N m)).getD m none) ≤ 64 := by
      have e : ((List.range (m + 1)).map (qS rows N m)).getD m none = some (TPos.part 0 [], (m, 0, 0)) := by
        rw [List.getD_eq_getElem?_getD]
        simp [qS]
      rw [e]
      show (8 - 0) * N - 0 ≤ 64
      omega
    have := hA m (Nat.le_refl _)
    omega
  have key1 : ∀ σ' : BSt B T A H N m rows old bb eb ob, σ' = ⟨(a, β), (List.range (m + 1)).map (qS rows N m), []⟩ → BwInv rows N m σ'.a.1 σ'.a.2 σ'.ps := fun σ' e => by subst e; exact h1
  have key2 : ∀ σ' : BSt B T A H N m rows old bb eb ob, σ' = ⟨(a, β), (List.range (m + 1)).map (qS rows N m), []⟩ → bwCost rows N m σ'.ps ≤ 16384 := fun σ' e => by subst e; exact hcost
  obtain ⟨h2, h3⟩ := play_ends (bw_falls (B := B) (T := T) (A := A) (H := H) (old := old) (bb := bb) (eb := eb) (ob := ob) hN hT) (starts := starts) (order := order) (a := (a, (⟨0, 0, true⟩ : BwB))) (key1 _ (by rw [hst]; exact e1)) (key2 _ (by rw [hst]; exact e1))
  subst hσ
  have hd := BwInv.done h2.inv h3
  have hsl := BwInv.sl h2.inv
  refine ⟨h3, hd.1, hd.2.1, ?_⟩
  have hs := sum_getD (playF starts order (a, (⟨0, 0, true⟩ : BwB))).a.1.s
  rw [hsl] at hs
  have e := lsum_small (l := (playF starts order (a, (⟨0, 0, true⟩ : BwB))).a.1.s) (by omega)
  show lsum64 _ = _
  rw [e]
  omega
end
end Go.Proofs.Ytdedmmjmiakidaa
/- Plain words: an order brought to few threads, by goroutine 0 beside a play. No condition. -/
namespace Go.Proofs.Ytdedmmjmiakidaa
open Go.Conc Go.RowKit
section
variable {W : Machine → Trace → Prop} {x : LX} {M : World → Prop} {w : World}
/-- A frame's slots. -/
def slotsOf (t : Array Value) (j : Nat) : Value := t.getD j undef
def oFrame (a : Option Addr) (n c t : Nat) (v : Value) (f : Nat → Value) : Array Value := #[.slice a n c, .int .i64 t, f 2, f 3, .slice none 0 0, v, f 6, f 7, f 8, f 9, f 10, f 11, f 12, f 13, f 14, f 15, f 16, f 17, f 18, f 19, f 20, f 21, f 22, f 23, f 24, f 25, f 26, f 27]
set_option maxRecDepth 100000 in
set_option maxHeartbeats 3200000 in
theorem order_g [hM : GM M] (h : Kn x M w) (a : Option Addr) (b off n c t : Nat) (xs : Nat → Int) (ha : 0 < n → a = some ⟨b, off, none⟩) (hn : n ≤ 9223372036854775807) (ht : t ≤ 100) (hi : ∀ u, M u → IntsArg b off n xs u) {Q : LX → Value → World → Prop}
    (hq : ∀ v w', Kn x (fun u => u.ownsRow w.heap.size 3 1 v (ordL n xs t).length ((ordL n xs t).map (Value.int .i64)) ∧ M u) w' → w.heap.size ≤ w'.heap.size → Q x v w') :
    cpsC (envL W) 31 #[.slice a n c, .int .i64 t] Q x w := by
  have O := envL_ok (W := W)
  refine cpsC_body O Try.func31 rfl ?_
  simp only [Try.ntmps31]
  refine cps_opaque fun Q' hQ => ?_
  have Hq := Lib.hid hq
  have HA := Lib.hid ha
  have HI := Lib.hid hi
  clear hq ha hi
  walk_nrm
  repeat refine cps_seq O ?_
  (refine cps_region O ?_; simp only [List.size_toArray, List.length_cons, List.length_nil, Nat.reduceAdd, Nat.zero_add, List.range, List.range.loop])
  refine valE O rfl (.slice none 0 0) rfl rfl (fun _ => by simp [go_sem]) (fun _ => by go_simp; try (first | rfl | (simp [*]))) ?_; try walk_nrm
  refine cpsR_nil O ?_
  show cps _ _ _ _ _ _
  repeat refine cps_seq O ?_
  (refine cps_region O ?_; simp only [List.size_toArray, List.length_cons, List.length_nil, Nat.reduceAdd, Nat.zero_add, List.range, List.range.loop])
  refine valE O rfl (.slice none 0 0) rfl rfl (fun _ => by simp [go_sem]) (fun _ => by go_simp; try (first | rfl | (simp [*]))) ?_; try walk_nrm
  refine cpsR_nil O ?_
  show cps _ _ _ _ _ _
  repeat refine cps_seq O ?_
  (refine cps_region O ?_; simp only [List.size_toArray, List.length_cons, List.length_nil, Nat.reduceAdd, Nat.zero_add, List.range, List.range.loop])
  refine valE O rfl (.int .i64 0) rfl rfl (fun _ => by simp [go_sem]) (fun _ => by go_simp; try (first | rfl | (simp [*]))) ?_; try walk_nrm
  refine cpsR_nil O ?_
  show cps _ _ _ _ _ _
  repeat refine cps_seq O ?_
  refine aloneG (α := Value × (Nat → Value)) (fun y => oFrame a n c t y.1 y.2) (fun y u => u.ownsRow w.heap.size 3 1 y.1 (ordL n xs t).length ((ordL n xs t).map (Value.int .i64)) ∧ M u) h (by kernel_rfl) (fun u hu hs K hK => ?_) fun y w1 h1 hz1 => ?_
  · have hK' : ∀ (a' : Act) (u' : World), a'.defers = [] → (∃ v, a'.tmps = oFrame a n c t v (slotsOf a'.tmps) ∧ u'.ownsRow w.heap.size 3 1 v (ordL n xs t).length ((ordL n xs t).map (Value.int .i64)) ∧ M u') → K a' u' := fun a' u' h1 h => by
      obtain ⟨v, h2, h3⟩ := h
      exact hK (v, slotsOf a'.tmps) a' u' h1 h2 h3
    have hI := HI.out u hu
    obtain ⟨i0, hi, hz0, hz1, hz2⟩ := info_parts info_int
    have Hi := Lib.hid hi
    have Hz0 := Lib.hid hz0
    have Hz1 := Lib.hid hz1
    have Hz2 := Lib.hid hz2
    have HH := Lib.hid hI
    have HM := Lib.hid hu
    have HS := Lib.hid hs
    clear hi hz0 hz1 hz2 hI hu hs
    go_wp2
    go_loopw [5, 6] (fun s5 s6 wr => ∃ k : Nat, k ≤ n ∧ k ≤ 2000 ∧ s6 = .int .i64 k ∧ Hid (wr.ownsRow u.heap.size 3 1 s5 k (ordV xs t k)) ∧ Hid (Sm (fun _ => False) u wr)) (fun s5 s6 _ => n - (intOf s6).toNat)
    case atStart => exact ⟨0, by omega, by omega, rfl, Lib.hid (World.ownsRow_nil _ _ _ _), Lib.hid (Sm.refl _ _)⟩
    case round =>
      obtain ⟨wo, rfl⟩ : ∃ wo : World, wo = wr := ⟨_, rfl⟩
      obtain ⟨k, hk, hk2, rfl, hown, hS⟩ := hrel
      obtain ⟨a5, c5, hv5⟩ := own_form0 hown.out
      subst hv5
      have hfin : ∀ (hkn : k = min n 2000), wo.ownsRow w.heap.size 3 1 (.slice a5 k c5) (ordL n xs t).length ((ordL n xs t).map (Value.int .i64)) ∧ M wo := fun hkn => by
        refine ⟨?_, GM.sm hS.out HM.out⟩
        rw [ordL_len, ← ordV_all, ← hkn, ← HS.out]; exact hown.out
      have HF := Lib.hid hfin
      clear hfin
      by_cases hlt : k < n
      · have j1 : (k : Int) < (n : Int) := by omega
        by_cases h6 : k < 2000
        · have j6 : (k : Int) < 2000 := by omega
          have hp : wrap64 ((k : Int) + 1) = ((k + 1 : Nat) : Int) := by unfold wrap64; omega
          have HP := Lib.hid hp
          clear hp
          have hA1 := HA.out (by omega)
          subst hA1
          have hr := HH.out.sm hS.out
          have hc := hr.at_ k hlt
          have hq : IntKind.i64.wrap ((t : Int) + 1) = (t : Int) + 1 := by rw [IntKind.wrap_i64]; omega
          have hq2 : wrap64 ((t : Int) + 1) = (t : Int) + 1 := by unfold wrap64; omega
          have HW := Lib.hid (within_c (xs k) ((t : Int) + 1) (by omega) (by omega))
          clear hr
          go_wp2_with (first
            | (refine (HW.out _).mono ?_; rintro e w1 ⟨rfl, rfl⟩)
            | (at_builtin; refine wpList_append_own _ rfl (.tmp 17) (.tmp 25) 76 rfl u.heap.size 3 i0 (.int .i64 0) 1 8 Try.underlying76 Hi.out Hz0.out Hz1.out Hz2.out rfl (by decide) _ k (ordV xs t k) rfl (hown.out.alloc _) ⟨wo.heap.size, 0, none⟩ 1 1 [.int .i64 (wi (xs k) (t + 1))] rfl rfl (new_cells wo [.int .i64 (wi (xs k) (t + 1))] 3) (by simp [Value.oneCell']) (by unfold maxLen; omega) (by omega) (by have := hS.out.size; simp; omega) ?_; intro v' w4 hown4 hgr4 _))
          have n1 : Hid (w4.ownsRow u.heap.size 3 1 v' (k + 1) (ordV xs t (k + 1))) := Lib.hid (by rw [ordV_succ]; exact hown4)
          have n2 : Hid (Sm (fun _ => False) u w4) := Lib.hid (by
            have z := hS.out.size
            exact ⟨hgr4.os.trans hS.out.os, hgr4.tape.trans hS.out.tape, hgr4.output.trans hS.out.output, by have := hgr4.size; simp at this; omega, fun j hj hf => (hgr4.block j (by simp; omega) (fun e => by have := (hown.out.lt j e.symm).1; omega)).trans ((Below.heap_alloc _ _ _ (by omega)).trans (hS.out.block j hj hf))⟩)
          go_wp2
          go_roundw
          case rel => exact ⟨k + 1, by omega, by omega, by first | rw [HP.out] | go_num, n1, n2⟩
          case measure => (try rw [HP.out]); simp only [intOf]; omega
        · have j6 : ¬ (k : Int) < 2000 := by omega
          go_wp2
          exact hK' _ _ rfl ⟨_, by kernel_rfl, HF.out (by omega)⟩
      · have j1 : ¬ (k : Int) < (n : Int) := by omega
        go_wp2
        exact hK' _ _ rfl ⟨_, by kernel_rfl, HF.out (by omega)⟩
  obtain ⟨v, f⟩ := y
  dsimp only at h1 ⊢
  unfold oFrame
  show cps _ _ _ _ _ _
  repeat refine cps_seq O ?_
  (refine cps_region O ?_; simp only [List.size_toArray, List.length_cons, List.length_nil, Nat.reduceAdd, Nat.zero_add, List.range, List.range.loop])
  refine valE O rfl (v) rfl rfl (fun _ => by simp [go_sem]) (fun _ => by go_simp; try (first | rfl | (simp [*]))) ?_; try walk_nrm
  refine valE O rfl (v) rfl rfl (fun _ => by simp [go_sem]) (fun _ => by go_simp; try (first | rfl | (simp [*]))) ?_; try walk_nrm
  refine cpsR_nil O ?_
  exact cps_ret O (hQ _ _ _ _ ⟨.inr rfl, v, retE O rfl rfl rfl, Hq.out v w1 h1 hz1⟩)
end
end Go.Proofs.Ytdedmmjmiakidaa
/- Plain words: TallyBetween's play, from what lies there ahead of it to what is known behind it. No condition. -/
namespace Go.Proofs.Ytdedmmjmiakidaa
open Go.Conc Go.RowKit
open Go.ConcN (sumTo)
theorem own_type {w : World} {base size n : Nat} {e : TypeId} {v : Value} {xs : List Value} (h : w.ownsRow base e size v n xs) (k : Nat) (hk : v.ownBlock = some k) : ∃ c, w.heap[k]? = some (.cells c e (0, 0)) := by
  obtain ⟨_, h2⟩ := h
  rcases h2 with ⟨rfl, rfl⟩ | ⟨g, cap, cur, rfl, _, hh, _⟩
  · cases hk
  · simp only [Value.ownBlock, Option.some.injEq] at hk
    subst hk
    exact ⟨cur, hh⟩
theorem own_ne_row {w : World} {b1 s1 n1 : Nat} {e1 T : TypeId} {v1 : Value} {x1 : List Value} {b : Nat} {c : Array Value} (h1 : w.ownsRow b1 e1 s1 v1 n1 x1) (hr : w.heap[b]? = some (.cells c T (0, 0))) (he : e1 ≠ T) : v1.ownBlock ≠ some b := by
  intro h
  obtain ⟨c1, g1⟩ := own_type h1 b h
  rw [g1] at hr
  simp only [Option.some.injEq, Obj.cells.injEq] at hr
  exact he hr.2.1
theorem gr_cell {u u' : World} (h : Gr u u') {a : Addr} (hl : a.block < u.heap.size) : u'.cell? a = u.cell? a := by
  unfold World.cell?
  rw [h.block _ hl]
theorem real_cell {u : World} {a : Addr} {v : Value} {o : Obj} (hc : u.cell? a = some v) (ho : u.heap[a.block]? = some o) : RealO o := by
  unfold World.cell? at hc
  rw [ho] at hc
  refine ⟨fun cap buf cl x r t e => ?_, fun T e => ?_⟩
  · subst e; simp at hc
  · subst e; simp at hc
theorem cell_lt {u : World} {a : Addr} {v : Value} (hc : u.cell? a = some v) : a.block < u.heap.size := by
  unfold World.cell? at hc
  cases h : u.heap[a.block]? with
  | none => rw [h] at hc; cases hc
  | some o => exact (Array.getElem?_eq_some_iff.1 h).1
theorem old_cell {D : Nat → Prop} {u : World} {a : Addr} {v : Value} (hD : D a.block) (hc : u.cell? a = some v) : (oldOf D u).cell a v := by
  refine Old.cell_of hc ?_
  have hl := cell_lt hc
  have e : u.heap[a.block]? = some u.heap[a.block] := Array.getElem?_eq_getElem hl
  rw [e]
  exact oldOf_at hD e (real_cell hc e)
theorem old_none {D : Nat → Prop} {u : World} {b : Nat} (h : ¬ D b) : (oldOf D u).ob b = none := by
  classical
  unfold oldOf
  simp only [if_neg h]
instance gm_pr {P T A H n : Nat} {m hm : List Nat} : GM (Pr P T A H n m hm) := ⟨fun u u' h q => { q with rP := gm_row.keep u u' h q.rP, tal := { q.tal with rT := gm_row.keep u u' h q.tal.rT, rA := gm_row.keep u u' h q.tal.rA }, his := ⟨gm_row.keep u u' h q.his.r, q.his.len⟩ }⟩
instance gm_nums {X : Nat → Prop} {g m most : Nat} {Z : Nat → List Nat} {ea : Nat → Option Addr} {ec : Nat → Nat} : GM (NumsOwn X g m most Z ea ec) := ⟨fun u u' h q => ⟨fun r hr => by
  have := q.hd r hr
  rw [gr_cell h (cell_lt this)]; exact this, q.le, q.lt, fun r hr j hj => by
  obtain ⟨b, o, h1, h2, h3, h4⟩ := q.dat r hr j hj
  exact ⟨b, o, h1, Nat.lt_of_lt_of_le h2 h.size, by rw [gr_cell h h2]; exact h3, h4⟩⟩⟩
/-- The threads as values. -/
def addV (rb pb bb eb ob : Nat) (kb : Nat → Nat) (j : Nat) : Value := .func (.func 42) #[] #[.pointer (some ⟨rb, 0, none⟩), .pointer (some ⟨kb j, 0, none⟩), .pointer (some ⟨bb, 0, none⟩), .pointer (some ⟨pb, 0, none⟩), .pointer (some ⟨eb, 0, none⟩), .pointer (some ⟨ob, 0, none⟩)]
def askV (pb bb eb ob : Nat) : Value := .func (.func 43) #[] #[.pointer (some ⟨eb, 0, none⟩), .pointer (some ⟨pb, 0, none⟩), .pointer (some ⟨ob, 0, none⟩), .pointer (some ⟨bb, 0, none⟩)]
def addVs (rb pb bb eb ob : Nat) (kb : Nat → Nat) (i : Nat) : List Value := (List.range i).map (addV rb pb bb eb ob kb)
theorem addVs_succ (rb pb bb eb ob : Nat) (kb kb' : Nat → Nat) (i : Nat) (h : ∀ j, j < i → kb' j = kb j) : addVs rb pb bb eb ob kb' (i + 1) = addVs rb pb bb eb ob kb i ++ [addV rb pb bb eb ob kb' i] := by
  simp only [addVs, List.range_succ, List.map_append, List.map_cons, List.map_nil]
  congr 1
  refine List.map_congr_left fun j hj => ?_
  unfold addV
  rw [h j (List.mem_range.1 hj)]
def rowsZ (m : Nat) (Z : Nat → List Nat) : List (List Nat) := (List.range m).map Z
theorem rowsZ_at {m k : Nat} {Z : Nat → List Nat} (hk : k < m) : rowOf (rowsZ m Z) k = Z k := by simp [rowOf, rowsZ, List.getD_eq_getElem?_getD, hk]
theorem rowsZ_no {m k : Nat} {Z : Nat → List Nat} (hk : ¬ k < m) : rowOf (rowsZ m Z) k = [] := by simp [rowOf, rowsZ, List.getD_eq_getElem?_getD, hk]
theorem rowsZ_len {m k most : Nat} {Z : Nat → List Nat} (h : ∀ r, (Z r).length ≤ most) : (rowOf (rowsZ m Z) k).length ≤ most := by
  by_cases hk : k < m
  · rw [rowsZ_at hk]; exact h k
  · rw [rowsZ_no hk]; exact Nat.zero_le _
theorem rowsZ_lt {m k i : Nat} {Z : Nat → List Nat} (h : ∀ r j, (Z r).getD j 0 < 18446744073709551616) : (rowOf (rowsZ m Z) k).getD i 0 < 18446744073709551616 := by
  by_cases hk : k < m
  · rw [rowsZ_at hk]; exact h k i
  · rw [rowsZ_no hk]; simp
/-- What lies there ahead of the play. -/
structure BwM (W0 : World) (B T A H P N rb pb bb eb ob g m cap C0 : Nat) (X : Nat → Prop) (Z : Nat → List Nat) (ea : Nat → Option Addr) (ec : Nat → Nat) (kb : Nat → Nat) (v : Value) (u : World) : Prop where
  pr : Pr P T A H N (List.replicate N 0) (List.replicate 67 0) u
  rrb : Row u rb #[.slice (some ⟨g, 0, none⟩) m cap] 34
  rpb : Row u pb #[.pointer (some ⟨P, 0, none⟩)] 65
  nums : NumsOwn X g m 10 Z ea ec u
  rbb : Row u bb #[.int .u64 0] 23
  reb : Row u eb #[.int .u64 0] 23
  rob : Row u ob #[.bool true] 4
  rkb : ∀ j, j < m → Row u (kb j) #[.int .i64 j] 3 ∧ C0 ≤ kb j
  thr : ∃ bs, C0 ≤ bs ∧ u.ownsRow bs 94 1 v (m + 1) (addVs rb pb bb eb ob kb m ++ [askV pb bb eb ob])
  since : Since B (Gr W0) u
instance gm_bwM {W0 : World} {B T A H P N rb pb bb eb ob g m cap C0 : Nat} {X : Nat → Prop} {Z : Nat → List Nat} {ea : Nat → Option Addr} {ec : Nat → Nat} {kb : Nat → Nat} {v : Value} : GM (BwM W0 B T A H P N rb pb bb eb ob g m cap C0 X Z ea ec kb v) := ⟨fun u u' h q =>
  ⟨gm_pr.keep u u' h q.pr, gm_row.keep u u' h q.rrb, gm_row.keep u u' h q.rpb, gm_nums.keep u u' h q.nums, gm_row.keep u u' h q.rbb, gm_row.keep u u' h q.reb, gm_row.keep u u' h q.rob, fun j hj => ⟨gm_row.keep u u' h (q.rkb j hj).1, (q.rkb j hj).2⟩,
   by obtain ⟨bs, h1, h2⟩ := q.thr; exact ⟨bs, h1, gm_own.keep u u' h h2⟩, gm_since.keep u u' h q.since⟩⟩
/-- The lists' blocks. -/
def nblk (m : Nat) (Z : Nat → List Nat) (ea : Nat → Option Addr) (b : Nat) : Prop := ∃ k, k < m ∧ 0 < (Z k).length ∧ ∃ a, ea k = some a ∧ b = a.block
/-- What stands beside the play. -/
def bwD (rb pb P g m : Nat) (Z : Nat → List Nat) (ea : Nat → Option Addr) (kb : Nat → Nat) (b : Nat) : Prop := b = rb ∨ b = pb ∨ b = P ∨ b = g ∨ (∃ j, j < m ∧ b = kb j) ∨ nblk m Z ea b
section
variable {W0 : World} {B T A H P N rb pb bb eb ob g m cap C0 S1 : Nat} {X : Nat → Prop} {Z : Nat → List Nat} {ea : Nat → Option Addr} {ec : Nat → Nat} {kb : Nat → Nat} {v : Value} {w : World}
theorem bw_old {u : World} (h : BwM W0 B T A H P N rb pb bb eb ob g m cap C0 X Z ea ec kb v u) : BwOld (oldOf (bwD rb pb P g m Z ea kb) u) rb pb P g cap T N m kb (rowsZ m Z) ea ec where
  rb := old_cell (.inl rfl) (h.rrb.cell 0)
  kb := fun k hk => old_cell (.inr (.inr (.inr (.inr (.inl ⟨k, hk, rfl⟩))))) ((h.rkb k hk).1.cell 0)
  pb := old_cell (.inr (.inl rfl)) (h.rpb.cell 0)
  p0 := old_cell (.inr (.inr (.inl rfl))) (h.pr.rP.cell 0)
  p2 := old_cell (.inr (.inr (.inl rfl))) (h.pr.rP.cell 2)
  rs := fun k hk => by
    rw [rowsZ_at hk]
    exact old_cell (.inr (.inr (.inr (.inl rfl)))) (h.nums.hd k hk)
  row := fun k hk i hi => by
    rw [rowsZ_at hk] at hi ⊢
    obtain ⟨b, o, h1, h2, h3, _⟩ := h.nums.dat k hk i hi
    exact ⟨b, o, h1, old_cell (.inr (.inr (.inr (.inr (.inr ⟨k, hk, by omega, _, h1, rfl⟩))))) h3⟩
/-- The threads. -/
def bwThr (B T A H N m : Nat) (rows : List (List Nat)) (old : Old) (rb pb bb eb ob : Nat) (kb : Nat → Nat) : List (Thr (bwK B T A H N m rows old bb eb ob).core) := (List.range (m + 1)).map fun k =>
  if k < m then ⟨42, #[.pointer (some ⟨rb, 0, none⟩), .pointer (some ⟨kb k, 0, none⟩), .pointer (some ⟨bb, 0, none⟩), .pointer (some ⟨pb, 0, none⟩), .pointer (some ⟨eb, 0, none⟩), .pointer (some ⟨ob, 0, none⟩)], bwSt rows N m k⟩
  else ⟨43, #[.pointer (some ⟨eb, 0, none⟩), .pointer (some ⟨pb, 0, none⟩), .pointer (some ⟨ob, 0, none⟩), .pointer (some ⟨bb, 0, none⟩)], bwSt rows N m k⟩
theorem bwThr_len {rows : List (List Nat)} {old : Old} : (bwThr B T A H N m rows old rb pb bb eb ob kb).length = m + 1 := by simp [bwThr]
theorem bwThr_vals {rows : List (List Nat)} {old : Old} : (bwThr B T A H N m rows old rb pb bb eb ob kb).map Thr.val = addVs rb pb bb eb ob kb m ++ [askV pb bb eb ob] := by
  unfold bwThr addVs
  rw [List.map_map, List.range_succ, List.map_append]
  congr 1
  · refine List.map_congr_left fun j hj => ?_
    have hj := List.mem_range.1 hj
    simp only [Function.comp, if_pos hj]
    rfl
  · simp only [List.map_cons, List.map_nil, Function.comp, if_neg (Nat.lt_irrefl m)]
    rfl
theorem bwThr_start {rows : List (List Nat)} {old : Old} : (bwThr B T A H N m rows old rb pb bb eb ob kb).map (·.start) = (List.range (m + 1)).map (bwSt rows N m) := by
  unfold bwThr
  rw [List.map_map]
  refine List.map_congr_left fun j hj => ?_
  simp only [Function.comp]
  split <;> rfl
set_option maxRecDepth 100000 in
set_option maxHeartbeats 4000000 in
open Classical in
/-- The play of TallyBetween. -/
theorem bw_playC {Wm : Machine → Trace → Prop} (hW : Back Try.prog Wm) {ol : List Int} {ao av : Option Addr} {co cv S4 : Nat} (h : BwM W0 B T A H P N rb pb bb eb ob g m cap C0 X Z ea ec kb (.slice av (m + 1) cv) w) (hor : w.ownsRow S4 3 1 (.slice ao ol.length co) ol.length (ol.map (Value.int .i64)))
    (hBr : B ≤ rb) (hrA : rb < A) (hPp : P < pb) (hp1 : pb < S1) (hg1 : S1 ≤ g) (hgC : g < C0) (hXl : ∀ b, X b → b < B ∨ (S1 ≤ b ∧ b < C0)) (h3 : C0 ≤ bb ∧ C0 ≤ eb ∧ C0 ≤ ob) (hne : bb ≠ eb ∧ bb ≠ ob ∧ eb ≠ ob)
    (h4 : ∀ j, j < m → kb j < S4) (h4C : C0 ≤ S4 ∧ bb < S4 ∧ eb < S4 ∧ ob < S4)
    (hm0 : 0 < m) (hm6 : m ≤ 6) (hN0 : 0 < N) (hN8 : N ≤ 8) (hol2 : ol.length ≤ 2000) (hol3 : ∀ k ∈ ol, k < 9223372036854775808) {Qc : LX → Value → World → Prop}
    (hq : ∀ Wg k (ta : Option Addr) (tn tc : Nat) (a : TSt) (β : BwB) (γ : Nat → Priv) w', B ≤ Wg → w.heap.size ≤ w'.heap.size → β.ok = true → β.begun = β.ended → wsum a.s = β.ended →
      Kn ⟨some Wg, k⟩ (fun u => (bwK B T A H N m (rowsZ m Z) (oldOf (bwD rb pb P g m Z ea kb) w) bb eb ob).core.Rep ((a, β), γ) u ∧ Since B (Gr W0) u) w' → Qc ⟨some Wg, k⟩ (.tuple #[.agg #[.slice ta tn tc, .slice none 0 0], .int .i64 0]) w') :
    cpsC (envL Wm) 37 #[.slice ao ol.length co, .slice av (m + 1) cv] Qc ⟨none, 1⟩ w := by
  have hold := bw_old h
  obtain ⟨D, hD⟩ : ∃ D, D = bwD rb pb P g m Z ea kb := ⟨_, rfl⟩
  obtain ⟨old, hOld⟩ : ∃ old, old = oldOf D w := ⟨_, rfl⟩
  rw [← hD] at hold hq
  rw [← hOld] at hold hq
  obtain ⟨bs, hbs, hfo⟩ := h.thr
  have haT := h.pr.aT
  have htH := h.pr.tH
  have hhP := h.pr.hP
  have hB1 : B ≤ w.heap.size := by have := h.rrb.lt; omega
  have hlist : ∀ b, nblk m Z ea b → b < B ∨ (S1 ≤ b ∧ b < C0) := fun b ⟨k, hk, h0, a, ha, e⟩ => by
    obtain ⟨b', o, h1, _, _, h4⟩ := h.nums.dat k hk 0 h0
    rw [ha] at h1
    obtain rfl := Option.some.inj h1
    rw [e]
    exact hXl _ h4
  have hDo : ∀ b, D b → b = rb ∨ b = pb ∨ b = P ∨ b = g ∨ (∃ j, j < m ∧ b = kb j) ∨ nblk m Z ea b := fun b hb => by rw [hD] at hb; exact hb
  have tne : ∀ {x y : Nat} {c c' : Array Value} {T T' : TypeId}, w.heap[x]? = some (.cells c T (0, 0)) → w.heap[y]? = some (.cells c' T' (0, 0)) → T ≠ T' → x ≠ y := fun {x y c c' T T'} h1 h2 h3 e => by
    rw [e] at h1
    have := h1.symm.trans h2
    injection this with this
    injection this with _ h4
    exact h3 h4
  have hDS : ∀ b, D b → b ≠ T ∧ b ≠ A ∧ b ≠ H := fun b hb => by
    rcases hDo b hb with h' | h' | h' | h' | ⟨j, hj, h'⟩ | h'
    · omega
    · omega
    · omega
    · omega
    · have := (h.rkb j hj).2; omega
    · have := hlist b h'; omega
  have hDb : ∀ b, D b → b ≠ bb ∧ b ≠ eb ∧ b ≠ ob := fun b hb => by
    rcases hDo b hb with h' | h' | h' | h' | ⟨j, hj, h'⟩ | h'
    · omega
    · omega
    · omega
    · omega
    · subst h'
      exact ⟨tne (h.rkb j hj).1 h.rbb (by decide), tne (h.rkb j hj).1 h.reb (by decide), tne (h.rkb j hj).1 h.rob (by decide)⟩
    · have := hlist b h'; omega
  have hD4 : ∀ b, D b → b < S4 := fun b hb => by
    rcases hDo b hb with h' | h' | h' | h' | ⟨j, hj, h'⟩ | h'
    · omega
    · omega
    · omega
    · omega
    · have := h4 j hj; omega
    · have := hlist b h'; omega
  have hDt : ∀ b, D b → (Value.slice av (m + 1) cv).ownBlock ≠ some b := fun b hb e => by
    have := (hfo.lt b e).1
    rcases hDo b hb with h' | h' | h' | h' | ⟨j, hj, h'⟩ | h'
    · omega
    · omega
    · omega
    · omega
    · subst h'; exact own_ne_row hfo (h.rkb j hj).1 (by decide) e
    · have := hlist b h'; omega
  obtain ⟨o₀, ho₀⟩ : ∃ o₀ : Own, o₀ = ⟨fun x => if (x < B ∧ ¬ nblk m Z ea x) ∨ (Value.slice ao ol.length co).ownBlock = some x ∨ (Value.slice av (m + 1) cv).ownBlock = some x then w.heap[x]? else none, w.os, w.output⟩ := ⟨_, rfl⟩
  have hin : ∀ x, ((x < B ∧ ¬ nblk m Z ea x) ∨ (Value.slice ao ol.length co).ownBlock = some x ∨ (Value.slice av (m + 1) cv).ownBlock = some x) → o₀ x = w.heap[x]? := fun x hx => by rw [ho₀]; exact if_pos hx
  have hout : ∀ x, ¬ ((x < B ∧ ¬ nblk m Z ea x) ∨ (Value.slice ao ol.length co).ownBlock = some x ∨ (Value.slice av (m + 1) cv).ownBlock = some x) → o₀ x = none := fun x hx => by rw [ho₀]; exact if_neg hx
  have hosn : w.os = o₀.os ∧ w.output = o₀.out := by rw [ho₀]; exact ⟨rfl, rfl⟩
  clear ho₀
  have hseen : ∀ x o', o₀ x = some o' → ((x < B ∧ ¬ nblk m Z ea x) ∨ (Value.slice ao ol.length co).ownBlock = some x ∨ (Value.slice av (m + 1) cv).ownBlock = some x) ∧ w.heap[x]? = some o' := fun x o' hx => by
    by_cases hc : (x < B ∧ ¬ nblk m Z ea x) ∨ (Value.slice ao ol.length co).ownBlock = some x ∨ (Value.slice av (m + 1) cv).ownBlock = some x
    · exact ⟨hc, by rw [← hin x hc]; exact hx⟩
    · rw [hout x hc] at hx; cases hx
  have ncell : ∀ {v : Value} {n bs e : Nat} {xs : List Value} {x : Nat} {o' : Obj}, w.ownsRow bs e 1 v n xs → v.ownBlock = some x → w.heap[x]? = some o' → ∀ cap buf cl y r t, o' ≠ .chan cap buf cl y r t := fun ho hx hw cap buf cl y r t e => by
    obtain ⟨c, hc⟩ := own_type ho _ hx
    rw [hc] at hw
    rw [e] at hw
    cases hw
  have hoS : ∀ b, (Value.slice ao ol.length co).ownBlock = some b → S4 ≤ b := fun b hb => (hor.lt b hb).1
  have hlen10 : ∀ k, (rowOf (rowsZ m Z) k).length ≤ 10 := fun k => rowsZ_len h.nums.le
  obtain ⟨hp1', hp2⟩ := bw_play (B := B) (T := T) (A := A) (H := H) (old := old) (bb := bb) (eb := eb) (ob := ob) (a := ⟨List.replicate N 0, List.replicate 67 0⟩) rfl hN0 hN8 hm6 hlen10 ol (bwThr_start (rb := rb) (pb := pb) (kb := kb)) _ rfl
  have htr : TRep T A H N ⟨List.replicate N 0, List.replicate 67 0⟩ w := {
    tal := h.pr.tal
    his := h.pr.his
    len := by simp
    ls := fun x hx => by
      obtain ⟨_, rfl⟩ := List.mem_replicate.1 hx
      decide
    lh := fun x hx => by
      obtain ⟨_, rfl⟩ := List.mem_replicate.1 hx
      decide
    hT := by omega
    hA := by omega }
  have hon : ∀ b, ¬ D b → old.ob b = none := fun b hb => by rw [hOld]; exact old_none hb
  have hmem : BwMem old bb eb ob ⟨0, 0, true⟩ noPriv w := ⟨by rw [hOld]; exact oldOf_in, h.rbb, h.reb, h.rob, fun x o hx => (by cases hx), ⟨hon _ fun hd => (hDb _ hd).1 rfl, hon _ fun hd => (hDb _ hd).2.1 rfl, hon _ fun hd => (hDb _ hd).2.2 rfl⟩, fun x hx => absurd rfl hx, hne, by decide, by decide⟩
  have hfD : ∀ x, bwFoot old bb eb ob noPriv x → D x ∨ x = bb ∨ x = eb ∨ x = ob := fun x hx => by
    rcases hx with hx | hx | hx | hx | hx
    · by_cases hd : D x
      · exact .inl hd
      · exact absurd (hon x hd) hx
    · exact .inr (.inl hx)
    · exact .inr (.inr (.inl hx))
    · exact .inr (.inr (.inr hx))
    · exact absurd rfl hx
  refine play_c (x := ⟨none, 1⟩) (Y := (bwK B T A H N m (rowsZ m Z) old bb eb ob).core) (ths := bwThr B T A H N m (rowsZ m Z) old rb pb bb eb ob kb) (order := ol) (o₀ := o₀) (a := (((⟨List.replicate N 0, List.replicate 67 0⟩ : TSt), (⟨0, 0, true⟩ : BwB)), fun _ => noPriv)) hW rfl (by decide) (by decide) hosn (fun x o' hx => ?_) hB1 (fun v hv => ?_) (fun x hx => ?_) (by omega) hol3 (fun v hv => ?_) (fun x hx => ?_) (by rw [bwThr_len]; omega) (by rw [bwThr_len]; omega) (fun i d hd => ?_) ⟨htr, hmem, fun x hx hf => ?_⟩ (fun x hx => ?_) hp1' (fun γ' Wg B0 vt w' hWg hB0 hsz hpl => ?_)
  · obtain ⟨h1, h2⟩ := hseen x o' hx
    refine ⟨h2, ?_⟩
    rcases h1 with h1 | h1 | h1
    · exact .inl h1.1
    · exact .inr (ncell hor h1 h2)
    · exact .inr (ncell hfo h1 h2)
  · exact ownsRow_of (own_weak hor (Nat.zero_le _)) fun b hb => by
      have hl := (hor.lt b hb).2
      have e1 : w.heap[b]? = some w.heap[b] := Array.getElem?_eq_getElem hl
      rw [e1]
      exact hv b _ (by rw [hin b (.inr (.inl hb))]; exact e1)
  · rw [hin x (.inr (.inl hx))]
    have hl := (hor.lt x hx).2
    rw [Array.getElem?_eq_getElem hl]
    simp
  · have hv1 : v.ownsRow 0 tFn 1 (.slice av (m + 1) cv) (m + 1) (addVs rb pb bb eb ob kb m ++ [askV pb bb eb ob]) := ownsRow_of (own_weak hfo (Nat.zero_le _)) fun b hb => by
      have hl := (hfo.lt b hb).2
      have e1 : w.heap[b]? = some w.heap[b] := Array.getElem?_eq_getElem hl
      rw [e1]
      exact hv b _ (by rw [hin b (.inr (.inr hb))]; exact e1)
    rw [bwThr_len, bwThr_vals]
    exact hv1
  · rw [hin x (.inr (.inr hx))]
    have hl := (hfo.lt x hx).2
    rw [Array.getElem?_eq_getElem hl]
    simp
  · have hi : i < m + 1 := by
      have := (List.getElem?_eq_some_iff.1 hd).1
      rwa [bwThr_len] at this
    by_cases him : i < m
    · have hd' : d = ⟨42, #[.pointer (some ⟨rb, 0, none⟩), .pointer (some ⟨kb i, 0, none⟩), .pointer (some ⟨bb, 0, none⟩), .pointer (some ⟨pb, 0, none⟩), .pointer (some ⟨eb, 0, none⟩), .pointer (some ⟨ob, 0, none⟩)], bwSt (rowsZ m Z) N m i⟩ := by
        have : (bwThr B T A H N m (rowsZ m Z) old rb pb bb eb ob kb)[i]? = some ⟨42, #[.pointer (some ⟨rb, 0, none⟩), .pointer (some ⟨kb i, 0, none⟩), .pointer (some ⟨bb, 0, none⟩), .pointer (some ⟨pb, 0, none⟩), .pointer (some ⟨eb, 0, none⟩), .pointer (some ⟨ob, 0, none⟩)], bwSt (rowsZ m Z) N m i⟩ := by simp [bwThr, hi, him]
        exact Option.some.inj (hd.symm.trans this)
      subst hd'
      exact bw_thr hold hN0 (by omega) him (by omega) (fun k => by have := hlen10 k; omega) fun k i => rowsZ_lt h.nums.lt
    · obtain rfl : i = m := by omega
      have hd' : d = ⟨43, #[.pointer (some ⟨eb, 0, none⟩), .pointer (some ⟨pb, 0, none⟩), .pointer (some ⟨ob, 0, none⟩), .pointer (some ⟨bb, 0, none⟩)], bwSt (rowsZ i Z) N i i⟩ := by
        have : (bwThr B T A H N i (rowsZ i Z) old rb pb bb eb ob kb)[i]? = some ⟨43, #[.pointer (some ⟨eb, 0, none⟩), .pointer (some ⟨pb, 0, none⟩), .pointer (some ⟨ob, 0, none⟩), .pointer (some ⟨bb, 0, none⟩)], bwSt (rowsZ i Z) N i i⟩ := by simp [bwThr]
        exact Option.some.inj (hd.symm.trans this)
      subst hd'
      exact ask_thr hold hN0
  · have hx : x = T ∨ x = A ∨ x = H := hx
    rcases hfD x hf with hd | hd | hd | hd
    · have := hDS x hd; omega
    · omega
    · omega
    · omega
  · refine hout x fun hc => ?_
    have hx : (x = T ∨ x = A ∨ x = H) ∨ bwFoot old bb eb ob noPriv x := hx
    rcases hx with hx | hx
    · rcases hc with hc | hc | hc
      · omega
      · have := hoS x hc; omega
      · have := (hfo.lt x hc).1; omega
    · rcases hfD x hx with hd | hd | hd | hd
      · rcases hc with hc | hc | hc
        · rcases hDo x hd with h' | h' | h' | h' | ⟨j, hj, h'⟩ | h'
          · omega
          · omega
          · omega
          · omega
          · have := (h.rkb j hj).2; omega
          · exact hc.2 h'
        · have := hoS x hc; have := hD4 x hd; omega
        · exact hDt x hd hc
      · subst hd
        rcases hc with hc | hc | hc
        · omega
        · have := hoS _ hc; omega
        · exact own_ne_row hfo h.rbb (by decide) hc
      · subst hd
        rcases hc with hc | hc | hc
        · omega
        · have := hoS _ hc; omega
        · exact own_ne_row hfo h.reb (by decide) hc
      · subst hd
        rcases hc with hc | hc | hc
        · omega
        · have := hoS _ hc; omega
        · exact own_ne_row hfo h.rob (by decide) hc
  · have hk := hpl.knX (N := 1 + (m + 1)) h.since (by omega) (fun x hx => by
      by_cases hr : nblk m Z ea x
      · refine .inr fun u hu => ?_
        have hst : BwMem old bb eb ob _ _ u := hu.2.1
        obtain ⟨k, hk, h0, a, ha, e⟩ := hr
        obtain ⟨b', o, q1, q2, q3, _⟩ := h.nums.dat k hk 0 h0
        rw [ha] at q1
        obtain rfl := Option.some.inj q1
        have e : x = b' := e
        subst e
        have e1 : w.heap[x]? = some w.heap[x] := Array.getElem?_eq_getElem q2
        rw [e1]
        refine hst.stat x _ ?_
        rw [hOld]
        exact oldOf_at (by rw [hD]; exact .inr (.inr (.inr (.inr (.inr ⟨k, hk, h0, _, ha, rfl⟩))))) e1 (real_cell q3 e1)
      · exact .inl (hin x (.inl ⟨hx, hr⟩))) hosn hsz
    rw [bwThr_len]
    obtain ⟨ta, tc, hvt⟩ := own_form0 hpl.trace
    subst hvt
    exact hq Wg (1 + (m + 1)) ta _ tc _ _ γ' w' (by omega) hsz hp2.1 hp2.2.1 hp2.2.2 (hk.mono fun u hu => ⟨hu.1, hu.2.2⟩)
end
end Go.Proofs.Ytdedmmjmiakidaa
/- Plain words: a list of numbers that is handed in, opened; a play's law, lifted. No condition. -/
namespace Go.Proofs.Ytdedmmjmiakidaa
open Go.Conc Go.ChangeShapes Go.WideShapes Go.ChangeAt Go.RowKit Go.Deep
section
variable {H : Type} {enc : TypeId × Value → H}
set_option maxRecDepth 100000 in
theorem open_i64s_arg {W : World} {b0 : Nat} {v : Value} {d : DataW H} {p : List MemPlace}
    (hok : Value.okWide Try.prog W .any b0 76 v) (h : DataW.Trod enc Try.prog W 0 (fun _ => true) true 76 v d p) :
    ∃ a b off len cap, ∃ xs : Nat → Int, v = .slice a len cap ∧ (0 < len → a = some ⟨b, off, none⟩) ∧ len ≤ 9223372036854775807 ∧ IntsArg b off len xs W := by
  obtain ⟨a0, len, cap, rfl⟩ := okWide_slice Try.underlying76 hok
  obtain ⟨fuel, hf⟩ := h
  rcases open_ints Try.underlying76 Try.underlying3 (by kernel_rfl) hf with ⟨hcs, hx⟩ | ⟨a, len', cap', zs, hcs, _, hl, hm, hz, hx, hcell, hwz⟩
  · simp [Value.cells] at hcs
    obtain ⟨rfl, rfl, rfl⟩ := hcs
    exact ⟨none, 0, 0, 0, 0, fun _ => 0, rfl, fun h => absurd h (by decide), by omega, ⟨fun j h => absurd h (by omega), fun h => absurd h (by decide)⟩⟩
  · simp [Value.cells] at hcs
    obtain ⟨rfl, rfl, rfl⟩ := hcs
    simp only [if_true] at hz
    unfold maxLen at hm
    by_cases h0 : len = 0
    · subst h0
      exact ⟨some a, 0, 0, 0, cap, fun _ => 0, rfl, fun h => absurd h (by decide), by omega, ⟨fun j h => absurd h (by omega), fun h => absurd h (by decide)⟩⟩
    · obtain ⟨b, off, rfl, h1, h2⟩ := plain_at ⟨_, hcell 0 (by omega)⟩ (hcell 0 (by omega))
      have add_p : ∀ (b off k : Nat), (⟨b, off, none⟩ : Addr).add k = ⟨b, off + k, none⟩ := fun b off k => by
        unfold Addr.add
        split <;> simp_all
      refine ⟨some ⟨b, off, none⟩, b, off, len, cap, fun j => zs.getD j 0, rfl, fun _ => rfl, by omega, ⟨fun j hj => ?_, fun _ => h1⟩⟩
      rw [← add_p]
      exact hcell j (by omega)
end
/-- A law's run, its memory as it was. -/
theorem gr_of_kn {Wg k : Nat} {W w' : World} (hWg : W.heap.size ≤ Wg) (h : Kn ⟨some Wg, k⟩ (Gr W) w') : Gr W w' := by
  obtain ⟨u, hu, hg⟩ := h.get
  refine ⟨by rw [← hu.size]; exact hg.size, fun x hx => ?_, hu.os.symm.trans hg.os, hu.output.symm.trans hg.out⟩
  rw [← hu.heap x fun hF => ?_]
  · exact hg.block x hx
  · have hF : some Wg = some x := hF
    have := Option.some.inj hF
    omega
end Go.Proofs.Ytdedmmjmiakidaa
