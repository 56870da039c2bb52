/- Plain words: a stack's take, in any company. No condition. -/
import Derived.Test.YtmcffabfghhpaaaOnceMAA
import Derived.Test.YtmcffabfghhpaaaFwAJ
import Derived.OwnWalk
import Derived.Maps.AppendAt
set_option linter.unusedVariables false
set_option linter.unusedSimpArgs false
/- Plain words: a stack's take, in any company. No condition. -/
namespace Go.Proofs.Ytmcffabfghhpaaa
open Go.Conc Go.RowKit
section
variable {E : Env} {n : E.ι} {w : World} {ops : Array Oper} {i : Nat} {o : Oper} {l : List Nat} {t : Array Value} {Qr : E.ι → Array Value → World → Prop}
set_option maxRecDepth 100000 in
theorem nextWord_e (O : E.Ok) (hP : E.P = Try.prog) (j : Nat) (hj : j < 4294967296) {Q : E.ι → Value → World → Prop} (hq : Q n (.int .i64 (2 + 2 * (j : Int))) w) : cpsC E 67 #[.int .u64 j] Q n w := by
  refine cpsC_body O (by rw [hP]; exact Try.func67) rfl ?_
  simp only [Try.ntmps67]
  refine cps_opaque fun Q' hQ => ?_
  walk_nrm
  have h1 : IntKind.i64.wrap (j : Int) = (j : Int) := by rw [IntKind.wrap_i64]; omega
  have h2 : IntKind.i64.wrap (2 * (j : Int)) = 2 * (j : Int) := by rw [IntKind.wrap_i64]; omega
  have h3 : IntKind.i64.wrap (2 + 2 * (j : Int)) = 2 + 2 * (j : Int) := by rw [IntKind.wrap_i64]; omega
  have hcv : Try.prog.underlying 30 = some (.int .u64) := by kernel_rfl
  refine cps_seq O ?_
  (refine cps_region O ?_; simp only [List.size_toArray, List.length_cons, List.length_nil, Nat.reduceAdd, Nat.zero_add, List.range, List.range.loop])
  refine valE O hP (.int .i64 0) rfl rfl (fun _ => by simp [go_sem]) (fun _ => by go_simp; try (first | rfl | (simp [*]))) ?_; try walk_nrm
  refine cpsR_nil O ?_
  show cps _ _ _ _ _ _
  refine cps_seq O ?_
  (refine cps_region O ?_; simp only [List.size_toArray, List.length_cons, List.length_nil, Nat.reduceAdd, Nat.zero_add, List.range, List.range.loop])
  refine valE O hP (.int .u64 j) rfl rfl (fun _ => by simp [go_sem]) (fun _ => by go_simp; try (first | rfl | (simp [*]))) ?_; try walk_nrm
  refine valE O hP (.int .i64 j) rfl rfl (fun _ => by simp [go_sem]) (fun _ => by go_simp; try (first | rfl | (simp [*]))) ?_; try walk_nrm
  refine valE O hP (.int .i64 (2 * (j : Int))) rfl rfl (fun _ => by simp [go_sem]) (fun _ => by go_simp; try (first | rfl | (simp [*]))) ?_; try walk_nrm
  refine valE O hP (.int .i64 (2 + 2 * (j : Int))) rfl rfl (fun _ => by simp [go_sem]) (fun _ => by go_simp; try (first | rfl | (simp [*]))) ?_; try walk_nrm
  refine valE O hP (.int .i64 (2 + 2 * (j : Int))) rfl rfl (fun _ => by simp [go_sem]) (fun _ => by go_simp; try (first | rfl | (simp [*]))) ?_; try walk_nrm
  refine cpsR_nil O ?_
  exact cps_ret O (hQ _ _ _ _ ⟨.inr rfl, .int .i64 (2 + 2 * (j : Int)), retE O hP rfl rfl, hq⟩)
set_option maxRecDepth 100000 in
theorem valueWord_e (O : E.Ok) (hP : E.P = Try.prog) (j : Nat) (hj : j < 4294967296) {Q : E.ι → Value → World → Prop} (hq : Q n (.int .i64 (3 + 2 * (j : Int))) w) : cpsC E 46 #[.int .u64 j] Q n w := by
  refine cpsC_body O (by rw [hP]; exact Try.func46) rfl ?_
  simp only [Try.ntmps46]
  refine cps_opaque fun Q' hQ => ?_
  walk_nrm
  have h1 : IntKind.i64.wrap (j : Int) = (j : Int) := by rw [IntKind.wrap_i64]; omega
  have h2 : IntKind.i64.wrap (2 * (j : Int)) = 2 * (j : Int) := by rw [IntKind.wrap_i64]; omega
  have h3 : IntKind.i64.wrap (3 + 2 * (j : Int)) = 3 + 2 * (j : Int) := by rw [IntKind.wrap_i64]; omega
  have hcv : Try.prog.underlying 30 = some (.int .u64) := by kernel_rfl
  refine cps_seq O ?_
  (refine cps_region O ?_; simp only [List.size_toArray, List.length_cons, List.length_nil, Nat.reduceAdd, Nat.zero_add, List.range, List.range.loop])
  refine valE O hP (.int .i64 0) rfl rfl (fun _ => by simp [go_sem]) (fun _ => by go_simp; try (first | rfl | (simp [*]))) ?_; try walk_nrm
  refine cpsR_nil O ?_
  show cps _ _ _ _ _ _
  refine cps_seq O ?_
  (refine cps_region O ?_; simp only [List.size_toArray, List.length_cons, List.length_nil, Nat.reduceAdd, Nat.zero_add, List.range, List.range.loop])
  refine valE O hP (.int .u64 j) rfl rfl (fun _ => by simp [go_sem]) (fun _ => by go_simp; try (first | rfl | (simp [*]))) ?_; try walk_nrm
  refine valE O hP (.int .i64 j) rfl rfl (fun _ => by simp [go_sem]) (fun _ => by go_simp; try (first | rfl | (simp [*]))) ?_; try walk_nrm
  refine valE O hP (.int .i64 (2 * (j : Int))) rfl rfl (fun _ => by simp [go_sem]) (fun _ => by go_simp; try (first | rfl | (simp [*]))) ?_; try walk_nrm
  refine valE O hP (.int .i64 (3 + 2 * (j : Int))) rfl rfl (fun _ => by simp [go_sem]) (fun _ => by go_simp; try (first | rfl | (simp [*]))) ?_; try walk_nrm
  refine valE O hP (.int .i64 (3 + 2 * (j : Int))) rfl rfl (fun _ => by simp [go_sem]) (fun _ => by go_simp; try (first | rfl | (simp [*]))) ?_; try walk_nrm
  refine cpsR_nil O ?_
  exact cps_ret O (hQ _ _ _ _ ⟨.inr rfl, .int .i64 (3 + 2 * (j : Int)), retE O hP rfl rfl, hq⟩)
end
theorem mark_t2 {i T j : Nat} {K : SKd} (h : T % 4294967296 = j + 1) : (SPos.t2 i T K).mark = (1, 2 + 2 * (j : Int)) := by simp [SPos.mark, h]
theorem exec_t1z {i : Nat} {K : SKd} {a : SSt} (h : a.top i % 4294967296 = 0) : (SPos.t1 i K).exec a = (a, .inr (.none K)) := by simp [SPos.exec, h]
theorem exec_t1 {i : Nat} {K : SKd} {a : SSt} (h : ¬ a.top i % 4294967296 = 0) : (SPos.t1 i K).exec a = (a, .inl (.t2 i (a.top i) K)) := by simp [SPos.exec, h]
theorem exec_t2 {i T j : Nat} {K : SKd} {a : SSt} (h : T % 4294967296 = j + 1) : (SPos.t2 i T K).exec a = (a, .inl (.t3 i T (a.m.getD (2 * j) 0) K)) := by simp [SPos.exec, h]
theorem exec_t3h {i T x j : Nat} {K : SKd} {a : SSt} (h : T % 4294967296 = j + 1) (ht : a.top i = T) : (SPos.t3 i T x K).exec a = (a.setTop i (fol T x), .inl (K.after j)) := by simp [SPos.exec, h, ht]
theorem exec_t3m {i T x : Nat} {K : SKd} {a : SSt} (ht : ¬ a.top i = T) : (SPos.t3 i T x K).exec a = (a, .inl (.t1 i K)) := by simp [SPos.exec, ht]
section
variable {S N n : Nat} (Γ : Gated (stkJob S N n))
theorem Gated.alone_n {m : Γ.E.ι} {k : Nat} {a : SSt} {d : SSt × (SPos ⊕ SRes)} {w : World} {c : Code} {t : Array Value} {Q : Γ.E.ι → Exit → Array Value → World → Prop} (h : Γ.At m k a d w) (hc : okCode thrOk false c = true)
    (hwp : ∀ u, SRep S N n a u → c.wp Try.prog (onlyN fun a' u' => a'.defers = [] ∧ ∃ σ', SRep S N n σ' u' ∧ Sm (fun b => b = S ∨ b = N) u u' ∧ ∀ w', Γ.At m k σ' d w' → Q m .normal a'.tmps w') ⟨t, []⟩ u) : cps Γ.E c Q m t w :=
  Γ.alone h hc fun u hu => wp_mono (hwp u hu) fun e a' u' q => by
    cases e with
    | normal =>
      obtain ⟨q1, σ', q2, q3, q4⟩ := q
      exact ⟨rfl, q1, σ', q2, fun _ => Iff.rfl, q3, q4⟩
    | _ => exact q.elim
theorem SRep.setTop {a : SSt} {u : World} (h : SRep S N n a u) {i v : Nat} (hi : i < 2) (hv : v < 18446744073709551616) (hl : v % 4294967296 ≤ n) : SRep S N n (a.setTop i v) (u.drew.setCell ⟨S, i, none⟩ (.int .u64 (v : Int))) := by
  have hk := h.stk
  have h1 := hk.rS.drew.set i (.int .u64 (v : Int))
  rcases i with _ | _ | i
  · exact ⟨{ hk with rS := h1, rN := hk.rN.drew.set_ne hk.ne _, l0 := hv }, hl, h.b1, h.bn, h.bv⟩
  · exact ⟨{ hk with rS := h1, rN := hk.rN.drew.set_ne hk.ne _, l1 := hv }, h.b0, hl, h.bn, h.bv⟩
  · omega
set_option maxRecDepth 100000 in
set_option maxHeartbeats 4000000 in
/-- A take. -/
theorem take_e {i : Nat} (hi : i < 2) {K : SKd} {m : Γ.E.ι} {k : Nat} {a : SSt} {w : World} (h : Γ.At m k a (a, .inl (.t1 i K)) w) {Q : Γ.E.ι → Value → World → Prop}
    (hq0 : ∀ m' k' a' w', k' < k → Γ.At m' k' a' (a', .inr (.none K)) w' → Q m' (.tuple #[.int .u64 0, .bool false]) w')
    (hq1 : ∀ m' k' a' w' j, k' < k → j < n → Γ.At m' k' a' (a', .inl (K.after j)) w' → Q m' (.tuple #[.int .u64 j, .bool true]) w') :
    cpsC Γ.E 44 #[.pointer (some ⟨S, 0, none⟩), Γ.gate, .int .i64 i] Q m w := by
  have O := Γ.ok
  obtain ⟨g, hg⟩ : ∃ g, g = Γ.gate := ⟨_, rfl⟩
  refine cpsC_body O (by rw [Γ.P]; exact Try.func44) rfl ?_
  simp only [Try.ntmps44]
  refine cps_opaque fun Q' hQ => ?_
  rw [← hg]
  walk_nrm
  refine cps_seq O ?_
  (refine cps_region O ?_; simp only [List.size_toArray, List.length_cons, List.length_nil, Nat.reduceAdd, Nat.zero_add, List.range, List.range.loop])
  refine valE O Γ.P (.int .u64 0) rfl rfl (fun _ => by simp [go_sem]) (fun _ => by go_simp; try (first | rfl | (simp [*]))) ?_; try walk_nrm
  refine valE O Γ.P (.bool false) rfl rfl (fun _ => by simp [go_sem]) (fun _ => by go_simp; try (first | rfl | (simp [*]))) ?_; try walk_nrm
  refine cpsR_nil O ?_
  show cps _ _ _ _ _ _
  refine cps_scope O ?_
  refine cps_seq O ?_
  refine cps_label O ?_
  show cps _ _ _ _ _ _
  refine cps_block O ?_
  refine cps_loopm O (fun k₁ m' t w' => ∃ (a' : SSt) (y8 y9 y10 y11 y12 y13 y14 y15 y16 y17 y18 y19 y20 y21 y22 y23 y24 y25 y26 y27 y28 y29 y30 y31 y32 y33 y34 y35 y36 y37 y38 y39 y40 y41 y42 y43 y44 y45 y46 y47 y48 y49 y50 y51 y52 : Value), k₁ ≤ k ∧ Γ.At m' k₁ a' (a', .inl (.t1 i K)) w' ∧ t = #[.pointer (some ⟨S, 0, none⟩), g, .int .i64 i, undef, undef, undef, .int .u64 0, .bool false, y8, y9, y10, y11, y12, y13, y14, y15, y16, y17, y18, y19, y20, y21, y22, y23, y24, y25, y26, y27, y28, y29, y30, y31, y32, y33, y34, y35, y36, y37, y38, y39, y40, y41, y42, y43, y44, y45, y46, y47, y48, y49, y50, y51, y52]) ?_ (m := k) ⟨a, _, _, _, _, _, _, _, _, _, _, _, _, _, _, _, _, _, _, _, _, _, _, _, _, _, _, _, _, _, _, _, _, _, _, _, _, _, _, _, _, _, _, _, _, _, Nat.le_refl _, h, rfl⟩
  clear h
  rintro k₁ m' t w' ⟨a', y8, y9, y10, y11, y12, y13, y14, y15, y16, y17, y18, y19, y20, y21, y22, y23, y24, y25, y26, y27, y28, y29, y30, y31, y32, y33, y34, y35, y36, y37, y38, y39, y40, y41, y42, y43, y44, y45, y46, y47, y48, y49, y50, y51, y52, hk₁, h, rfl⟩
  have Hq0 := Lib.hid hq0
  have Hq1 := Lib.hid hq1
  clear hq0 hq1
  refine cps_block O ?_
  refine cps_seq O ?_
  (refine cps_region O ?_; simp only [List.size_toArray, List.length_cons, List.length_nil, Nat.reduceAdd, Nat.zero_add, List.range, List.range.loop])
  refine valE O Γ.P (g) rfl rfl (fun _ => by simp [go_sem]) (fun _ => by go_simp; try (first | rfl | (simp [*]))) ?_; try walk_nrm
  refine valE O Γ.P (.int .i64 i) rfl rfl (fun _ => by simp [go_sem]) (fun _ => by go_simp; try (first | rfl | (simp [*]))) ?_; try walk_nrm
  refine callE O Γ.P (f := 45) (vals := #[g, .int .u8 1, .int .i64 i]) rfl rfl rfl Try.func45 rfl rfl rfl ?_
  have hs := Γ.step h
  rw [← hg] at hs
  refine cpsC.mono hs ?_
  rintro m2 v w2 ⟨rfl, k2, a2, hk2, h2⟩
  clear hs h
  try walk_nrm
  refine cpsR_nil O ?_
  show cps _ _ _ _ _ _
  refine cps_seq O ?_
  refine Γ.alone h2 (by kernel_rfl) fun u hu => ?_
  have hu : SRep S N n a2 u := hu
  have hc := hu.topCell hi
  have Hu := Lib.hid hu
  clear hu
  go_wp2_with fail
  refine (aload _ _ _ hc).mono ?_
  rintro e u1 ⟨rfl, rfl⟩
  go_wp2
  refine ⟨a2, Hu.out, fun _ => Iff.rfl, Sm.refl _ _, fun w3 h3 => ?_⟩
  clear hc Hu h2
  show cps _ _ _ _ _ _
  have hr0 := Γ.rep _ _ _ _ _ h3
  obtain ⟨u0, hu0⟩ := hr0
  have hu0 : SRep S N n a2 u0 := hu0
  obtain ⟨ht1, ht2⟩ := hu0.top i
  have hn1 := hu0.stk.le
  have hand := and_low (a2.top i) ht1
  clear hu0
  obtain ⟨T, hT⟩ : ∃ T, T = a2.top i := ⟨_, rfl⟩
  rw [← hT] at ht1 ht2 hand ⊢
  by_cases hz : T % 4294967296 = 0
  · have hx : (stkJob S N n).exec (.t1 i K) a2 = (a2, .inr (.none K)) := by
      show SPos.exec (.t1 i K) a2 = _
      unfold SPos.exec
      simp only [← hT, hz, if_true]
      rfl
    rw [hx] at h3
    have hand : bits .and .u64 (T : Int) 4294967295 = 0 := by rw [hand, hz]; rfl
    have HT := Lib.hid hT
    clear hT hx
    refine cps_seq O ?_
    refine cps_seq O ?_
    (refine cps_region O ?_; simp only [List.size_toArray, List.length_cons, List.length_nil, Nat.reduceAdd, Nat.zero_add, List.range, List.range.loop])
    refine valE O Γ.P (.int .u64 T) rfl rfl (fun _ => by simp [go_sem]) (fun _ => by go_simp; try (first | rfl | (simp [*]))) ?_; try walk_nrm
    refine valE O Γ.P (.int .u64 0) rfl rfl (fun _ => by simp [go_sem]) (fun _ => by go_simp; try (first | rfl | (simp [*]))) ?_; try walk_nrm
    refine valE O Γ.P (.bool true) rfl rfl (fun _ => by simp [go_sem]) (fun _ => by go_simp; try (first | rfl | (simp [*]))) ?_; try walk_nrm
    refine cpsR_nil O ?_
    show cps _ _ _ _ _ _
    refine cps_cond O (v := true) rfl ?_
    simp only [if_true]
    refine cps_seq O ?_
    (refine cps_region O ?_; simp only [List.size_toArray, List.length_cons, List.length_nil, Nat.reduceAdd, Nat.zero_add, List.range, List.range.loop])
    refine valE O Γ.P (.int .u64 0) rfl rfl (fun _ => by simp [go_sem]) (fun _ => by go_simp; try (first | rfl | (simp [*]))) ?_; try walk_nrm
    refine valE O Γ.P (.bool false) rfl rfl (fun _ => by simp [go_sem]) (fun _ => by go_simp; try (first | rfl | (simp [*]))) ?_; try walk_nrm
    refine cpsR_nil O ?_
    refine cps_ret O (hQ _ _ _ _ ⟨.inr rfl, .tuple #[.int .u64 0, .bool false], ret2E O Γ.P rfl rfl, Hq0.out _ _ _ _ (by omega) h3⟩)
  · obtain ⟨j, hj⟩ : ∃ j, T % 4294967296 = j + 1 := ⟨T % 4294967296 - 1, by omega⟩
    have hjn : j < n := by omega
    have hx : (stkJob S N n).exec (.t1 i K) a2 = (a2, .inl (.t2 i T K)) := by
      show SPos.exec (.t1 i K) a2 = _
      unfold SPos.exec
      simp only [← hT, hz, if_false]
      rfl
    rw [hx] at h3
    have hand : bits .and .u64 (T : Int) 4294967295 = (j : Int) + 1 := by rw [hand, hj]; rfl
    have HT := Lib.hid hT
    clear hT hx
    refine cps_seq O ?_
    refine cps_seq O ?_
    (refine cps_region O ?_; simp only [List.size_toArray, List.length_cons, List.length_nil, Nat.reduceAdd, Nat.zero_add, List.range, List.range.loop])
    refine valE O Γ.P (.int .u64 T) rfl rfl (fun _ => by simp [go_sem]) (fun _ => by go_simp; try (first | rfl | (simp [*]))) ?_; try walk_nrm
    refine valE O Γ.P (.int .u64 ((j : Int) + 1)) rfl rfl (fun _ => by simp [go_sem]) (fun _ => by go_simp; try (first | rfl | (simp [*]))) ?_; try walk_nrm
    have hne : ((j : Int) + 1 == 0) = false := by simp; omega
    have hne2 : ¬ ((j : Int) + 1 = 0) := by omega
    refine valE O Γ.P (.bool false) rfl rfl (fun _ => by simp [go_sem]) (fun _ => by go_simp; try (first | rfl | (simp [*]))) ?_; try walk_nrm
    refine cpsR_nil O ?_
    show cps _ _ _ _ _ _
    refine cps_cond O (v := false) rfl ?_
    simp only [Bool.false_eq_true, if_false]
    refine cps_skip O ?_
    show cps _ _ _ _ _ _
    refine cps_seq O ?_
    (refine cps_region O ?_; simp only [List.size_toArray, List.length_cons, List.length_nil, Nat.reduceAdd, Nat.zero_add, List.range, List.range.loop])
    have hw1 : IntKind.u64.wrap ((j : Int) + 1 - 1) = (j : Int) := by rw [IntKind.wrap_u64]; omega
    have hw2 : IntKind.u64.wrap (j : Int) = (j : Int) := by rw [IntKind.wrap_u64]; omega
    refine valE O Γ.P (.int .u64 T) rfl rfl (fun _ => by simp [go_sem]) (fun _ => by go_simp; try (first | rfl | (simp [*]))) ?_; try walk_nrm
    refine valE O Γ.P (.int .u64 ((j : Int) + 1)) rfl rfl (fun _ => by simp [go_sem]) (fun _ => by go_simp; try (first | rfl | (simp [*]))) ?_; try walk_nrm
    refine valE O Γ.P (.int .u64 j) rfl rfl (fun _ => by simp [go_sem]) (fun _ => by go_simp; try (first | rfl | (simp [*]))) ?_; try walk_nrm
    refine valE O Γ.P (.int .u64 j) rfl rfl (fun _ => by simp [go_sem]) (fun _ => by go_simp; try (first | rfl | (simp [*]))) ?_; try walk_nrm
    refine cpsR_nil O ?_
    clear hw1 hw2 hne hne2
    show cps _ _ _ _ _ _
    refine cps_seq O ?_
    (refine cps_region O ?_; simp only [List.size_toArray, List.length_cons, List.length_nil, Nat.reduceAdd, Nat.zero_add, List.range, List.range.loop])
    refine valE O Γ.P (g) rfl rfl (fun _ => by simp [go_sem]) (fun _ => by go_simp; try (first | rfl | (simp [*]))) ?_; try walk_nrm
    refine valE O Γ.P (.int .u64 j) rfl rfl (fun _ => by simp [go_sem]) (fun _ => by go_simp; try (first | rfl | (simp [*]))) ?_; try walk_nrm
    refine callE O Γ.P (f := 67) (vals := #[.int .u64 j]) rfl rfl rfl Try.func67 rfl rfl rfl (nextWord_e O Γ.P j (by omega) ?_)
    try walk_nrm
    refine callE O Γ.P (f := 45) (vals := #[g, .int .u8 1, .int .i64 (2 + 2 * (j : Int))]) rfl rfl rfl Try.func45 rfl rfl rfl ?_
    have hm : (stkJob S N n).mark (.t2 i T K) = (1, 2 + 2 * (j : Int)) := mark_t2 (i := i) (K := K) hj
    have hs := Γ.step h3
    rw [← hg, hm] at hs
    refine cpsC.mono hs ?_
    rintro m4 v w4 ⟨rfl, k4, a4, hk4, h4⟩
    clear hs h3 hm
    try walk_nrm
    refine cpsR_nil O ?_
    show cps _ _ _ _ _ _
    have hx : (stkJob S N n).exec (.t2 i T K) a4 = (a4, .inl (.t3 i T (SSt.m a4 |>.getD (2 * j) 0) K)) := exec_t2 (i := i) (K := K) (a := a4) hj
    rw [hx] at h4
    clear hx
    obtain ⟨x4, hx4⟩ : ∃ x, x = (SSt.m a4).getD (2 * j) 0 := ⟨_, rfl⟩
    rw [← hx4] at h4
    refine cps_seq O ?_
    refine Γ.alone h4 (by kernel_rfl) fun u hu => ?_
    have hu : SRep S N n a4 u := hu
    have hcn := hu.nodes
    have hcw := hu.word (j := 2 * j) (by omega)
    have hcw2 : u.cell? ⟨N, j * 2, none⟩ = some (.int .u64 (x4 : Int)) := by rw [Nat.mul_comm, hx4]; exact hcw
    have Hx4 : Hid (x4 ≤ n) := Lib.hid (by
      have := hu.bn j (by rw [hu.stk.len]; omega)
      rw [hx4, List.getD_eq_getElem?_getD, List.getElem?_eq_getElem (by rw [hu.stk.len]; omega)]
      exact this)
    have Hu := Lib.hid hu
    clear hu hcw hx4
    have hjn2 : decide (j < n) = true := by simpa using hjn
    go_wp2_with fail
    refine (aload _ _ _ hcw2).mono ?_
    rintro e u1 ⟨rfl, rfl⟩
    go_wp2
    refine ⟨a4, Hu.out, fun _ => Iff.rfl, Sm.refl _ _, fun w5 h5 => ?_⟩
    clear hcn hcw2 h4
    have hx4 : x4 ≤ n := Hx4.out
    clear Hu
    show cps _ _ _ _ _ _
    refine cps_seq O ?_
    (refine cps_region O ?_; simp only [List.size_toArray, List.length_cons, List.length_nil, Nat.reduceAdd, Nat.zero_add, List.range, List.range.loop])
    refine valE O Γ.P (g) rfl rfl (fun _ => by simp [go_sem]) (fun _ => by go_simp; try (first | rfl | (simp [*]))) ?_; try walk_nrm
    refine valE O Γ.P (.int .i64 i) rfl rfl (fun _ => by simp [go_sem]) (fun _ => by go_simp; try (first | rfl | (simp [*]))) ?_; try walk_nrm
    refine callE O Γ.P (f := 45) (vals := #[g, .int .u8 5, .int .i64 i]) rfl rfl rfl Try.func45 rfl rfl rfl ?_
    have hs := Γ.step h5
    rw [← hg] at hs
    refine cpsC.mono hs ?_
    rintro m6 v w6 ⟨rfl, k6, a6, hk6, h6⟩
    clear hs h5
    try walk_nrm
    refine cpsR_nil O ?_
    show cps _ _ _ _ _ _
    have Hhj := Lib.hid hj
    by_cases ht : SSt.top a6 i = T
    · have hx : (stkJob S N n).exec (.t3 i T x4 K) a6 = (SSt.setTop a6 i (fol T x4), .inl (K.after j)) := exec_t3h (i := i) (K := K) (a := a6) hj ht
      rw [hx] at h6
      clear hx
      refine cps_seq O ?_
      refine cps_seq O ?_
      refine Gated.alone_n Γ h6 (by kernel_rfl) fun u hu => ?_
      have hc3 := hu.topCell hi
      rw [ht] at hc3
      have hf3 : u.frozen? ⟨S, i, none⟩ = false := hu.stk.rS.free i
      have hcn := hu.nodes
      have Hu := Lib.hid hu
      have Ht := Lib.hid ht
      clear hu ht
      go_region_with (first | (go_at_call 69; refine (follower_c T x4 ht1 (by omega) _).mono ?_; rintro e w' ⟨rfl, rfl⟩) | (go_at_call 68; refine (acas_hit _ _ _ u.drew hc3 hf3).mono ?_; rintro e w' ⟨rfl, rfl⟩))
      all_goals
        refine ⟨rfl, SSt.setTop a6 i (fol T x4), Hu.out.setTop hi (fol_lt _ _ (by omega)) (by rw [fol_low _ _ (by omega)]; exact hx4), (Sm.refl _ _).drew.setCell (.inl rfl) _, fun w7 h7 => ?_⟩
        show cps _ _ _ _ _ _
        refine cps_cond O (v := false) rfl ?_
        simp only [Bool.false_eq_true, if_false]
        refine cps_skip O ?_
        show cps _ _ _ _ _ _
        refine cps_seq O ?_
        (refine cps_region O ?_; simp only [List.size_toArray, List.length_cons, List.length_nil, Nat.reduceAdd, Nat.zero_add, List.range, List.range.loop])
        refine valE O Γ.P (.int .u64 j) rfl rfl (fun _ => by simp [go_sem]) (fun _ => by go_simp; try (first | rfl | (simp [*]))) ?_; try walk_nrm
        refine valE O Γ.P (.int .u64 j) rfl rfl (fun _ => by simp [go_sem]) (fun _ => by go_simp; try (first | rfl | (simp [*]))) ?_; try walk_nrm
        refine valE O Γ.P (.bool true) rfl rfl (fun _ => by simp [go_sem]) (fun _ => by go_simp; try (first | rfl | (simp [*]))) ?_; try walk_nrm
        refine cpsR_nil O ?_
        exact cps_ret O (hQ _ _ _ _ ⟨.inr rfl, .tuple #[.int .u64 j, .bool true], ret2E O Γ.P rfl rfl, Hq1.out _ _ _ _ j (by omega) hjn h7⟩)
    · have hx : (stkJob S N n).exec (.t3 i T x4 K) a6 = (a6, .inl (.t1 i K)) := exec_t3m (i := i) (K := K) (a := a6) ht
      rw [hx] at h6
      clear hx
      refine cps_seq O ?_
      refine cps_seq O ?_
      refine Gated.alone_n Γ h6 (by kernel_rfl) fun u hu => ?_
      have hc3 := hu.topCell hi
      obtain ⟨T6, hT6⟩ : ∃ T6, T6 = SSt.top a6 i := ⟨_, rfl⟩
      rw [← hT6] at hc3 ht
      clear hT6
      have hf3 : u.frozen? ⟨S, i, none⟩ = false := hu.stk.rS.free i
      have hcn := hu.nodes
      have hd : SRep S N n a6 u.drew := (stkJob S N n).frame a6 u u.drew (fun _ _ => rfl) hu
      have Hd := Lib.hid hd
      have Ht : Hid (¬ (T6 : Int) = (T : Int)) := Lib.hid (by omega)
      clear hu ht hd
      go_region_with (first | (go_at_call 69; refine (follower_c T x4 ht1 (by omega) _).mono ?_; rintro e w' ⟨rfl, rfl⟩) | (go_at_call 68; refine (acas_miss _ _ _ _ u.drew hc3 hf3 Ht.out).mono ?_; rintro e w' ⟨rfl, rfl⟩))
      all_goals
        refine ⟨rfl, a6, Hd.out, (Sm.refl _ _).drew, fun w7 h7 => ?_⟩
        show cps _ _ _ _ _ _
        refine cps_cond O (v := true) rfl (show cps _ (.exit 1) _ _ _ _ from cps_exit O ?_)
        refine ⟨k6, by omega, by omega, ⟨a6, h7⟩, ?_⟩
        repeat constructor
end
end Go.Proofs.Ytmcffabfghhpaaa
/- Plain words: a stack's give, in any company. No condition. -/
namespace Go.Proofs.Ytmcffabfghhpaaa
open Go.Conc Go.RowKit
theorem exec_g1 {i j : Nat} {r : SRd} {a : SSt} : (SPos.g1 i j r).exec a = (a, .inl (.g2 i j (a.top i) r)) := rfl
theorem exec_g2 {i j T : Nat} {r : SRd} {a : SSt} : (SPos.g2 i j T r).exec a = ({ a with m := a.m.set (2 * j) (T % 4294967296) }, .inl (.g3 i j T r)) := rfl
theorem exec_g3h {i j T : Nat} {r : SRd} {a : SSt} (ht : a.top i = T) : (SPos.g3 i j T r).exec a = (a.setTop i (fol T (j + 1)), .inr (.done r)) := by simp [SPos.exec, ht]
theorem exec_g3m {i j T : Nat} {r : SRd} {a : SSt} (ht : ¬ a.top i = T) : (SPos.g3 i j T r).exec a = (a, .inl (.g1 i j r)) := by simp [SPos.exec, ht]
section
variable {S N n : Nat} (Γ : Gated (stkJob S N n))
theorem SRep.setWord {a : SSt} {u : World} (h : SRep S N n a u) {x v : Nat} (hx : x < 2 * n) (hv : v < 18446744073709551616) (hv' : x % 2 = 0 → v ≤ n) : SRep S N n { a with m := a.m.set x v } (u.setCell ⟨N, x, none⟩ (.int .u64 (v : Int))) := by
  have hk := h.stk
  refine ⟨{ hk with rS := hk.rS.set_ne (fun e => hk.ne e.symm) _, rN := by have := hk.rN.set x (.int .u64 (v : Int)); rw [uw_set] at this; exact this, len := by simpa using hk.len, nx := fun i hi => ?_ }, h.b0, h.b1, fun i hi => ?_, fun i hi => ?_⟩
  · simp only [List.length_set] at hi
    have hle := hk.le
    simp only [List.getElem_set]
    split
    · have := hv' (by omega); omega
    · have := h.bn i hi; omega
  · simp only [List.length_set] at hi
    simp only [List.getElem_set]
    split
    · exact hv' (by omega)
    · exact h.bn i hi
  · simp only [List.length_set] at hi
    simp only [List.getElem_set]
    split
    · exact hv
    · exact h.bv i hi
theorem SRep.drew {a : SSt} {u : World} (h : SRep S N n a u) : SRep S N n a u.drew := (stkJob S N n).frame a u u.drew (fun _ _ => rfl) h
set_option maxRecDepth 100000 in
set_option maxHeartbeats 4000000 in
/-- A give. -/
theorem give_e {i : Nat} (hi : i < 2) {j : Nat} (hj : j < n) {r : SRd} {m : Γ.E.ι} {k : Nat} {a : SSt} {w : World} (h : Γ.At m k a (a, .inl (.g1 i j r)) w) {Q : Γ.E.ι → Value → World → Prop}
    (hq : ∀ m' k' a' w', k' < k → Γ.At m' k' a' (a', .inr (.done r)) w' → Q m' (.tuple #[]) w') :
    cpsC Γ.E 47 #[.pointer (some ⟨S, 0, none⟩), Γ.gate, .int .i64 i, .int .u64 j] Q m w := by
  have O := Γ.ok
  obtain ⟨g, hg⟩ : ∃ g, g = Γ.gate := ⟨_, rfl⟩
  have hjn : j < 1024 := by
    obtain ⟨u0, hu0⟩ := Γ.rep _ _ _ _ _ h
    have hu0 : SRep S N n a u0 := hu0
    have := hu0.stk.le
    omega
  refine cpsC_body O (by rw [Γ.P]; exact Try.func47) rfl ?_
  simp only [Try.ntmps47]
  refine cps_opaque fun Q' hQ => ?_
  rw [← hg]
  walk_nrm
  refine cps_scope O ?_
  refine cps_seq O ?_
  refine cps_label O ?_
  show cps _ _ _ _ _ _
  refine cps_block O ?_
  refine cps_loopm O (fun k₁ m' t w' => ∃ (a' : SSt) (y8 y9 y10 y11 y12 y13 y14 y15 y16 y17 y18 y19 y20 y21 y22 y23 y24 y25 y26 y27 y28 y29 y30 y31 y32 y33 y34 y35 y36 y37 y38 y39 y40 y41 y42 y43 y44 y45 y46 : Value), k₁ ≤ k ∧ Γ.At m' k₁ a' (a', .inl (.g1 i j r)) w' ∧ t = #[.pointer (some ⟨S, 0, none⟩), g, .int .i64 i, .int .u64 j, undef, undef, undef, undef, y8, y9, y10, y11, y12, y13, y14, y15, y16, y17, y18, y19, y20, y21, y22, y23, y24, y25, y26, y27, y28, y29, y30, y31, y32, y33, y34, y35, y36, y37, y38, y39, y40, y41, y42, y43, y44, y45, y46]) ?_ (m := k) ⟨a, _, _, _, _, _, _, _, _, _, _, _, _, _, _, _, _, _, _, _, _, _, _, _, _, _, _, _, _, _, _, _, _, _, _, _, _, _, _, _, Nat.le_refl _, h, rfl⟩
  clear h
  rintro k₁ m' t w' ⟨a', y8, y9, y10, y11, y12, y13, y14, y15, y16, y17, y18, y19, y20, y21, y22, y23, y24, y25, y26, y27, y28, y29, y30, y31, y32, y33, y34, y35, y36, y37, y38, y39, y40, y41, y42, y43, y44, y45, y46, hk₁, h, rfl⟩
  have Hq := Lib.hid hq
  clear hq
  refine cps_block O ?_
  refine cps_seq O ?_
  (refine cps_region O ?_; simp only [List.size_toArray, List.length_cons, List.length_nil, Nat.reduceAdd, Nat.zero_add, List.range, List.range.loop])
  refine valE O Γ.P (g) rfl rfl (fun _ => by simp [go_sem]) (fun _ => by go_simp; try (first | rfl | (simp [*]))) ?_; try walk_nrm
  refine valE O Γ.P (.int .i64 i) rfl rfl (fun _ => by simp [go_sem]) (fun _ => by go_simp; try (first | rfl | (simp [*]))) ?_; try walk_nrm
  refine callE O Γ.P (f := 45) (vals := #[g, .int .u8 1, .int .i64 i]) rfl rfl rfl Try.func45 rfl rfl rfl ?_
  have hs := Γ.step h
  rw [← hg] at hs
  refine cpsC.mono hs ?_
  rintro m2 v w2 ⟨rfl, k2, a2, hk2, h2⟩
  clear hs h
  try walk_nrm
  refine cpsR_nil O ?_
  show cps _ _ _ _ _ _
  have hx : (stkJob S N n).exec (.g1 i j r) a2 = (a2, .inl (.g2 i j (SSt.top a2 i) r)) := exec_g1
  rw [hx] at h2
  clear hx
  obtain ⟨ht1, ht2⟩ : SSt.top a2 i < 18446744073709551616 ∧ SSt.top a2 i % 4294967296 ≤ n := by
    obtain ⟨u0, hu0⟩ := Γ.rep _ _ _ _ _ h2
    exact SRep.top hu0 i
  obtain ⟨T, hT⟩ : ∃ T, T = SSt.top a2 i := ⟨_, rfl⟩
  rw [← hT] at ht1 ht2 h2
  refine cps_seq O ?_
  refine Gated.alone_n Γ h2 (by kernel_rfl) fun u hu => ?_
  have hc := hu.topCell hi
  rw [← hT] at hc
  have Hu := Lib.hid hu
  clear hu hT
  go_wp2_with fail
  refine (aload _ _ _ hc).mono ?_
  rintro e u1 ⟨rfl, rfl⟩
  go_wp2
  refine ⟨rfl, a2, Hu.out, Sm.refl _ _, fun w3 h3 => ?_⟩
  clear hc Hu h2
  show cps _ _ _ _ _ _
  refine cps_seq O ?_
  (refine cps_region O ?_; simp only [List.size_toArray, List.length_cons, List.length_nil, Nat.reduceAdd, Nat.zero_add, List.range, List.range.loop])
  refine valE O Γ.P (g) rfl rfl (fun _ => by simp [go_sem]) (fun _ => by go_simp; try (first | rfl | (simp [*]))) ?_; try walk_nrm
  refine valE O Γ.P (.int .u64 j) rfl rfl (fun _ => by simp [go_sem]) (fun _ => by go_simp; try (first | rfl | (simp [*]))) ?_; try walk_nrm
  refine callE O Γ.P (f := 67) (vals := #[.int .u64 j]) rfl rfl rfl Try.func67 rfl rfl rfl (nextWord_e O Γ.P j (by omega) ?_)
  try walk_nrm
  refine callE O Γ.P (f := 45) (vals := #[g, .int .u8 2, .int .i64 (2 + 2 * (j : Int))]) rfl rfl rfl Try.func45 rfl rfl rfl ?_
  have hs := Γ.step h3
  rw [← hg] at hs
  refine cpsC.mono hs ?_
  rintro m4 v w4 ⟨rfl, k4, a4, hk4, h4⟩
  clear hs h3
  try walk_nrm
  refine cpsR_nil O ?_
  show cps _ _ _ _ _ _
  have hx : (stkJob S N n).exec (.g2 i j T r) a4 = ({ a4 with m := List.set (SSt.m a4) (2 * j) (T % 4294967296) }, .inl (.g3 i j T r)) := exec_g2
  rw [hx] at h4
  clear hx
  refine cps_seq O ?_
  refine Gated.alone_n Γ h4 (by kernel_rfl) fun u hu => ?_
  have hcn := hu.nodes
  have hcw2 : ∃ x, u.cell? ⟨N, j * 2, none⟩ = some x := ⟨_, by rw [Nat.mul_comm]; exact hu.word (j := 2 * j) (by omega)⟩
  obtain ⟨x4, hcw2⟩ := hcw2
  have hf2 : u.frozen? ⟨N, j * 2, none⟩ = false := hu.stk.rN.free _
  have hand : bits .and .u64 (T : Int) 4294967295 = ((T % 4294967296 : Nat) : Int) := and_low T ht1
  obtain ⟨lo, hlo⟩ : ∃ lo, lo = T % 4294967296 := ⟨_, rfl⟩
  rw [← hlo] at hand ht2 h4
  have Hu := Lib.hid hu
  have Hlo := Lib.hid hlo
  clear hu hlo
  have hjn2 : decide (j < n) = true := by simpa using hj
  go_wp2_with fail
  refine (astore _ _ _ _ hcw2 hf2).mono ?_
  rintro e u1 ⟨rfl, rfl⟩
  go_wp2
  have hlo := Hlo.out
  refine ⟨rfl, { a4 with m := List.set (SSt.m a4) (2 * j) (T % 4294967296) }, ?_, (Sm.refl _ _).setCell (.inr rfl) _, fun w5 h5 => ?_⟩
  · have := Hu.out.setWord (x := 2 * j) (v := lo) (by omega) (by omega) (fun _ => ht2)
    rw [Nat.mul_comm 2 j, hlo] at this
    rw [Nat.mul_comm 2 j, hlo]
    exact this
  rw [← hlo] at h5
  clear hcn hcw2 h4 hf2 hand
  clear Hu
  show cps _ _ _ _ _ _
  refine cps_seq O ?_
  (refine cps_region O ?_; simp only [List.size_toArray, List.length_cons, List.length_nil, Nat.reduceAdd, Nat.zero_add, List.range, List.range.loop])
  refine valE O Γ.P (g) rfl rfl (fun _ => by simp [go_sem]) (fun _ => by go_simp; try (first | rfl | (simp [*]))) ?_; try walk_nrm
  refine valE O Γ.P (.int .i64 i) rfl rfl (fun _ => by simp [go_sem]) (fun _ => by go_simp; try (first | rfl | (simp [*]))) ?_; try walk_nrm
  refine callE O Γ.P (f := 45) (vals := #[g, .int .u8 5, .int .i64 i]) rfl rfl rfl Try.func45 rfl rfl rfl ?_
  have hs := Γ.step h5
  rw [← hg] at hs
  refine cpsC.mono hs ?_
  rintro m6 v w6 ⟨rfl, k6, a6, hk6, h6⟩
  clear hs h5
  try walk_nrm
  refine cpsR_nil O ?_
  show cps _ _ _ _ _ _
  have hw1 : IntKind.u64.wrap ((j : Int) + 1) = (j : Int) + 1 := by rw [IntKind.wrap_u64]; omega
  by_cases ht : SSt.top a6 i = T
  · have hx : (stkJob S N n).exec (.g3 i j T r) a6 = (SSt.setTop a6 i (fol T (j + 1)), .inr (.done r)) := exec_g3h (i := i) (j := j) (r := r) (a := a6) ht
    rw [hx] at h6
    clear hx
    refine cps_seq O ?_
    refine cps_seq O ?_
    refine Gated.alone_n Γ h6 (by kernel_rfl) fun u hu => ?_
    have hc3 := hu.topCell hi
    rw [ht] at hc3
    have hf3 : u.frozen? ⟨S, i, none⟩ = false := hu.stk.rS.free i
    have Hu := Lib.hid hu
    have Ht := Lib.hid ht
    clear hu ht
    go_region_with (first | (go_at_call 69; refine (follower_s T j ht1 (by omega) _).mono ?_; rintro e w' ⟨rfl, rfl⟩) | (go_at_call 68; refine (acas_hit _ _ _ u.drew hc3 hf3).mono ?_; rintro e w' ⟨rfl, rfl⟩))
    all_goals
      refine ⟨rfl, SSt.setTop a6 i (fol T (j + 1)), Hu.out.setTop hi (fol_lt _ _ (by omega)) (by rw [fol_low _ _ (by omega)]; omega), (Sm.refl _ _).drew.setCell (.inl rfl) _, fun w7 h7 => ?_⟩
      show cps _ _ _ _ _ _
      refine cps_cond O (v := false) rfl ?_
      simp only [Bool.false_eq_true, if_false]
      refine cps_skip O ?_
      show cps _ _ _ _ _ _
      exact cps_ret O (hQ _ _ _ _ ⟨.inr rfl, .tuple #[], ret0E O Γ.P rfl, Hq.out _ _ _ _ (by omega) h7⟩)
  · have hx : (stkJob S N n).exec (.g3 i j T r) a6 = (a6, .inl (.g1 i j r)) := exec_g3m (i := i) (j := j) (r := r) (a := a6) ht
    rw [hx] at h6
    clear hx
    refine cps_seq O ?_
    refine cps_seq O ?_
    refine Gated.alone_n Γ h6 (by kernel_rfl) fun u hu => ?_
    have hc3 := hu.topCell hi
    obtain ⟨T6, hT6⟩ : ∃ T6, T6 = SSt.top a6 i := ⟨_, rfl⟩
    rw [← hT6] at hc3 ht
    clear hT6
    have hf3 : u.frozen? ⟨S, i, none⟩ = false := hu.stk.rS.free i
    have hd : SRep S N n a6 u.drew := hu.drew
    have Hd := Lib.hid hd
    have Ht : Hid (¬ (T6 : Int) = (T : Int)) := Lib.hid (by omega)
    clear hu ht hd
    go_region_with (first | (go_at_call 69; refine (follower_s T j ht1 (by omega) _).mono ?_; rintro e w' ⟨rfl, rfl⟩) | (go_at_call 68; refine (acas_miss _ _ _ _ u.drew hc3 hf3 Ht.out).mono ?_; rintro e w' ⟨rfl, rfl⟩))
    all_goals
      refine ⟨rfl, a6, Hd.out, (Sm.refl _ _).drew, fun w7 h7 => ?_⟩
      show cps _ _ _ _ _ _
      refine cps_cond O (v := true) rfl (show cps _ (.exit 1) _ _ _ _ from cps_exit O ?_)
      refine ⟨k6, by omega, a6, ?_⟩
      repeat (apply Exists.intro)
      refine ⟨by omega, h7, ?_⟩
      walk_nrm
      rw [← hg]
end
end Go.Proofs.Ytmcffabfghhpaaa
/- Plain words: a stack's Push and Pop, in any company. No condition. -/
namespace Go.Proofs.Ytmcffabfghhpaaa
open Go.Conc Go.RowKit
section
variable {S N n : Nat} (Γ : Gated (stkJob S N n))
theorem exec_vst {j v : Nat} {a : SSt} : (SPos.vst j v).exec a = ({ a with m := a.m.set (2 * j + 1) v }, .inl (.g1 0 j .push)) := rfl
theorem exec_vld {j : Nat} {a : SSt} : (SPos.vld j).exec a = (a, .inl (.g1 1 j (.pop (a.m.getD (2 * j + 1) 0)))) := rfl
set_option maxRecDepth 100000 in
set_option maxHeartbeats 4000000 in
/-- A push. -/
theorem push_e {x : Nat} (hx : x < 18446744073709551616) {m : Γ.E.ι} {k : Nat} {a : SSt} {w : World} (h : Γ.At m k a (a, .inl (.t1 1 (.push x))) w) {Q : Γ.E.ι → Value → World → Prop}
    (hq0 : ∀ m' k' a' w', k' < k → Γ.At m' k' a' (a', .inr (.none (.push x))) w' → Q m' (.tuple #[.bool false, .int .i64 0]) w')
    (hq1 : ∀ m' k' a' w', k' < k → Γ.At m' k' a' (a', .inr (.done .push)) w' → Q m' (.tuple #[.bool true, .int .i64 0]) w') :
    cpsC Γ.E 13 #[.pointer (some ⟨S, 0, none⟩), Γ.gate, .int .u64 x] Q m w := by
  have O := Γ.ok
  have hn : n ≤ 1024 := by
    obtain ⟨u0, hu0⟩ := Γ.rep _ _ _ _ _ h
    have hu0 : SRep S N n a u0 := hu0
    exact hu0.stk.le
  refine cpsC_body O (by rw [Γ.P]; exact Try.func13) rfl ?_
  simp only [Try.ntmps13]
  refine cps_opaque fun Q' hQ => ?_
  have Hq0 := Lib.hid hq0
  have Hq1 := Lib.hid hq1
  clear hq0 hq1
  walk_nrm
  repeat refine cps_seq O ?_
  (refine cps_region O ?_; simp only [List.size_toArray, List.length_cons, List.length_nil, Nat.reduceAdd, Nat.zero_add, List.range, List.range.loop])
  refine valE O Γ.P (.bool false) rfl rfl (fun _ => by simp [go_sem]) (fun _ => by go_simp; try (first | rfl | (simp [*]))) ?_; try walk_nrm
  refine valE O Γ.P (.int .i64 0) rfl rfl (fun _ => by simp [go_sem]) (fun _ => by go_simp; try (first | rfl | (simp [*]))) ?_; try walk_nrm
  refine cpsR_nil O ?_
  show cps _ _ _ _ _ _
  repeat refine cps_seq O ?_
  refine Gated.alone_n Γ h (by kernel_rfl) fun u hu => ?_
  have hnn := none_c S _ N n (by rfl) hu.stk.pos u hu.stk.rS
  have Hu := Lib.hid hu
  clear hu
  go_wp2_with fail
  refine hnn.mono ?_
  rintro e u1 ⟨rfl, rfl⟩
  go_wp2
  refine ⟨rfl, a, Hu.out, Sm.refl _ _, fun w3 h3 => ?_⟩
  clear hnn Hu h
  show cps _ _ _ _ _ _
  refine cps_cond O (v := false) rfl ?_
  simp only [Bool.false_eq_true, if_false]
  refine cps_skip O ?_
  show cps _ _ _ _ _ _
  repeat refine cps_seq O ?_
  (refine cps_region O ?_; simp only [List.size_toArray, List.length_cons, List.length_nil, Nat.reduceAdd, Nat.zero_add, List.range, List.range.loop])
  refine valE O Γ.P (.pointer (some ⟨S, 0, none⟩)) rfl rfl (fun _ => by simp [go_sem]) (fun _ => by go_simp; try (first | rfl | (simp [*]))) ?_; try walk_nrm
  refine valE O Γ.P (Γ.gate) rfl rfl (fun _ => by simp [go_sem]) (fun _ => by go_simp; try (first | rfl | (simp [*]))) ?_; try walk_nrm
  refine callE O Γ.P (f := 44) (vals := #[.pointer (some ⟨S, 0, none⟩), Γ.gate, .int .i64 1]) rfl rfl rfl Try.func44 rfl rfl rfl ?_
  refine take_e Γ (i := 1) (by omega) h3 (fun m4 k4 a4 w4 hk4 h4 => ?_) (fun m4 k4 a4 w4 j hk4 hj h4 => ?_)
  · clear h3
    try walk_nrm
    refine valE O Γ.P (.tuple #[.int .u64 0, .bool false]) rfl rfl (fun _ => by simp [go_sem]) (fun _ => by go_simp; try (first | rfl | (simp [*]))) ?_; try walk_nrm
    refine valE O Γ.P (.int .u64 0) rfl rfl (fun _ => by simp [go_sem]) (fun _ => by go_simp; try (first | rfl | (simp [*]))) ?_; try walk_nrm
    refine valE O Γ.P (.bool false) rfl rfl (fun _ => by simp [go_sem]) (fun _ => by go_simp; try (first | rfl | (simp [*]))) ?_; try walk_nrm
    refine valE O Γ.P (.int .u64 0) rfl rfl (fun _ => by simp [go_sem]) (fun _ => by go_simp; try (first | rfl | (simp [*]))) ?_; try walk_nrm
    refine valE O Γ.P (.bool false) rfl rfl (fun _ => by simp [go_sem]) (fun _ => by go_simp; try (first | rfl | (simp [*]))) ?_; try walk_nrm
    refine cpsR_nil O ?_
    show cps _ _ _ _ _ _
    repeat refine cps_seq O ?_
    (refine cps_region O ?_; simp only [List.size_toArray, List.length_cons, List.length_nil, Nat.reduceAdd, Nat.zero_add, List.range, List.range.loop])
    refine valE O Γ.P (.bool false) rfl rfl (fun _ => by simp [go_sem]) (fun _ => by go_simp; try (first | rfl | (simp [*]))) ?_; try walk_nrm
    refine valE O Γ.P (.bool true) rfl rfl (fun _ => by simp [go_sem]) (fun _ => by go_simp; try (first | rfl | (simp [*]))) ?_; try walk_nrm
    refine cpsR_nil O ?_
    show cps _ _ _ _ _ _
    refine cps_cond O (v := true) rfl ?_
    simp only [if_true]
    repeat refine cps_seq O ?_
    (refine cps_region O ?_; simp only [List.size_toArray, List.length_cons, List.length_nil, Nat.reduceAdd, Nat.zero_add, List.range, List.range.loop])
    refine valE O Γ.P (.bool false) rfl rfl (fun _ => by simp [go_sem]) (fun _ => by go_simp; try (first | rfl | (simp [*]))) ?_; try walk_nrm
    refine valE O Γ.P (.int .i64 0) rfl rfl (fun _ => by simp [go_sem]) (fun _ => by go_simp; try (first | rfl | (simp [*]))) ?_; try walk_nrm
    refine cpsR_nil O ?_
    exact cps_ret O (hQ _ _ _ _ ⟨.inr rfl, .tuple #[.bool false, .int .i64 0], ret2E O Γ.P rfl rfl, Hq0.out _ _ _ _ hk4 h4⟩)
  · clear h3
    have h4 : Γ.At m4 k4 a4 (a4, .inl (.vst j x)) w4 := h4
    try walk_nrm
    refine valE O Γ.P (.tuple #[.int .u64 j, .bool true]) rfl rfl (fun _ => by simp [go_sem]) (fun _ => by go_simp; try (first | rfl | (simp [*]))) ?_; try walk_nrm
    refine valE O Γ.P (.int .u64 j) rfl rfl (fun _ => by simp [go_sem]) (fun _ => by go_simp; try (first | rfl | (simp [*]))) ?_; try walk_nrm
    refine valE O Γ.P (.bool true) rfl rfl (fun _ => by simp [go_sem]) (fun _ => by go_simp; try (first | rfl | (simp [*]))) ?_; try walk_nrm
    refine valE O Γ.P (.int .u64 j) rfl rfl (fun _ => by simp [go_sem]) (fun _ => by go_simp; try (first | rfl | (simp [*]))) ?_; try walk_nrm
    refine valE O Γ.P (.bool true) rfl rfl (fun _ => by simp [go_sem]) (fun _ => by go_simp; try (first | rfl | (simp [*]))) ?_; try walk_nrm
    refine cpsR_nil O ?_
    show cps _ _ _ _ _ _
    repeat refine cps_seq O ?_
    (refine cps_region O ?_; simp only [List.size_toArray, List.length_cons, List.length_nil, Nat.reduceAdd, Nat.zero_add, List.range, List.range.loop])
    refine valE O Γ.P (.bool true) rfl rfl (fun _ => by simp [go_sem]) (fun _ => by go_simp; try (first | rfl | (simp [*]))) ?_; try walk_nrm
    refine valE O Γ.P (.bool false) rfl rfl (fun _ => by simp [go_sem]) (fun _ => by go_simp; try (first | rfl | (simp [*]))) ?_; try walk_nrm
    refine cpsR_nil O ?_
    show cps _ _ _ _ _ _
    refine cps_cond O (v := false) rfl ?_
    simp only [Bool.false_eq_true, if_false]
    refine cps_skip O ?_
    show cps _ _ _ _ _ _
    repeat refine cps_seq O ?_
    (refine cps_region O ?_; simp only [List.size_toArray, List.length_cons, List.length_nil, Nat.reduceAdd, Nat.zero_add, List.range, List.range.loop])
    refine valE O Γ.P (Γ.gate) rfl rfl (fun _ => by simp [go_sem]) (fun _ => by go_simp; try (first | rfl | (simp [*]))) ?_; try walk_nrm
    refine valE O Γ.P (.int .u64 j) rfl rfl (fun _ => by simp [go_sem]) (fun _ => by go_simp; try (first | rfl | (simp [*]))) ?_; try walk_nrm
    refine callE O Γ.P (f := 46) (vals := #[.int .u64 j]) rfl rfl rfl Try.func46 rfl rfl rfl (valueWord_e O Γ.P j (by omega) ?_)
    try walk_nrm
    refine callE O Γ.P (f := 45) (vals := #[Γ.gate, .int .u8 2, .int .i64 (3 + 2 * (j : Int))]) rfl rfl rfl Try.func45 rfl rfl rfl ?_
    refine cpsC.mono (Γ.step h4) ?_
    rintro m6 v w6 ⟨rfl, k6, a6, hk6, h6⟩
    have hxx : (stkJob S N n).exec (.vst j x) a6 = ({ a6 with m := List.set (SSt.m a6) (2 * j + 1) x }, .inl (.g1 0 j .push)) := exec_vst
    rw [hxx] at h6
    clear h4 hxx
    try walk_nrm
    refine cpsR_nil O ?_
    show cps _ _ _ _ _ _
    repeat refine cps_seq O ?_
    refine Gated.alone_n Γ h6 (by kernel_rfl) fun u hu => ?_
    have hcn := hu.nodes
    have hcw2 : ∃ x, u.cell? ⟨N, j * 2 + 1, none⟩ = some x := ⟨_, by rw [Nat.mul_comm]; exact hu.word (j := 2 * j + 1) (by omega)⟩
    obtain ⟨x4, hcw2⟩ := hcw2
    have hf2 : u.frozen? ⟨N, j * 2 + 1, none⟩ = false := hu.stk.rN.free _
    have Hu := Lib.hid hu
    clear hu
    have hjn2 : decide (j < n) = true := by simpa using hj
    go_wp2_with fail
    refine (astore _ _ _ _ hcw2 hf2).mono ?_
    rintro e u1 ⟨rfl, rfl⟩
    go_wp2
    refine ⟨rfl, { a6 with m := List.set (SSt.m a6) (2 * j + 1) x }, ?_, (Sm.refl _ _).setCell (.inr rfl) _, fun w7 h7 => ?_⟩
    · have := Hu.out.setWord (x := 2 * j + 1) (v := x) (by omega) hx (by omega)
      rw [Nat.mul_comm 2 j] at this ⊢
      exact this
    clear hcn hcw2 h6 hf2 Hu
    show cps _ _ _ _ _ _
    repeat refine cps_seq O ?_
    (refine cps_region O ?_; simp only [List.size_toArray, List.length_cons, List.length_nil, Nat.reduceAdd, Nat.zero_add, List.range, List.range.loop])
    refine valE O Γ.P (.pointer (some ⟨S, 0, none⟩)) rfl rfl (fun _ => by simp [go_sem]) (fun _ => by go_simp; try (first | rfl | (simp [*]))) ?_; try walk_nrm
    refine valE O Γ.P (Γ.gate) rfl rfl (fun _ => by simp [go_sem]) (fun _ => by go_simp; try (first | rfl | (simp [*]))) ?_; try walk_nrm
    refine valE O Γ.P (.int .u64 j) rfl rfl (fun _ => by simp [go_sem]) (fun _ => by go_simp; try (first | rfl | (simp [*]))) ?_; try walk_nrm
    refine callE O Γ.P (f := 47) (vals := #[.pointer (some ⟨S, 0, none⟩), Γ.gate, .int .i64 0, .int .u64 j]) rfl rfl rfl Try.func47 rfl rfl rfl ?_
    refine give_e Γ (i := 0) (by omega) hj h7 (fun m8 k8 a8 w8 hk8 h8 => ?_)
    clear h7
    try walk_nrm
    refine cpsR_nil O ?_
    show cps _ _ _ _ _ _
    repeat refine cps_seq O ?_
    (refine cps_region O ?_; simp only [List.size_toArray, List.length_cons, List.length_nil, Nat.reduceAdd, Nat.zero_add, List.range, List.range.loop])
    refine valE O Γ.P (.bool true) rfl rfl (fun _ => by simp [go_sem]) (fun _ => by go_simp; try (first | rfl | (simp [*]))) ?_; try walk_nrm
    refine valE O Γ.P (.int .i64 0) rfl rfl (fun _ => by simp [go_sem]) (fun _ => by go_simp; try (first | rfl | (simp [*]))) ?_; try walk_nrm
    refine cpsR_nil O ?_
    exact cps_ret O (hQ _ _ _ _ ⟨.inr rfl, .tuple #[.bool true, .int .i64 0], ret2E O Γ.P rfl rfl, Hq1.out _ _ _ _ (by omega) h8⟩)
set_option maxRecDepth 100000 in
set_option maxHeartbeats 4000000 in
/-- A pop. -/
theorem pop_e {m : Γ.E.ι} {k : Nat} {a : SSt} {w : World} (h : Γ.At m k a (a, .inl (.t1 0 .pop)) w) {Q : Γ.E.ι → Value → World → Prop}
    (hq0 : ∀ m' k' a' w', k' < k → Γ.At m' k' a' (a', .inr (.none .pop)) w' → Q m' (.tuple #[.int .u64 0, .bool false, .int .i64 0]) w')
    (hq1 : ∀ m' k' a' w' (x : Nat), k' < k → x < 18446744073709551616 → Γ.At m' k' a' (a', .inr (.done (.pop x))) w' → Q m' (.tuple #[.int .u64 x, .bool true, .int .i64 0]) w') :
    cpsC Γ.E 14 #[.pointer (some ⟨S, 0, none⟩), Γ.gate] Q m w := by
  have O := Γ.ok
  have hn : n ≤ 1024 := by
    obtain ⟨u0, hu0⟩ := Γ.rep _ _ _ _ _ h
    have hu0 : SRep S N n a u0 := hu0
    exact hu0.stk.le
  refine cpsC_body O (by rw [Γ.P]; exact Try.func14) rfl ?_
  simp only [Try.ntmps14]
  refine cps_opaque fun Q' hQ => ?_
  have Hq0 := Lib.hid hq0
  have Hq1 := Lib.hid hq1
  clear hq0 hq1
  walk_nrm
  repeat refine cps_seq O ?_
  (refine cps_region O ?_; simp only [List.size_toArray, List.length_cons, List.length_nil, Nat.reduceAdd, Nat.zero_add, List.range, List.range.loop])
  refine valE O Γ.P (.int .u64 0) rfl rfl (fun _ => by simp [go_sem]) (fun _ => by go_simp; try (first | rfl | (simp [*]))) ?_; try walk_nrm
  refine valE O Γ.P (.bool false) rfl rfl (fun _ => by simp [go_sem]) (fun _ => by go_simp; try (first | rfl | (simp [*]))) ?_; try walk_nrm
  refine valE O Γ.P (.int .i64 0) rfl rfl (fun _ => by simp [go_sem]) (fun _ => by go_simp; try (first | rfl | (simp [*]))) ?_; try walk_nrm
  refine cpsR_nil O ?_
  show cps _ _ _ _ _ _
  repeat refine cps_seq O ?_
  refine Gated.alone_n Γ h (by kernel_rfl) fun u hu => ?_
  have hnn := none_c S _ N n (by rfl) hu.stk.pos u hu.stk.rS
  have Hu := Lib.hid hu
  clear hu
  go_wp2_with fail
  refine hnn.mono ?_
  rintro e u1 ⟨rfl, rfl⟩
  go_wp2
  refine ⟨rfl, a, Hu.out, Sm.refl _ _, fun w3 h3 => ?_⟩
  clear hnn Hu h
  show cps _ _ _ _ _ _
  refine cps_cond O (v := false) rfl ?_
  simp only [Bool.false_eq_true, if_false]
  refine cps_skip O ?_
  show cps _ _ _ _ _ _
  repeat refine cps_seq O ?_
  (refine cps_region O ?_; simp only [List.size_toArray, List.length_cons, List.length_nil, Nat.reduceAdd, Nat.zero_add, List.range, List.range.loop])
  refine valE O Γ.P (.pointer (some ⟨S, 0, none⟩)) rfl rfl (fun _ => by simp [go_sem]) (fun _ => by go_simp; try (first | rfl | (simp [*]))) ?_; try walk_nrm
  refine valE O Γ.P (Γ.gate) rfl rfl (fun _ => by simp [go_sem]) (fun _ => by go_simp; try (first | rfl | (simp [*]))) ?_; try walk_nrm
  refine callE O Γ.P (f := 44) (vals := #[.pointer (some ⟨S, 0, none⟩), Γ.gate, .int .i64 0]) rfl rfl rfl Try.func44 rfl rfl rfl ?_
  refine take_e Γ (i := 0) (by omega) h3 (fun m4 k4 a4 w4 hk4 h4 => ?_) (fun m4 k4 a4 w4 j hk4 hj h4 => ?_)
  · clear h3
    try walk_nrm
    refine valE O Γ.P (.tuple #[.int .u64 0, .bool false]) rfl rfl (fun _ => by simp [go_sem]) (fun _ => by go_simp; try (first | rfl | (simp [*]))) ?_; try walk_nrm
    refine valE O Γ.P (.int .u64 0) rfl rfl (fun _ => by simp [go_sem]) (fun _ => by go_simp; try (first | rfl | (simp [*]))) ?_; try walk_nrm
    refine valE O Γ.P (.bool false) rfl rfl (fun _ => by simp [go_sem]) (fun _ => by go_simp; try (first | rfl | (simp [*]))) ?_; try walk_nrm
    refine valE O Γ.P (.int .u64 0) rfl rfl (fun _ => by simp [go_sem]) (fun _ => by go_simp; try (first | rfl | (simp [*]))) ?_; try walk_nrm
    refine valE O Γ.P (.bool false) rfl rfl (fun _ => by simp [go_sem]) (fun _ => by go_simp; try (first | rfl | (simp [*]))) ?_; try walk_nrm
    refine cpsR_nil O ?_
    show cps _ _ _ _ _ _
    repeat refine cps_seq O ?_
    (refine cps_region O ?_; simp only [List.size_toArray, List.length_cons, List.length_nil, Nat.reduceAdd, Nat.zero_add, List.range, List.range.loop])
    refine valE O Γ.P (.bool false) rfl rfl (fun _ => by simp [go_sem]) (fun _ => by go_simp; try (first | rfl | (simp [*]))) ?_; try walk_nrm
    refine valE O Γ.P (.bool true) rfl rfl (fun _ => by simp [go_sem]) (fun _ => by go_simp; try (first | rfl | (simp [*]))) ?_; try walk_nrm
    refine cpsR_nil O ?_
    show cps _ _ _ _ _ _
    refine cps_cond O (v := true) rfl ?_
    simp only [if_true]
    repeat refine cps_seq O ?_
    (refine cps_region O ?_; simp only [List.size_toArray, List.length_cons, List.length_nil, Nat.reduceAdd, Nat.zero_add, List.range, List.range.loop])
    refine valE O Γ.P (.int .u64 0) rfl rfl (fun _ => by simp [go_sem]) (fun _ => by go_simp; try (first | rfl | (simp [*]))) ?_; try walk_nrm
    refine valE O Γ.P (.bool false) rfl rfl (fun _ => by simp [go_sem]) (fun _ => by go_simp; try (first | rfl | (simp [*]))) ?_; try walk_nrm
    refine valE O Γ.P (.int .i64 0) rfl rfl (fun _ => by simp [go_sem]) (fun _ => by go_simp; try (first | rfl | (simp [*]))) ?_; try walk_nrm
    refine cpsR_nil O ?_
    exact cps_ret O (hQ _ _ _ _ ⟨.inr rfl, .tuple #[.int .u64 0, .bool false, .int .i64 0], ret3E O Γ.P rfl rfl, Hq0.out _ _ _ _ hk4 h4⟩)
  · clear h3
    have h4 : Γ.At m4 k4 a4 (a4, .inl (.vld j)) w4 := h4
    try walk_nrm
    refine valE O Γ.P (.tuple #[.int .u64 j, .bool true]) rfl rfl (fun _ => by simp [go_sem]) (fun _ => by go_simp; try (first | rfl | (simp [*]))) ?_; try walk_nrm
    refine valE O Γ.P (.int .u64 j) rfl rfl (fun _ => by simp [go_sem]) (fun _ => by go_simp; try (first | rfl | (simp [*]))) ?_; try walk_nrm
    refine valE O Γ.P (.bool true) rfl rfl (fun _ => by simp [go_sem]) (fun _ => by go_simp; try (first | rfl | (simp [*]))) ?_; try walk_nrm
    refine valE O Γ.P (.int .u64 j) rfl rfl (fun _ => by simp [go_sem]) (fun _ => by go_simp; try (first | rfl | (simp [*]))) ?_; try walk_nrm
    refine valE O Γ.P (.bool true) rfl rfl (fun _ => by simp [go_sem]) (fun _ => by go_simp; try (first | rfl | (simp [*]))) ?_; try walk_nrm
    refine cpsR_nil O ?_
    show cps _ _ _ _ _ _
    repeat refine cps_seq O ?_
    (refine cps_region O ?_; simp only [List.size_toArray, List.length_cons, List.length_nil, Nat.reduceAdd, Nat.zero_add, List.range, List.range.loop])
    refine valE O Γ.P (.bool true) rfl rfl (fun _ => by simp [go_sem]) (fun _ => by go_simp; try (first | rfl | (simp [*]))) ?_; try walk_nrm
    refine valE O Γ.P (.bool false) rfl rfl (fun _ => by simp [go_sem]) (fun _ => by go_simp; try (first | rfl | (simp [*]))) ?_; try walk_nrm
    refine cpsR_nil O ?_
    show cps _ _ _ _ _ _
    refine cps_cond O (v := false) rfl ?_
    simp only [Bool.false_eq_true, if_false]
    refine cps_skip O ?_
    show cps _ _ _ _ _ _
    repeat refine cps_seq O ?_
    (refine cps_region O ?_; simp only [List.size_toArray, List.length_cons, List.length_nil, Nat.reduceAdd, Nat.zero_add, List.range, List.range.loop])
    refine valE O Γ.P (Γ.gate) rfl rfl (fun _ => by simp [go_sem]) (fun _ => by go_simp; try (first | rfl | (simp [*]))) ?_; try walk_nrm
    refine valE O Γ.P (.int .u64 j) rfl rfl (fun _ => by simp [go_sem]) (fun _ => by go_simp; try (first | rfl | (simp [*]))) ?_; try walk_nrm
    refine callE O Γ.P (f := 46) (vals := #[.int .u64 j]) rfl rfl rfl Try.func46 rfl rfl rfl (valueWord_e O Γ.P j (by omega) ?_)
    try walk_nrm
    refine callE O Γ.P (f := 45) (vals := #[Γ.gate, .int .u8 1, .int .i64 (3 + 2 * (j : Int))]) rfl rfl rfl Try.func45 rfl rfl rfl ?_
    refine cpsC.mono (Γ.step h4) ?_
    rintro m6 v w6 ⟨rfl, k6, a6, hk6, h6⟩
    have hxx : (stkJob S N n).exec (.vld j) a6 = (a6, .inl (.g1 1 j (.pop (List.getD (SSt.m a6) (2 * j + 1) 0)))) := exec_vld
    rw [hxx] at h6
    clear h4 hxx
    obtain ⟨x, hx0⟩ : ∃ x, x = List.getD (SSt.m a6) (2 * j + 1) 0 := ⟨_, rfl⟩
    rw [← hx0] at h6
    have hx : x < 18446744073709551616 := by
      obtain ⟨u0, hu0⟩ := Γ.rep _ _ _ _ _ h6
      have hu0 : SRep S N n a6 u0 := hu0
      have hl : 2 * j + 1 < List.length (SSt.m a6) := by have := hu0.stk.len; omega
      have := hu0.bv j hl
      rw [hx0, List.getD_eq_getElem?_getD, List.getElem?_eq_getElem hl]
      exact this
    try walk_nrm
    refine cpsR_nil O ?_
    show cps _ _ _ _ _ _
    repeat refine cps_seq O ?_
    refine Gated.alone_n Γ h6 (by kernel_rfl) fun u hu => ?_
    have hcn := hu.nodes
    have hcw2 : u.cell? ⟨N, j * 2 + 1, none⟩ = some (.int .u64 (x : Int)) := by rw [Nat.mul_comm, hx0]; exact hu.word (j := 2 * j + 1) (by omega)
    have Hu := Lib.hid hu
    clear hu hx0
    have hjn2 : decide (j < n) = true := by simpa using hj
    go_wp2_with fail
    refine (aload _ _ _ hcw2).mono ?_
    rintro e u1 ⟨rfl, rfl⟩
    go_wp2
    refine ⟨rfl, a6, Hu.out, Sm.refl _ _, fun w7 h7 => ?_⟩
    clear hcn hcw2 h6 Hu
    show cps _ _ _ _ _ _
    repeat refine cps_seq O ?_
    (refine cps_region O ?_; simp only [List.size_toArray, List.length_cons, List.length_nil, Nat.reduceAdd, Nat.zero_add, List.range, List.range.loop])
    refine valE O Γ.P (.pointer (some ⟨S, 0, none⟩)) rfl rfl (fun _ => by simp [go_sem]) (fun _ => by go_simp; try (first | rfl | (simp [*]))) ?_; try walk_nrm
    refine valE O Γ.P (Γ.gate) rfl rfl (fun _ => by simp [go_sem]) (fun _ => by go_simp; try (first | rfl | (simp [*]))) ?_; try walk_nrm
    refine valE O Γ.P (.int .u64 j) rfl rfl (fun _ => by simp [go_sem]) (fun _ => by go_simp; try (first | rfl | (simp [*]))) ?_; try walk_nrm
    refine callE O Γ.P (f := 47) (vals := #[.pointer (some ⟨S, 0, none⟩), Γ.gate, .int .i64 1, .int .u64 j]) rfl rfl rfl Try.func47 rfl rfl rfl ?_
    refine give_e Γ (i := 1) (by omega) hj h7 (fun m8 k8 a8 w8 hk8 h8 => ?_)
    clear h7
    try walk_nrm
    refine cpsR_nil O ?_
    show cps _ _ _ _ _ _
    repeat refine cps_seq O ?_
    (refine cps_region O ?_; simp only [List.size_toArray, List.length_cons, List.length_nil, Nat.reduceAdd, Nat.zero_add, List.range, List.range.loop])
    refine valE O Γ.P (.int .u64 x) rfl rfl (fun _ => by simp [go_sem]) (fun _ => by go_simp; try (first | rfl | (simp [*]))) ?_; try walk_nrm
    refine valE O Γ.P (.int .u64 x) rfl rfl (fun _ => by simp [go_sem]) (fun _ => by go_simp; try (first | rfl | (simp [*]))) ?_; try walk_nrm
    refine valE O Γ.P (.bool true) rfl rfl (fun _ => by simp [go_sem]) (fun _ => by go_simp; try (first | rfl | (simp [*]))) ?_; try walk_nrm
    refine valE O Γ.P (.int .i64 0) rfl rfl (fun _ => by simp [go_sem]) (fun _ => by go_simp; try (first | rfl | (simp [*]))) ?_; try walk_nrm
    refine cpsR_nil O ?_
    exact cps_ret O (hQ _ _ _ _ ⟨.inr rfl, .tuple #[.int .u64 x, .bool true, .int .i64 0], ret3E O Γ.P rfl rfl, Hq1.out _ _ _ _ x (by omega) hx h8⟩)
end
end Go.Proofs.Ytmcffabfghhpaaa
/- Plain words: Push and Pop, called by a thread. No condition. -/
namespace Go.Proofs.Ytmcffabfghhpaaa
open Go.Conc Go.RowKit
/-- An answer as numbers. -/
def SRes.num : SRes → Nat
  | .done (.pop x) => x
  | _ => 0
def SRes.ok : SRes → Bool
  | .done _ => true
  | _ => false
section
variable {S N sz : Nat} {K : Client (stkJob S N sz)} {Wg ti : Nat} {s : SV} {n : TIx K} {a : SSt} {b : K.All} {w : World}
theorem pop_t {c : K.C} (hc : K.tid c = ti) (h : TK K Wg s ti n a b ((a, b.1), some (SPos.t1 0 .pop, c)) w) {Q : TIx K → Value → World → Prop}
    (hq : ∀ (n' : TIx K) (a' : SSt) (b' : K.All) (r : SRes) (w' : World), (r = .none .pop ∨ ∃ x, r = .done (.pop x)) → r.num < 18446744073709551616 → b'.2 ti = b.2 ti → TK K Wg s ti n' a' b' (K.fin c r (a', b'.1)) w' → Q n' (.tuple #[.int .u64 r.num, .bool r.ok, .int .i64 0]) w') :
    cpsC (envT K.core.spec Wg (WgL Wg) s) 14 #[.pointer (some ⟨S, 0, none⟩), seatGate s] Q n w :=
  pop_e (gatedT K Wg s c (b.2 ti)) (h.call hc) (fun m' k' a' w' _ h' => by
    obtain ⟨b', hp, h''⟩ := AtT.answer h' hc
    exact hq m' a' b' (.none .pop) w' (.inl rfl) (by decide) hp h'') (fun m' k' a' w' x _ hx h' => by
    obtain ⟨b', hp, h''⟩ := AtT.answer h' hc
    exact hq m' a' b' (.done (.pop x)) w' (.inr ⟨x, rfl⟩) hx hp h'')
theorem push_t {c : K.C} (hc : K.tid c = ti) {v : Nat} (hv : v < 18446744073709551616) (h : TK K Wg s ti n a b ((a, b.1), some (SPos.t1 1 (.push v), c)) w) {Q : TIx K → Value → World → Prop}
    (hq : ∀ (n' : TIx K) (a' : SSt) (b' : K.All) (r : SRes) (w' : World), (r = .none (.push v) ∨ r = .done .push) → b'.2 ti = b.2 ti → TK K Wg s ti n' a' b' (K.fin c r (a', b'.1)) w' → Q n' (.tuple #[.bool r.ok, .int .i64 0]) w') :
    cpsC (envT K.core.spec Wg (WgL Wg) s) 13 #[.pointer (some ⟨S, 0, none⟩), seatGate s, .int .u64 v] Q n w :=
  push_e (gatedT K Wg s c (b.2 ti)) hv (h.call hc) (fun m' k' a' w' _ h' => by
    obtain ⟨b', hp, h''⟩ := AtT.answer h' hc
    exact hq m' a' b' (.none (.push v)) w' (.inl rfl) hp h'') (fun m' k' a' w' _ h' => by
    obtain ⟨b', hp, h''⟩ := AtT.answer h' hc
    exact hq m' a' b' (.done .push) w' (.inr rfl) hp h'')
end
end Go.Proofs.Ytmcffabfghhpaaa
/- Plain words: a thread that pushes and pops as a list says, and writes down what. No condition. -/
namespace Go.Proofs.Ytmcffabfghhpaaa
open Go.Conc Go.RowKit
abbrev tBook : TypeId := 44
def u64s (L : List Nat) : List Value := L.map fun (x : Nat) => Value.int .u64 (x : Int)
/-- The number that thread k pushes with its call i. -/
def bnum (k i : Nat) : Nat := k * 1000 + i + 1
/-- Thread k's call i. -/
def bookNext (l : Nat → List Bool) (k i : Nat) : Option (SPos × Nat) := match (l k)[i]? with
  | some true => some (.t1 1 (.push (bnum k i)), i)
  | some false => some (.t1 0 .pop, i)
  | none => none
/-- Behind an answer. -/
def bookUpd (k i : Nat) (r : SRes) (p : List Nat × List Nat) : List Nat × List Nat := match r with
  | .done .push => (p.1 ++ [bnum k i], p.2)
  | .done (.pop x) => (p.1, p.2 ++ [x])
  | .none _ => p
/-- A thread's book in memory. -/
structure BRep (b : Nat) (p : (List Nat × List Nat) × (Value × Value × Nat)) (u : World) : Prop where
  row : Row u b #[p.2.1, p.2.2.1, .bool false] tBook
  q1 : u.ownsRow (b + 1) 30 1 p.2.1 p.1.1.length (u64s p.1.1)
  q2 : u.ownsRow (b + 1) 30 1 p.2.2.1 p.1.2.length (u64s p.1.2)
  n1 : p.1.1 = [] → p.2.1 = .slice none 0 0
  n2 : p.1.2 = [] → p.2.2.1 = .slice none 0 0
  few : p.1.1.length + p.1.2.length ≤ p.2.2.2
  ne : ∀ x, p.2.1.ownBlock = some x → p.2.2.1.ownBlock ≠ some x
def bookFoot (b : Nat) (p : (List Nat × List Nat) × (Value × Value × Nat)) (x : Nat) : Prop := x = b ∨ p.2.1.ownBlock = some x ∨ p.2.2.1.ownBlock = some x
theorem own_lo {u : World} {B e z : Nat} {v : Value} {n : Nat} {xs : List Value} (h : u.ownsRow B e z v n xs) {x : Nat} (hx : v.ownBlock = some x) : B ≤ x ∧ x < u.heap.size := by
  obtain ⟨h1, h2⟩ := h
  rcases h2 with ⟨rfl, _⟩ | ⟨g, cap, cur, rfl, hg, hh, _⟩
  · simp [Value.ownBlock] at hx
  · simp only [Value.ownBlock, Option.some.injEq] at hx
    subst hx
    exact ⟨hg, (Array.getElem?_eq_some_iff.1 hh).1⟩
theorem own_real {u : World} {B e : Nat} {v : Value} {xs : List Nat} (h : u.ownsRow B e 1 v xs.length (u64s xs)) (hn : xs = [] → v = .slice none 0 0) {x : Nat} (hx : v.ownBlock = some x) : ∃ o, u.heap[x]? = some o ∧ RealO o := by
  obtain ⟨h1, h2⟩ := h
  rcases h2 with ⟨rfl, _⟩ | ⟨g, cap, cur, rfl, hg, hh, hc, _, hs, _⟩
  · simp [Value.ownBlock] at hx
  · simp only [Value.ownBlock, Option.some.injEq] at hx
    subst hx
    refine ⟨_, hh, fun _ _ _ _ _ _ e => (by cases e), fun T e => ?_⟩
    have e := (Obj.cells.inj e).1
    subst e
    have : xs.length = 0 := by simp at hs; omega
    have := hn (List.length_eq_zero_iff.1 this)
    cases this
theorem BRep.frame {b : Nat} {p : (List Nat × List Nat) × (Value × Value × Nat)} {u u' : World} (h : ∀ x, bookFoot b p x → u'.heap[x]? = u.heap[x]?) (hr : BRep b p u) : BRep b p u' :=
  { hr with row := hr.row.of_heap (h _ (.inl rfl)), q1 := ownsRow_of hr.q1 fun x hx => h x (.inr (.inl hx)), q2 := ownsRow_of hr.q2 fun x hx => h x (.inr (.inr hx)) }
theorem heap_set_ne {u : World} {a : Addr} {v : Value} {x : Nat} (h : x ≠ a.block) : (u.setCell a v).heap[x]? = u.heap[x]? := Below.heap_setCell _ _ _ _ h
theorem BRep.bad {b : Nat} {p : (List Nat × List Nat) × (Value × Value × Nat)} {u : World} (h : BRep b p u) : BRep b p (u.setCell ⟨b, 2, none⟩ (.bool false)) :=
  have ne : ∀ {v : Value} {n : Nat} {xs : List Value}, u.ownsRow (b + 1) 30 1 v n xs → ∀ x, v.ownBlock = some x → x ≠ b := fun hq x hx => by have := (own_lo hq hx).1; omega
  { h with row := h.row.set 2 (.bool false), q1 := ownsRow_of h.q1 fun x hx => heap_set_ne (ne h.q1 x hx), q2 := ownsRow_of h.q2 fun x hx => heap_set_ne (ne h.q2 x hx) }
theorem u64s_snoc (L : List Nat) (x : Nat) : u64s (L ++ [x]) = u64s L ++ [.int .u64 (x : Int)] := by simp [u64s]
/-- One more is pushed. -/
theorem BRep.push {b : Nat} {L M : List Nat} {v1 v2 v' : Value} {c x : Nat} {u u' : World} (h : BRep b ((L, M), (v1, v2, c)) u) (hg : u.grownBy u' v1.ownBlock) (ho : u'.ownsRow (b + 1) 30 1 v' (L.length + 1) (u64s L ++ [.int .u64 (x : Int)])) (hat : v'.ownBlock = v1.ownBlock ∨ ∃ y, v'.ownBlock = some y ∧ u.heap.size ≤ y) :
    BRep b ((L ++ [x], M), (v', v2, c + 1)) (u'.setCell ⟨b, 0, none⟩ v') := by
  have nb : ∀ y, v1.ownBlock = some y → y ≠ b := fun y hy => by have := (own_lo h.q1 hy).1; omega
  have nb2 : ∀ y, v2.ownBlock = some y → y ≠ b := fun y hy => by have := (own_lo h.q2 hy).1; omega
  have nb' : ∀ y, v'.ownBlock = some y → y ≠ b := fun y hy => by have := (own_lo ho hy).1; omega
  have lt2 : ∀ y, v2.ownBlock = some y → y < u.heap.size := fun y hy => (own_lo h.q2 hy).2
  have row' : Row u' b #[v1, v2, .bool false] tBook := h.row.of_heap (hg.block b h.row.lt fun e => nb b e.symm rfl)
  refine ⟨row'.set 0 v', ?_, ?_, fun e => by simp at e, h.n2, ?_, fun y hy hy2 => ?_⟩
  · rw [u64s_snoc, List.length_append]
    exact ownsRow_of ho fun y hy => heap_set_ne (nb' y hy)
  · exact ownsRow_of (ownsRow_of h.q2 fun y hy => hg.block y (lt2 y hy) fun e => h.ne y e.symm hy) fun y hy => heap_set_ne (nb2 y hy)
  · have := h.few
    simp only [List.length_append, List.length_cons, List.length_nil] at this ⊢
    omega
  · have hy : v'.ownBlock = some y := hy
    have hy2 : v2.ownBlock = some y := hy2
    rcases hat with e | ⟨z, e, hz⟩
    · exact h.ne y (e ▸ hy) hy2
    · rw [e] at hy
      obtain rfl := Option.some.inj hy
      have := lt2 z hy2; omega
/-- One more is popped. -/
theorem BRep.pop {b : Nat} {L M : List Nat} {v1 v2 v' : Value} {c x : Nat} {u u' : World} (h : BRep b ((L, M), (v1, v2, c)) u) (hg : u.grownBy u' v2.ownBlock) (ho : u'.ownsRow (b + 1) 30 1 v' (M.length + 1) (u64s M ++ [.int .u64 (x : Int)])) (hat : v'.ownBlock = v2.ownBlock ∨ ∃ y, v'.ownBlock = some y ∧ u.heap.size ≤ y) :
    BRep b ((L, M ++ [x]), (v1, v', c + 1)) (u'.setCell ⟨b, 1, none⟩ v') := by
  have nb : ∀ y, v1.ownBlock = some y → y ≠ b := fun y hy => by have := (own_lo h.q1 hy).1; omega
  have nb2 : ∀ y, v2.ownBlock = some y → y ≠ b := fun y hy => by have := (own_lo h.q2 hy).1; omega
  have nb' : ∀ y, v'.ownBlock = some y → y ≠ b := fun y hy => by have := (own_lo ho hy).1; omega
  have lt1 : ∀ y, v1.ownBlock = some y → y < u.heap.size := fun y hy => (own_lo h.q1 hy).2
  have row' : Row u' b #[v1, v2, .bool false] tBook := h.row.of_heap (hg.block b h.row.lt fun e => nb2 b e.symm rfl)
  refine ⟨row'.set 1 v', ?_, ?_, h.n1, fun e => by simp at e, ?_, fun y hy hy2 => ?_⟩
  · exact ownsRow_of (ownsRow_of h.q1 fun y hy => hg.block y (lt1 y hy) fun e => h.ne y hy e.symm) fun y hy => heap_set_ne (nb y hy)
  · rw [u64s_snoc, List.length_append]
    exact ownsRow_of ho fun y hy => heap_set_ne (nb' y hy)
  · have := h.few
    simp only [List.length_append, List.length_cons, List.length_nil] at this ⊢
    omega
  · have hy : v1.ownBlock = some y := hy
    have hy2 : v'.ownBlock = some y := hy2
    rcases hat with e | ⟨z, e, hz⟩
    · exact h.ne y hy (e ▸ hy2)
    · rw [e] at hy2
      obtain rfl := Option.some.inj hy2
      have := lt1 z hy; omega
theorem grown_alloc {u u' : World} {o : Obj} {r : Option Nat} (h : (u.alloc o).grownBy u' r) : u.grownBy u' r :=
  ⟨h.os, h.tape, h.output, Nat.le_trans (by simp) h.size, fun i hi hne => (h.block i (by simp; omega) hne).trans ((alloc_old u o).1 i hi)⟩
theorem row_grown {u u' : World} {b : Nat} {c : Array Value} {T : TypeId} {r : Option Nat} (h : Row u b c T) (hg : u.grownBy u' r) (hne : ∀ y, r = some y → y ≠ b) : Row u' b c T := h.of_heap (hg.block b h.lt fun e => hne b e.symm rfl)
/-- A thread's part: what it pushed, what it popped. -/
def bookP (bk : Nat → Nat) (l : Nat → List Bool) (S N sz : Nat) : Part (stkJob S N sz) where
  PB := List Nat × List Nat
  Pg := Value × Value × Nat
  C := Nat
  upd := bookUpd
  nxt := fun k i _ => bookNext l k (i + 1)
  foot := fun k p => bookFoot (bk k) p
  Rep := fun k p u => BRep (bk k) p u
  frame := fun k p u u' h hr => hr.frame h
  real := fun k p u x hr hx => by
    rcases hx with rfl | hx | hx
    · exact ⟨_, hr.row, fun _ _ _ _ _ _ e => (by cases e), fun T e => (by have := congrArg (fun o => match o with | Obj.cells c _ _ => c.size | _ => 0) e; simp at this)⟩
    · exact own_real hr.q1 hr.n1 hx
    · exact own_real hr.q2 hr.n2 hx
abbrev bK (B : Nat) (bk : Nat → Nat) (l : Nat → List Bool) (S N sz m : Nat) (old : Old) : Client (stkJob S N sz) := (bookP bk l S N sz).client B m old
/-- Where thread k goes. -/
def bookF (l : Nat → List Bool) (k i : Nat) : Option (SPos × (Nat × Nat)) := (bookNext l k i).map fun p => (p.1, (k, p.2))
theorem info_u64 : (Try.prog.info? 30).map (fun i => (i.zero, i.size, i.bytes)) = some (some (.int .u64 0), 1, 8) := by kernel_rfl
theorem wrap_u64 (x : Int) (h0 : 0 ≤ x) (h1 : x < 18446744073709551616) : IntKind.u64.wrap x = x := by
  show x % 18446744073709551616 = x
  exact Int.emod_eq_of_lt h0 h1
section
variable {B : Nat} {bk : Nat → Nat} {l : Nat → List Bool} {S N sz m : Nat} {old : Old} {Wg k : Nat} {s : SV} {n : TIx (bK B bk l S N sz m old)} {a : SSt} {b : Nat → List Nat × List Nat} {γ : Nat → Value × Value × Nat} {w : World} {ea : Option Addr} {ec : Nat}
/-- The frame ahead of a round's end. -/
abbrev wfr (bk : Nat → Nat) (l : Nat → List Bool) (S : Nat) (s : SV) (k : Nat) (ea : Option Addr) (ec : Nat) (i : Value) (f : Nat → Value) : Array Value := #[.pointer (some ⟨bk k, 0, none⟩), .pointer (some ⟨S, 0, none⟩), seatGate s, .int .u64 k, .slice ea (l k).length ec, f 5, f 6, f 7, f 8, f 9, i, f 11, f 12, f 13, f 14, f 15, f 16, f 17, f 18, f 19, f 20, f 21, f 22, f 23, f 24, f 25, f 26, f 27, f 28, f 29, f 30, f 31, f 32, f 33, f 34, f 35, f 36, f 37, f 38, f 39, f 40, f 41, f 42, f 43, f 44, f 45, f 46, f 47, f 48, f 49, f 50, f 51, f 52, f 53, f 54, f 55, f 56, f 57, f 58, f 59, f 60, f 61, f 62, f 63, f 64, f 65, f 66, f 67, f 68, f 69, f 70, f 71, f 72, f 73, f 74, f 75, f 76, f 77, f 78, f 79, f 80, f 81, f 82, f 83, f 84, f 85, f 86, f 87, f 88, f 89, f 90, f 91, f 92, f 93, f 94, f 95, f 96, f 97, f 98]
set_option maxRecDepth 100000 in
set_option maxHeartbeats 8000000 in
theorem works_t (hk : k < m) (h4 : k < 4) (hl : (l k).length ≤ 100) (hold : ∀ i (h : i < (l k).length), ∃ eb eo, ea = some ⟨eb, eo, none⟩ ∧ old.cell ⟨eb, eo + i, none⟩ (.bool (l k)[i]))
    (h : TK (bK B bk l S N sz m old) Wg s k n a (b, γ) ((a, b), bookF l k 0) w) (hc0 : (γ k).2.2 = 0) {Q : TIx (bK B bk l S N sz m old) → Value → World → Prop}
    (hq : ∀ n' a' b' γ' w', TK (bK B bk l S N sz m old) Wg s k n' a' (b', γ') ((a', b'), none) w' → Q n' (.tuple #[]) w') :
    cpsC (envT (bK B bk l S N sz m old).core.spec Wg (WgL Wg) s) 18 #[.pointer (some ⟨bk k, 0, none⟩), .pointer (some ⟨S, 0, none⟩), seatGate s, .int .u64 k, .slice ea (l k).length ec] Q n w := by
  have O := envT_ok (bK B bk l S N sz m old).core.spec Wg (WgL Wg) s
  refine cpsC_body O Try.func18 rfl ?_
  simp only [Try.ntmps18]
  refine cps_opaque fun Q' hQ => ?_
  walk_nrm
  repeat refine cps_seq O ?_
  (refine cps_region O ?_; simp only [List.size_toArray, List.length_cons, List.length_nil, Nat.reduceAdd, Nat.zero_add, List.range, List.range.loop])
  refine valE O rfl (.int .i64 0) rfl rfl (fun _ => by simp [go_sem]) (fun _ => by go_simp; try (first | rfl | (simp [*]))) ?_; try walk_nrm
  refine cpsR_nil O ?_
  show cps _ _ _ _ _ _
  refine cps_block O ?_
  refine cps_loopm O (fun m' n' t w' => ∃ (i : Nat) (a' : SSt) (b' : Nat → List Nat × List Nat) (γ' : Nat → Value × Value × Nat), m' + i = (l k).length ∧ (γ' k).2.2 ≤ i ∧ TK (bK B bk l S N sz m old) Wg s k n' a' (b', γ') ((a', b'), bookF l k i) w' ∧ ∃ f : Nat → Value, t = wfr bk l S s k ea ec (.int .i64 i) f) ?_ (m := (l k).length) ⟨0, a, b, γ, by omega, by omega, h, ex_fun rfl⟩
  clear h
  rintro m' n' t w' ⟨i, a', b', γ', hmi, hci, h, f, rfl⟩
  repeat refine cps_seq O ?_
  (refine cps_region O ?_; simp only [List.size_toArray, List.length_cons, List.length_nil, Nat.reduceAdd, Nat.zero_add, List.range, List.range.loop])
  refine valE O rfl (.int .i64 i) rfl rfl (fun _ => by simp [go_sem]) (fun _ => by go_simp; try (first | rfl | (simp [*]))) ?_; try walk_nrm
  refine valE O rfl (.slice ea (l k).length ec) rfl rfl (fun _ => by simp [go_sem]) (fun _ => by go_simp; try (first | rfl | (simp [*]))) ?_; try walk_nrm
  refine valE O rfl (.int .i64 (l k).length) rfl rfl (fun _ => by simp [go_sem]) (fun _ => by go_simp; try (first | rfl | (simp [*]))) ?_; try walk_nrm
  by_cases hi : i < (l k).length
  case neg =>
    have i1 : ¬ (i : Int) < ((l k).length : Int) := by omega
    refine valE O rfl (.bool false) rfl rfl (fun _ => by simp [go_sem]) (fun _ => by go_simp; try (first | rfl | (simp [*]))) ?_; try walk_nrm
    clear i1
    refine cpsR_nil O ?_
    show cps _ _ _ _ _ _
    refine cps_cond O (v := false) rfl ?_
    simp only [Bool.false_eq_true, if_false]
    refine cps_exit O ?_
    have hni : bookF l k i = none := by unfold bookF bookNext; rw [List.getElem?_eq_none (by omega)]; rfl
    rw [hni] at h
    exact hQ _ _ _ _ ⟨.inl rfl, .tuple #[], ret0E O rfl rfl, hq _ _ _ _ _ h⟩
  have i1 : (i : Int) < ((l k).length : Int) := by omega
  have i0 : (0 : Int) ≤ (i : Int) := by omega
  refine valE O rfl (.bool true) rfl rfl (fun _ => by simp [go_sem]) (fun _ => by go_simp; try (first | rfl | (simp [*]))) ?_; try walk_nrm
  refine cpsR_nil O ?_
  show cps _ _ _ _ _ _
  refine cps_cond O (v := true) rfl ?_
  simp only [if_true]
  refine cps_skip O ?_
  show cps _ _ _ _ _ _
  obtain ⟨eb, eo, hea, hwi⟩ := hold i hi
  repeat refine cps_seq O ?_
  refine cps_block O ?_
  repeat refine cps_seq O ?_
  (refine cps_region O ?_; simp only [List.size_toArray, List.length_cons, List.length_nil, Nat.reduceAdd, Nat.zero_add, List.range, List.range.loop])
  refine valE O rfl (.slice ea (l k).length ec) rfl rfl (fun _ => by simp [go_sem]) (fun _ => by go_simp; try (first | rfl | (simp [*]))) ?_; try walk_nrm
  refine valE O rfl (.int .i64 i) rfl rfl (fun _ => by simp [go_sem]) (fun _ => by go_simp; try (first | rfl | (simp [*]))) ?_; try walk_nrm
  refine valE O rfl (.pointer (some ⟨eb, eo + i, none⟩)) rfl rfl (fun _ => by simp [go_sem, i0, i1, hi, hea]) (fun _ => by go_simp; try (first | rfl | (simp [*]))) ?_; try walk_nrm
  clear hea
  obtain ⟨c, hc⟩ : ∃ c, c = (l k)[i] := ⟨_, rfl⟩
  rw [← hc] at hwi
  have hnx : bookNext l k i = if c then some (.t1 1 (.push (bnum k i)), i) else some (.t1 0 .pop, i) := by
    unfold bookNext
    rw [List.getElem?_eq_getElem hi, ← hc]
    cases c <;> rfl
  refine readO h (.bool c) rfl (by kernel_rfl) rfl (fun u hin => by have hcl := hin.cell hwi; go_simp) fun w2 h => ?_
  try walk_nrm
  clear hwi hc
  refine cpsR_nil O ?_
  show cps _ _ _ _ _ _
  cases c with
  | true =>
    have hF : bookF l k i = some (SPos.t1 1 (.push (bnum k i)), (k, i)) := by unfold bookF; rw [hnx]; rfl
    rw [hF] at h
    clear hnx hF
    have hb : ((bnum k i : Nat) : Int) = (k : Int) * 1000 + i + 1 := by unfold bnum; omega
    have hbl : bnum k i < 18446744073709551616 := by unfold bnum; omega
    have g1 := wrap_u64 ((k : Int) * 1000) (by omega) (by omega)
    have g2 := wrap_u64 (i : Int) (by omega) (by omega)
    have g3 := wrap_u64 ((k : Int) * 1000 + i) (by omega) (by omega)
    have g4 := wrap_u64 ((k : Int) * 1000 + i + 1) (by omega) (by omega)
    refine cps_cond O (v := true) rfl ?_
    simp only [if_true]
    repeat refine cps_seq O ?_
    (refine cps_region O ?_; simp only [List.size_toArray, List.length_cons, List.length_nil, Nat.reduceAdd, Nat.zero_add, List.range, List.range.loop])
    refine valE O rfl (.int .u64 k) rfl rfl (fun _ => by simp [go_sem]) (fun _ => by go_simp; try (first | rfl | (simp [*]))) ?_; try walk_nrm
    refine valE O rfl (.int .u64 ((k : Int) * 1000)) rfl rfl (fun _ => by simp [go_sem]) (fun _ => by go_simp; try (first | rfl | (simp [*]))) ?_; try walk_nrm
    refine valE O rfl (.int .i64 i) rfl rfl (fun _ => by simp [go_sem]) (fun _ => by go_simp; try (first | rfl | (simp [*]))) ?_; try walk_nrm
    refine valE O rfl (.int .u64 i) rfl rfl (fun _ => by simp [go_sem]) (fun _ => by go_simp; try (first | rfl | (simp [*]))) ?_; try walk_nrm
    refine valE O rfl (.int .u64 ((k : Int) * 1000 + i)) rfl rfl (fun _ => by simp [go_sem]) (fun _ => by go_simp; try (first | rfl | (simp [*]))) ?_; try walk_nrm
    refine valE O rfl (.int .u64 ((k : Int) * 1000 + i + 1)) rfl rfl (fun _ => by simp [go_sem]) (fun _ => by go_simp; try (first | rfl | (simp [*]))) ?_; try walk_nrm
    refine valE O rfl (.int .u64 ((k : Int) * 1000 + i + 1)) rfl rfl (fun _ => by simp [go_sem]) (fun _ => by go_simp; try (first | rfl | (simp [*]))) ?_; try walk_nrm
    rw [← hb]
    clear g1 g2 g3 g4
    refine cpsR_nil O ?_
    show cps _ _ _ _ _ _
    repeat refine cps_seq O ?_
    (refine cps_region O ?_; simp only [List.size_toArray, List.length_cons, List.length_nil, Nat.reduceAdd, Nat.zero_add, List.range, List.range.loop])
    refine valE O rfl (.pointer (some ⟨S, 0, none⟩)) rfl rfl (fun _ => by simp [go_sem]) (fun _ => by go_simp; try (first | rfl | (simp [*]))) ?_; try walk_nrm
    refine valE O rfl (seatGate s) rfl rfl (fun _ => by simp [go_sem]) (fun _ => by go_simp; try (first | rfl | (simp [*]))) ?_; try walk_nrm
    refine valE O rfl (.int .u64 (bnum k i)) rfl rfl (fun _ => by simp [go_sem]) (fun _ => by go_simp; try (first | rfl | (simp [*]))) ?_; try walk_nrm
    refine callE O rfl (f := 13) (vals := #[.pointer (some ⟨S, 0, none⟩), seatGate s, .int .u64 (bnum k i)]) rfl rfl rfl Try.func13 rfl rfl rfl ?_
    refine push_t (c := (k, i)) rfl hbl h fun n2 a2 β2 r w2 hr hpg h2 => ?_
    obtain ⟨b2, γ2⟩ := β2
    have hpg : γ2 k = γ' k := hpg
    have h2 : TK (bK B bk l S N sz m old) Wg s k n2 a2 (b2, γ2) ((a2, set1 b2 k (bookUpd k i r (b2 k))), bookF l k (i + 1)) w2 := h2
    clear h
    obtain ⟨kk, hkk⟩ : ∃ x, x = r.ok := ⟨_, rfl⟩
    rw [← hkk]
    have Hkk := Lib.hid hkk
    clear hkk hb
    try walk_nrm
    refine valE O rfl (.tuple #[.bool kk, .int .i64 0]) rfl rfl (fun _ => by simp [go_sem]) (fun _ => by go_simp; try (first | rfl | (simp [*]))) ?_; try walk_nrm
    refine valE O rfl (.bool kk) rfl rfl (fun _ => by simp [go_sem]) (fun _ => by go_simp; try (first | rfl | (simp [*]))) ?_; try walk_nrm
    refine valE O rfl (.int .i64 0) rfl rfl (fun _ => by simp [go_sem]) (fun _ => by go_simp; try (first | rfl | (simp [*]))) ?_; try walk_nrm
    refine valE O rfl (.bool kk) rfl rfl (fun _ => by simp [go_sem]) (fun _ => by go_simp; try (first | rfl | (simp [*]))) ?_; try walk_nrm
    refine valE O rfl (.int .i64 0) rfl rfl (fun _ => by simp [go_sem]) (fun _ => by go_simp; try (first | rfl | (simp [*]))) ?_; try walk_nrm
    refine cpsR_nil O ?_
    show cps _ _ _ _ _ _
    repeat refine cps_seq O ?_
    refine aloneY (fun t' pb pg => pb = b2 k ∧ pg = γ2 k ∧ ∃ f : Nat → Value, t' = #[.pointer (some ⟨bk k, 0, none⟩), .pointer (some ⟨S, 0, none⟩), seatGate s, .int .u64 k, .slice ea (l k).length ec, f 5, f 6, f 7, f 8, f 9, .int .i64 i, .int .u64 (bnum k i), .bool kk, f 13, f 14, f 15, f 16, f 17, f 18, f 19, f 20, f 21, f 22, f 23, f 24, f 25, f 26, f 27, f 28, f 29, f 30, f 31, f 32, f 33, f 34, f 35, f 36, f 37, f 38, f 39, f 40, f 41, f 42, f 43, f 44, f 45, f 46, f 47, f 48, f 49, f 50, f 51, f 52, f 53, f 54, f 55, f 56, f 57, f 58, f 59, f 60, f 61, f 62, f 63, f 64, f 65, f 66, f 67, f 68, f 69, f 70, f 71, f 72, f 73, f 74, f 75, f 76, f 77, f 78, f 79, f 80, f 81, f 82, f 83, f 84, f 85, f 86, f 87, f 88, f 89, f 90, f 91, f 92, f 93, f 94, f 95, f 96, f 97, f 98]) hk h2 (by kernel_rfl) (fun u K hin hP hK => ?_) (fun (t' : Array Value) (pb : List Nat × List Nat) (pg : Value × Value × Nat) w' hO h' => ?_)
    · have hP : BRep (bk k) (b2 k, γ2 k) u := hP
      have c2 : u.cell? ⟨bk k, 2, none⟩ = some (.bool false) := hP.row.cell 2
      have f2 := hP.row.free 2
      have hfin : ∀ t', (∃ f : Nat → Value, t' = #[.pointer (some ⟨bk k, 0, none⟩), .pointer (some ⟨S, 0, none⟩), seatGate s, .int .u64 k, .slice ea (l k).length ec, f 5, f 6, f 7, f 8, f 9, .int .i64 i, .int .u64 (bnum k i), .bool kk, f 13, f 14, f 15, f 16, f 17, f 18, f 19, f 20, f 21, f 22, f 23, f 24, f 25, f 26, f 27, f 28, f 29, f 30, f 31, f 32, f 33, f 34, f 35, f 36, f 37, f 38, f 39, f 40, f 41, f 42, f 43, f 44, f 45, f 46, f 47, f 48, f 49, f 50, f 51, f 52, f 53, f 54, f 55, f 56, f 57, f 58, f 59, f 60, f 61, f 62, f 63, f 64, f 65, f 66, f 67, f 68, f 69, f 70, f 71, f 72, f 73, f 74, f 75, f 76, f 77, f 78, f 79, f 80, f 81, f 82, f 83, f 84, f 85, f 86, f 87, f 88, f 89, f 90, f 91, f 92, f 93, f 94, f 95, f 96, f 97, f 98]) → K t' (u.setCell ⟨bk k, 2, none⟩ (.bool false)) := fun t' q => hK _ _ (b2 k) (γ2 k) hP.bad ((Sm.refl _ _).setCell (.inl rfl) _) (fun x hx => .inl hx) ⟨rfl, rfl, q⟩
      have HF := Lib.hid hfin
      clear hfin hK hP hq hQ
      go_wp2
      show _ ∧ _
      refine ⟨rfl, HF.out _ ?_⟩
      exact ex_fun rfl
    obtain ⟨e1, e2, f2, rfl⟩ := hO
    have h3 : TK (bK B bk l S N sz m old) Wg s k n2 a2 (b2, γ2) ((a2, set1 b2 k (bookUpd k i r (b2 k))), bookF l k (i + 1)) w' := by
      rw [e1, e2, show set1 γ2 k (γ2 k) = γ2 from set1_same, show set1 b2 k (b2 k) = b2 from set1_same] at h'
      exact h'
    clear h' h2 e1 e2
    show cps _ _ _ _ _ _
    repeat refine cps_seq O ?_
    (refine cps_region O ?_; simp only [List.size_toArray, List.length_cons, List.length_nil, Nat.reduceAdd, Nat.zero_add, List.range, List.range.loop])
    refine valE O rfl (.bool kk) rfl rfl (fun _ => by simp [go_sem]) (fun _ => by go_simp; try (first | rfl | (simp [*]))) ?_; try walk_nrm
    refine cpsR_nil O ?_
    show cps _ _ _ _ _ _
    rcases hr with rfl | rfl
    · obtain rfl : kk = false := Hkk.out
      have h4 : TK (bK B bk l S N sz m old) Wg s k n2 a2 (b2, γ2) ((a2, b2), bookF l k (i + 1)) w' := by
        have e : set1 b2 k (bookUpd k i (.none (.push (bnum k i))) (b2 k)) = b2 := set1_same
        rw [e] at h3
        exact h3
      refine cps_cond O (v := false) rfl ?_
      simp only [Bool.false_eq_true, if_false]
      refine cps_skip O ?_
      show cps _ _ _ _ _ _
      refine cps_exit O ?_
      show cps _ _ _ _ _ _
      have hp : IntKind.i64.wrap ((i : Int) + 1) = (i : Int) + 1 := wrap_i64 _ (by omega) (by omega)
      (refine cps_region O ?_; simp only [List.size_toArray, List.length_cons, List.length_nil, Nat.reduceAdd, Nat.zero_add, List.range, List.range.loop])
      refine valE O rfl (.int .i64 i) rfl rfl (fun _ => by simp [go_sem]) (fun _ => by go_simp; try (first | rfl | (simp [*]))) ?_; try walk_nrm
      refine valE O rfl (.int .i64 (i + 1 : Nat)) rfl rfl (fun _ => by simp [go_sem]) (fun _ => by go_simp; try (first | rfl | (simp [*]))) ?_; try walk_nrm
      refine valE O rfl (.int .i64 (i + 1 : Nat)) rfl rfl (fun _ => by simp [go_sem]) (fun _ => by go_simp; try (first | rfl | (simp [*]))) ?_; try walk_nrm
      refine cpsR_nil O ?_
      exact ⟨m' - 1, by omega, i + 1, a2, b2, γ2, by omega, by rw [hpg]; omega, h4, ex_fun rfl⟩
    · obtain rfl : kk = true := Hkk.out
      refine cps_cond O (v := true) rfl ?_
      simp only [if_true]
      refine aloneY (fun t' pb pg => pb = ((b2 k).1 ++ [bnum k i], (b2 k).2) ∧ pg.2.2 ≤ i + 1 ∧ ∃ f : Nat → Value, t' = wfr bk l S s k ea ec (.int .i64 i) f) hk h3 (by kernel_rfl) (fun u K hin hP hK => ?_) (fun (t' : Array Value) (pb : List Nat × List Nat) (pg : Value × Value × Nat) w' hO h' => ?_)
      · have hP : BRep (bk k) (b2 k, γ2 k) u := hP
        obtain ⟨⟨L, M⟩, hLM⟩ : ∃ x, x = b2 k := ⟨_, rfl⟩
        obtain ⟨⟨v1, v2, cc⟩, hvv⟩ : ∃ x, x = γ2 k := ⟨_, rfl⟩
        rw [← hLM, ← hvv] at hP
        have hcc : cc ≤ i := by
          have : (γ2 k).2.2 ≤ i := by rw [hpg]; exact hci
          rw [← hvv] at this
          exact this
        have hfew : L.length + M.length ≤ cc := hP.few
        have hlb := hP.row.lt
        have ho : u.ownsRow (bk k + 1) 30 1 v1 L.length (u64s L) := hP.q1
        have hnb : ∀ y, v1.ownBlock = some y → y ≠ bk k := fun y hy => by have := (own_lo ho hy).1; omega
        have hfin : ∀ t' u' v', u.grownBy u' v1.ownBlock → u'.ownsRow (bk k + 1) 30 1 v' (L.length + 1) (u64s L ++ [.int .u64 ((bnum k i : Nat) : Int)]) → (v'.ownBlock = v1.ownBlock ∨ ∃ y, v'.ownBlock = some y ∧ u.heap.size ≤ y) → (∃ f : Nat → Value, t' = wfr bk l S s k ea ec (.int .i64 i) f) → K t' (u'.setCell ⟨bk k, 0, none⟩ v') := fun t' u' v' q1 q2 q3 q4 =>
          hK t' _ (L ++ [bnum k i], M) (v', v2, cc + 1) (BRep.push hP q1 q2 q3) ((sm_grown q1 fun y hy => by rw [← hvv]; exact .inr (.inl hy)).trans ((Sm.refl _ _).setCell (.inl rfl) _)) (fun x hx => by
            rcases hx with hx | hx | hx
            · exact .inl (.inl hx)
            · rcases q3 with e | ⟨z, e, hz⟩
              · exact .inl (.inr (.inl (by rw [← hvv]; exact e ▸ hx)))
              · have hx : v'.ownBlock = some x := hx
                rw [e] at hx
                obtain rfl := Option.some.inj hx
                exact .inr hz
            · exact .inl (.inr (.inr (by rw [← hvv]; exact hx)))) ⟨by rw [← hLM], Nat.succ_le_succ hcc, q4⟩
        have c0 : u.cell? ⟨bk k, 0, none⟩ = some v1 := hP.row.cell 0
        have hrow : Row u (bk k) #[v1, v2, .bool false] tBook := hP.row
        obtain ⟨i0', hi', hz0, hz1, hz2⟩ := info_parts info_u64
        have Hi := Lib.hid hi'
        have Hz0 := Lib.hid hz0
        have Hz1 := Lib.hid hz1
        have Hz2 := Lib.hid hz2
        have HF := Lib.hid hfin
        have HN := Lib.hid hnb
        have HO := Lib.hid ho
        have HR := Lib.hid hrow
        obtain ⟨a1, c1, e1⟩ := own_form0 ho
        clear hfin hP ho hi' hz0 hz1 hz2 hq hQ hnb hK hvv hLM hrow hin
        subst e1
        go_wp2_with (at_builtin; refine wpList_append_own_at _ rfl (.tmp 56) (.tmp 58) 23 rfl (bk k + 1) 30 i0' (.int .u64 0) 1 8 Try.underlying23 Hi.out Hz0.out Hz1.out Hz2.out rfl (by decide) _ L.length (u64s L) rfl (HO.out.alloc _) ⟨u.heap.size, 0, none⟩ 1 1 [.int .u64 ((bnum k i : Nat) : Int)] rfl rfl (new_cells u [.int .u64 ((bnum k i : Nat) : Int)] 30) (by simp [Value.oneCell']) (by unfold maxLen; omega) (by omega) (by simp; omega) ?_)
        intro v' u4 hown4 hg4 _ hat
        obtain ⟨av, cv, ev⟩ := own_form0 hown4
        subst ev
        have hg5 := grown_alloc hg4
        have row4 := row_grown HR.out hg5 HN.out
        have c4 := row4.cell 0
        have f4 := row4.free 0
        have hat5 : (Value.slice av (L.length + 1) cv).ownBlock = (Value.slice a1 L.length c1).ownBlock ∨ ∃ y, (Value.slice av (L.length + 1) cv).ownBlock = some y ∧ u.heap.size ≤ y := hat.imp id fun e => ⟨_, e, by simp⟩
        have HG := Lib.hid (And.intro hg5 (And.intro hown4 hat5))
        clear hg4 hg5 hat hat5 hown4 row4
        go_wp2
        show _ ∧ _
        refine ⟨rfl, HF.out _ _ _ HG.out.1 HG.out.2.1 HG.out.2.2 ?_⟩
        exact ex_fun rfl

      obtain ⟨e1, e2, f3, rfl⟩ := hO
      rw [e1] at h'
      show cps _ _ _ _ _ _
      refine cps_exit O ?_
      show cps _ _ _ _ _ _
      have hp : IntKind.i64.wrap ((i : Int) + 1) = (i : Int) + 1 := wrap_i64 _ (by omega) (by omega)
      (refine cps_region O ?_; simp only [List.size_toArray, List.length_cons, List.length_nil, Nat.reduceAdd, Nat.zero_add, List.range, List.range.loop])
      refine valE O rfl (.int .i64 i) rfl rfl (fun _ => by simp [go_sem]) (fun _ => by go_simp; try (first | rfl | (simp [*]))) ?_; try walk_nrm
      refine valE O rfl (.int .i64 (i + 1 : Nat)) rfl rfl (fun _ => by simp [go_sem]) (fun _ => by go_simp; try (first | rfl | (simp [*]))) ?_; try walk_nrm
      refine valE O rfl (.int .i64 (i + 1 : Nat)) rfl rfl (fun _ => by simp [go_sem]) (fun _ => by go_simp; try (first | rfl | (simp [*]))) ?_; try walk_nrm
      refine cpsR_nil O ?_
      exact ⟨m' - 1, by omega, i + 1, a2, _, _, by omega, by have e : set1 γ2 k pg k = pg := set1_at; rw [e]; exact e2, h', ex_fun rfl⟩
  | false =>
    have hF : bookF l k i = some (SPos.t1 0 .pop, (k, i)) := by unfold bookF; rw [hnx]; rfl
    rw [hF] at h
    clear hnx hF
    refine cps_cond O (v := false) rfl ?_
    simp only [Bool.false_eq_true, if_false]
    refine cps_skip O ?_
    show cps _ _ _ _ _ _
    repeat refine cps_seq O ?_
    (refine cps_region O ?_; simp only [List.size_toArray, List.length_cons, List.length_nil, Nat.reduceAdd, Nat.zero_add, List.range, List.range.loop])
    refine valE O rfl (.pointer (some ⟨S, 0, none⟩)) rfl rfl (fun _ => by simp [go_sem]) (fun _ => by go_simp; try (first | rfl | (simp [*]))) ?_; try walk_nrm
    refine valE O rfl (seatGate s) rfl rfl (fun _ => by simp [go_sem]) (fun _ => by go_simp; try (first | rfl | (simp [*]))) ?_; try walk_nrm
    refine callE O rfl (f := 14) (vals := #[.pointer (some ⟨S, 0, none⟩), seatGate s]) rfl rfl rfl Try.func14 rfl rfl rfl ?_
    refine pop_t (c := (k, i)) rfl h fun n2 a2 β2 r w2 hr hx64 hpg h2 => ?_
    obtain ⟨b2, γ2⟩ := β2
    have hpg : γ2 k = γ' k := hpg
    have h2 : TK (bK B bk l S N sz m old) Wg s k n2 a2 (b2, γ2) ((a2, set1 b2 k (bookUpd k i r (b2 k))), bookF l k (i + 1)) w2 := h2
    clear h
    rcases hr with rfl | ⟨x, rfl⟩
    · simp only [SRes.num, SRes.ok, Int.natCast_zero]
      try walk_nrm
      refine valE O rfl (.tuple #[.int .u64 0, .bool false, .int .i64 0]) rfl rfl (fun _ => by simp [go_sem]) (fun _ => by go_simp; try (first | rfl | (simp [*]))) ?_; try walk_nrm
      refine valE O rfl (.int .u64 0) rfl rfl (fun _ => by simp [go_sem]) (fun _ => by go_simp; try (first | rfl | (simp [*]))) ?_; try walk_nrm
      refine valE O rfl (.bool false) rfl rfl (fun _ => by simp [go_sem]) (fun _ => by go_simp; try (first | rfl | (simp [*]))) ?_; try walk_nrm
      refine valE O rfl (.int .i64 0) rfl rfl (fun _ => by simp [go_sem]) (fun _ => by go_simp; try (first | rfl | (simp [*]))) ?_; try walk_nrm
      refine valE O rfl (.int .u64 0) rfl rfl (fun _ => by simp [go_sem]) (fun _ => by go_simp; try (first | rfl | (simp [*]))) ?_; try walk_nrm
      refine valE O rfl (.bool false) rfl rfl (fun _ => by simp [go_sem]) (fun _ => by go_simp; try (first | rfl | (simp [*]))) ?_; try walk_nrm
      refine valE O rfl (.int .i64 0) rfl rfl (fun _ => by simp [go_sem]) (fun _ => by go_simp; try (first | rfl | (simp [*]))) ?_; try walk_nrm
      refine cpsR_nil O ?_
      show cps _ _ _ _ _ _
      repeat refine cps_seq O ?_
      refine aloneY (fun t' pb pg => pb = b2 k ∧ pg = γ2 k ∧ ∃ f : Nat → Value, t' = #[.pointer (some ⟨bk k, 0, none⟩), .pointer (some ⟨S, 0, none⟩), seatGate s, .int .u64 k, .slice ea (l k).length ec, f 5, f 6, f 7, f 8, f 9, .int .i64 i, f 11, f 12, f 13, .int .u64 0, .bool false, .int .i64 0, f 17, f 18, f 19, f 20, f 21, f 22, f 23, f 24, f 25, f 26, f 27, f 28, f 29, f 30, f 31, f 32, f 33, f 34, f 35, f 36, f 37, f 38, f 39, f 40, f 41, f 42, f 43, f 44, f 45, f 46, f 47, f 48, f 49, f 50, f 51, f 52, f 53, f 54, f 55, f 56, f 57, f 58, f 59, f 60, f 61, f 62, f 63, f 64, f 65, f 66, f 67, f 68, f 69, f 70, f 71, f 72, f 73, f 74, f 75, f 76, f 77, f 78, f 79, f 80, f 81, f 82, f 83, f 84, f 85, f 86, f 87, f 88, f 89, f 90, f 91, f 92, f 93, f 94, f 95, f 96, f 97, f 98]) hk h2 (by kernel_rfl) (fun u K hin hP hK => ?_) (fun (t' : Array Value) (pb : List Nat × List Nat) (pg : Value × Value × Nat) w' hO h' => ?_)
      · have hP : BRep (bk k) (b2 k, γ2 k) u := hP
        have c2 : u.cell? ⟨bk k, 2, none⟩ = some (.bool false) := hP.row.cell 2
        have f2 := hP.row.free 2
        have hfin : ∀ t', (∃ f : Nat → Value, t' = #[.pointer (some ⟨bk k, 0, none⟩), .pointer (some ⟨S, 0, none⟩), seatGate s, .int .u64 k, .slice ea (l k).length ec, f 5, f 6, f 7, f 8, f 9, .int .i64 i, f 11, f 12, f 13, .int .u64 0, .bool false, .int .i64 0, f 17, f 18, f 19, f 20, f 21, f 22, f 23, f 24, f 25, f 26, f 27, f 28, f 29, f 30, f 31, f 32, f 33, f 34, f 35, f 36, f 37, f 38, f 39, f 40, f 41, f 42, f 43, f 44, f 45, f 46, f 47, f 48, f 49, f 50, f 51, f 52, f 53, f 54, f 55, f 56, f 57, f 58, f 59, f 60, f 61, f 62, f 63, f 64, f 65, f 66, f 67, f 68, f 69, f 70, f 71, f 72, f 73, f 74, f 75, f 76, f 77, f 78, f 79, f 80, f 81, f 82, f 83, f 84, f 85, f 86, f 87, f 88, f 89, f 90, f 91, f 92, f 93, f 94, f 95, f 96, f 97, f 98]) → K t' (u.setCell ⟨bk k, 2, none⟩ (.bool false)) := fun t' q => hK _ _ (b2 k) (γ2 k) hP.bad ((Sm.refl _ _).setCell (.inl rfl) _) (fun x hx => .inl hx) ⟨rfl, rfl, q⟩
        have HF := Lib.hid hfin
        clear hfin hK hP hq hQ
        go_wp2
        show _ ∧ _
        refine ⟨rfl, HF.out _ ?_⟩
        exact ex_fun rfl
      obtain ⟨e1, e2, f2, rfl⟩ := hO
      have h3 : TK (bK B bk l S N sz m old) Wg s k n2 a2 (b2, γ2) ((a2, set1 b2 k (bookUpd k i (.none .pop) (b2 k))), bookF l k (i + 1)) w' := by
        rw [e1, e2, show set1 γ2 k (γ2 k) = γ2 from set1_same, show set1 b2 k (b2 k) = b2 from set1_same] at h'
        exact h'
      clear h' h2 e1 e2
      show cps _ _ _ _ _ _
      repeat refine cps_seq O ?_
      (refine cps_region O ?_; simp only [List.size_toArray, List.length_cons, List.length_nil, Nat.reduceAdd, Nat.zero_add, List.range, List.range.loop])
      refine valE O rfl (.bool false) rfl rfl (fun _ => by simp [go_sem]) (fun _ => by go_simp; try (first | rfl | (simp [*]))) ?_; try walk_nrm
      refine cpsR_nil O ?_
      show cps _ _ _ _ _ _
      have h4 : TK (bK B bk l S N sz m old) Wg s k n2 a2 (b2, γ2) ((a2, b2), bookF l k (i + 1)) w' := by
        have e : set1 b2 k (bookUpd k i (.none .pop) (b2 k)) = b2 := set1_same
        rw [e] at h3
        exact h3
      refine cps_cond O (v := false) rfl ?_
      simp only [Bool.false_eq_true, if_false]
      refine cps_skip O ?_
      show cps _ _ _ _ _ _
      have hp : IntKind.i64.wrap ((i : Int) + 1) = (i : Int) + 1 := wrap_i64 _ (by omega) (by omega)
      (refine cps_region O ?_; simp only [List.size_toArray, List.length_cons, List.length_nil, Nat.reduceAdd, Nat.zero_add, List.range, List.range.loop])
      refine valE O rfl (.int .i64 i) rfl rfl (fun _ => by simp [go_sem]) (fun _ => by go_simp; try (first | rfl | (simp [*]))) ?_; try walk_nrm
      refine valE O rfl (.int .i64 (i + 1 : Nat)) rfl rfl (fun _ => by simp [go_sem]) (fun _ => by go_simp; try (first | rfl | (simp [*]))) ?_; try walk_nrm
      refine valE O rfl (.int .i64 (i + 1 : Nat)) rfl rfl (fun _ => by simp [go_sem]) (fun _ => by go_simp; try (first | rfl | (simp [*]))) ?_; try walk_nrm
      refine cpsR_nil O ?_
      exact ⟨m' - 1, by omega, i + 1, a2, b2, γ2, by omega, by rw [hpg]; omega, h4, ex_fun rfl⟩
    · simp only [SRes.num, SRes.ok]
      try walk_nrm
      refine valE O rfl (.tuple #[.int .u64 (x : Int), .bool true, .int .i64 0]) rfl rfl (fun _ => by simp [go_sem]) (fun _ => by go_simp; try (first | rfl | (simp [*]))) ?_; try walk_nrm
      refine valE O rfl (.int .u64 (x : Int)) rfl rfl (fun _ => by simp [go_sem]) (fun _ => by go_simp; try (first | rfl | (simp [*]))) ?_; try walk_nrm
      refine valE O rfl (.bool true) rfl rfl (fun _ => by simp [go_sem]) (fun _ => by go_simp; try (first | rfl | (simp [*]))) ?_; try walk_nrm
      refine valE O rfl (.int .i64 0) rfl rfl (fun _ => by simp [go_sem]) (fun _ => by go_simp; try (first | rfl | (simp [*]))) ?_; try walk_nrm
      refine valE O rfl (.int .u64 (x : Int)) rfl rfl (fun _ => by simp [go_sem]) (fun _ => by go_simp; try (first | rfl | (simp [*]))) ?_; try walk_nrm
      refine valE O rfl (.bool true) rfl rfl (fun _ => by simp [go_sem]) (fun _ => by go_simp; try (first | rfl | (simp [*]))) ?_; try walk_nrm
      refine valE O rfl (.int .i64 0) rfl rfl (fun _ => by simp [go_sem]) (fun _ => by go_simp; try (first | rfl | (simp [*]))) ?_; try walk_nrm
      refine cpsR_nil O ?_
      show cps _ _ _ _ _ _
      repeat refine cps_seq O ?_
      refine aloneY (fun t' pb pg => pb = b2 k ∧ pg = γ2 k ∧ ∃ f : Nat → Value, t' = #[.pointer (some ⟨bk k, 0, none⟩), .pointer (some ⟨S, 0, none⟩), seatGate s, .int .u64 k, .slice ea (l k).length ec, f 5, f 6, f 7, f 8, f 9, .int .i64 i, f 11, f 12, f 13, .int .u64 (x : Int), .bool true, .int .i64 0, f 17, f 18, f 19, f 20, f 21, f 22, f 23, f 24, f 25, f 26, f 27, f 28, f 29, f 30, f 31, f 32, f 33, f 34, f 35, f 36, f 37, f 38, f 39, f 40, f 41, f 42, f 43, f 44, f 45, f 46, f 47, f 48, f 49, f 50, f 51, f 52, f 53, f 54, f 55, f 56, f 57, f 58, f 59, f 60, f 61, f 62, f 63, f 64, f 65, f 66, f 67, f 68, f 69, f 70, f 71, f 72, f 73, f 74, f 75, f 76, f 77, f 78, f 79, f 80, f 81, f 82, f 83, f 84, f 85, f 86, f 87, f 88, f 89, f 90, f 91, f 92, f 93, f 94, f 95, f 96, f 97, f 98]) hk h2 (by kernel_rfl) (fun u K hin hP hK => ?_) (fun (t' : Array Value) (pb : List Nat × List Nat) (pg : Value × Value × Nat) w' hO h' => ?_)
      · have hP : BRep (bk k) (b2 k, γ2 k) u := hP
        have c2 : u.cell? ⟨bk k, 2, none⟩ = some (.bool false) := hP.row.cell 2
        have f2 := hP.row.free 2
        have hfin : ∀ t', (∃ f : Nat → Value, t' = #[.pointer (some ⟨bk k, 0, none⟩), .pointer (some ⟨S, 0, none⟩), seatGate s, .int .u64 k, .slice ea (l k).length ec, f 5, f 6, f 7, f 8, f 9, .int .i64 i, f 11, f 12, f 13, .int .u64 (x : Int), .bool true, .int .i64 0, f 17, f 18, f 19, f 20, f 21, f 22, f 23, f 24, f 25, f 26, f 27, f 28, f 29, f 30, f 31, f 32, f 33, f 34, f 35, f 36, f 37, f 38, f 39, f 40, f 41, f 42, f 43, f 44, f 45, f 46, f 47, f 48, f 49, f 50, f 51, f 52, f 53, f 54, f 55, f 56, f 57, f 58, f 59, f 60, f 61, f 62, f 63, f 64, f 65, f 66, f 67, f 68, f 69, f 70, f 71, f 72, f 73, f 74, f 75, f 76, f 77, f 78, f 79, f 80, f 81, f 82, f 83, f 84, f 85, f 86, f 87, f 88, f 89, f 90, f 91, f 92, f 93, f 94, f 95, f 96, f 97, f 98]) → K t' (u.setCell ⟨bk k, 2, none⟩ (.bool false)) := fun t' q => hK _ _ (b2 k) (γ2 k) hP.bad ((Sm.refl _ _).setCell (.inl rfl) _) (fun x hx => .inl hx) ⟨rfl, rfl, q⟩
        have HF := Lib.hid hfin
        clear hfin hK hP hq hQ
        go_wp2
        show _ ∧ _
        refine ⟨rfl, HF.out _ ?_⟩
        exact ex_fun rfl
      obtain ⟨e1, e2, f2, rfl⟩ := hO
      have h3 : TK (bK B bk l S N sz m old) Wg s k n2 a2 (b2, γ2) ((a2, set1 b2 k (bookUpd k i (.done (.pop x)) (b2 k))), bookF l k (i + 1)) w' := by
        rw [e1, e2, show set1 γ2 k (γ2 k) = γ2 from set1_same, show set1 b2 k (b2 k) = b2 from set1_same] at h'
        exact h'
      clear h' h2 e1 e2
      show cps _ _ _ _ _ _
      repeat refine cps_seq O ?_
      (refine cps_region O ?_; simp only [List.size_toArray, List.length_cons, List.length_nil, Nat.reduceAdd, Nat.zero_add, List.range, List.range.loop])
      refine valE O rfl (.bool true) rfl rfl (fun _ => by simp [go_sem]) (fun _ => by go_simp; try (first | rfl | (simp [*]))) ?_; try walk_nrm
      refine cpsR_nil O ?_
      show cps _ _ _ _ _ _
      refine cps_cond O (v := true) rfl ?_
      simp only [if_true]
      refine aloneY (fun t' pb pg => pb = ((b2 k).1, (b2 k).2 ++ [x]) ∧ pg.2.2 ≤ i + 1 ∧ ∃ f : Nat → Value, t' = wfr bk l S s k ea ec (.int .i64 i) f) hk h3 (by kernel_rfl) (fun u K hin hP hK => ?_) (fun (t' : Array Value) (pb : List Nat × List Nat) (pg : Value × Value × Nat) w' hO h' => ?_)
      · have hP : BRep (bk k) (b2 k, γ2 k) u := hP
        obtain ⟨⟨L, M⟩, hLM⟩ : ∃ x, x = b2 k := ⟨_, rfl⟩
        obtain ⟨⟨v1, v2, cc⟩, hvv⟩ : ∃ x, x = γ2 k := ⟨_, rfl⟩
        rw [← hLM, ← hvv] at hP
        have hcc : cc ≤ i := by
          have : (γ2 k).2.2 ≤ i := by rw [hpg]; exact hci
          rw [← hvv] at this
          exact this
        have hfew : L.length + M.length ≤ cc := hP.few
        have hlb := hP.row.lt
        have ho : u.ownsRow (bk k + 1) 30 1 v2 M.length (u64s M) := hP.q2
        have hnb : ∀ y, v2.ownBlock = some y → y ≠ bk k := fun y hy => by have := (own_lo ho hy).1; omega
        have hfin : ∀ t' u' v', u.grownBy u' v2.ownBlock → u'.ownsRow (bk k + 1) 30 1 v' (M.length + 1) (u64s M ++ [.int .u64 ((x : Nat) : Int)]) → (v'.ownBlock = v2.ownBlock ∨ ∃ y, v'.ownBlock = some y ∧ u.heap.size ≤ y) → (∃ f : Nat → Value, t' = wfr bk l S s k ea ec (.int .i64 i) f) → K t' (u'.setCell ⟨bk k, 1, none⟩ v') := fun t' u' v' q1 q2 q3 q4 =>
          hK t' _ (L, M ++ [x]) (v1, v', cc + 1) (BRep.pop hP q1 q2 q3) ((sm_grown q1 fun y hy => by rw [← hvv]; exact .inr (.inr hy)).trans ((Sm.refl _ _).setCell (.inl rfl) _)) (fun x hx => by
            rcases hx with hx | hx | hx
            · exact .inl (.inl hx)
            · exact .inl (.inr (.inl (by rw [← hvv]; exact hx)))
            · rcases q3 with e | ⟨z, e, hz⟩
              · exact .inl (.inr (.inr (by rw [← hvv]; exact e ▸ hx)))
              · have hx : v'.ownBlock = some x := hx
                rw [e] at hx
                obtain rfl := Option.some.inj hx
                exact .inr hz) ⟨by rw [← hLM], Nat.succ_le_succ hcc, q4⟩
        have c0 : u.cell? ⟨bk k, 1, none⟩ = some v2 := hP.row.cell 1
        have hrow : Row u (bk k) #[v1, v2, .bool false] tBook := hP.row
        obtain ⟨i0', hi', hz0, hz1, hz2⟩ := info_parts info_u64
        have Hi := Lib.hid hi'
        have Hz0 := Lib.hid hz0
        have Hz1 := Lib.hid hz1
        have Hz2 := Lib.hid hz2
        have HF := Lib.hid hfin
        have HN := Lib.hid hnb
        have HO := Lib.hid ho
        have HR := Lib.hid hrow
        obtain ⟨a1, c1, e1⟩ := own_form0 ho
        clear hfin hP ho hi' hz0 hz1 hz2 hq hQ hnb hK hvv hLM hrow hin
        subst e1
        go_wp2_with (at_builtin; refine wpList_append_own_at _ rfl (.tmp 93) (.tmp 95) 23 rfl (bk k + 1) 30 i0' (.int .u64 0) 1 8 Try.underlying23 Hi.out Hz0.out Hz1.out Hz2.out rfl (by decide) _ M.length (u64s M) rfl (HO.out.alloc _) ⟨u.heap.size, 0, none⟩ 1 1 [.int .u64 ((x : Nat) : Int)] rfl rfl (new_cells u [.int .u64 ((x : Nat) : Int)] 30) (by simp [Value.oneCell']) (by unfold maxLen; omega) (by omega) (by simp; omega) ?_)
        intro v' u4 hown4 hg4 _ hat
        obtain ⟨av, cv, ev⟩ := own_form0 hown4
        subst ev
        have hg5 := grown_alloc hg4
        have row4 := row_grown HR.out hg5 HN.out
        have c4 := row4.cell 1
        have f4 := row4.free 1
        have hat5 : (Value.slice av (M.length + 1) cv).ownBlock = (Value.slice a1 M.length c1).ownBlock ∨ ∃ y, (Value.slice av (M.length + 1) cv).ownBlock = some y ∧ u.heap.size ≤ y := hat.imp id fun e => ⟨_, e, by simp⟩
        have HG := Lib.hid (And.intro hg5 (And.intro hown4 hat5))
        clear hg4 hg5 hat hat5 hown4 row4
        go_wp2
        show _ ∧ _
        refine ⟨rfl, HF.out _ _ _ HG.out.1 HG.out.2.1 HG.out.2.2 ?_⟩
        exact ex_fun rfl

      obtain ⟨e1, e2, f3, rfl⟩ := hO
      rw [e1] at h'
      show cps _ _ _ _ _ _
      have hp : IntKind.i64.wrap ((i : Int) + 1) = (i : Int) + 1 := wrap_i64 _ (by omega) (by omega)
      (refine cps_region O ?_; simp only [List.size_toArray, List.length_cons, List.length_nil, Nat.reduceAdd, Nat.zero_add, List.range, List.range.loop])
      refine valE O rfl (.int .i64 i) rfl rfl (fun _ => by simp [go_sem]) (fun _ => by go_simp; try (first | rfl | (simp [*]))) ?_; try walk_nrm
      refine valE O rfl (.int .i64 (i + 1 : Nat)) rfl rfl (fun _ => by simp [go_sem]) (fun _ => by go_simp; try (first | rfl | (simp [*]))) ?_; try walk_nrm
      refine valE O rfl (.int .i64 (i + 1 : Nat)) rfl rfl (fun _ => by simp [go_sem]) (fun _ => by go_simp; try (first | rfl | (simp [*]))) ?_; try walk_nrm
      refine cpsR_nil O ?_
      exact ⟨m' - 1, by omega, i + 1, a2, _, _, by omega, by have e : set1 γ2 k pg k = pg := set1_at; rw [e]; exact e2, h', ex_fun rfl⟩
end
end Go.Proofs.Ytmcffabfghhpaaa
/- Plain words: numbers on a stack in many hands, and the books of who pushed and popped them. No condition. -/
namespace Go.Proofs.Ytmcffabfghhpaaa
open Go.ConcN (sumTo upd sumTo_upd upd_ne upd_same le_sumTo sumTo_congr)
/-- The number that a popping call has in hand. -/
def carry (a : SSt) : SPos → Option Nat
  | .vld j => some (a.m.getD (2 * j + 1) 0)
  | .g1 _ _ (.pop v) => some v
  | .g2 _ _ _ (.pop v) => some v
  | .g3 _ _ _ (.pop v) => some v
  | _ => none
def carN (a : SSt) (q : Option (SPos × Nat)) (v : Nat) : Nat := if q.bind (fun p => carry a p.1) = some v then 1 else 0
def lying (a : SSt) (L : List Nat) : List Nat := L.map fun j => a.m.getD (2 * j + 1) 0
def KdOk (k i i' : Nat) (kd : SKd) : Prop := (kd = .pop ∧ i' = 0) ∨ (kd = .push (bnum k i) ∧ i' = 1)
def RdOk (k i i' j : Nat) (a : SSt) (r : SRd) : Prop := (r = .push ∧ i' = 0 ∧ a.m.getD (2 * j + 1) 0 = bnum k i) ∨ ((∃ v, r = .pop v) ∧ i' = 1)
/-- Where a thread's call i may stand. -/
def Stand (k i : Nat) (a : SSt) : SPos → Prop
  | .t1 i' kd => KdOk k i i' kd
  | .t2 i' _ kd => KdOk k i i' kd
  | .t3 i' _ _ kd => KdOk k i i' kd
  | .vst _ v => v = bnum k i
  | .vld _ => True
  | .g1 i' j r => RdOk k i i' j a r
  | .g2 i' j _ r => RdOk k i i' j a r
  | .g3 i' j _ r => RdOk k i i' j a r
/-- The call at which a thread is; all are done. -/
def cur (l : Nat → List Bool) (pc : Nat → Option (SPos × Nat)) (k : Nat) : Nat := match pc k with
  | some (_, i) => i
  | none => (l k).length
def posN (pc : Nat → Option (SPos × Nat)) (k : Nat) : Option SPos := (pc k).map (·.1)
/-- A stack, its threads, their books. -/
structure BInv (n m : Nat) (l : Nat → List Bool) (a : SSt) (b : Nat → List Nat × List Nat) (pc : Nat → Option (SPos × Nat)) (L0 L1 : List Nat) : Prop where
  s : SInv n m a (posN pc) L0 L1
  fit : ∀ k, k < m → ∀ p i, pc k = some (p, i) → i < (l k).length ∧ Stand k i a p
  old : ∀ k, k < m → ∀ x ∈ (b k).1, ∃ i, x = bnum k i ∧ i < cur l pc k
  inc : ∀ k, k < m → (b k).1.Pairwise (· < ·)
  vals : ∀ v, sumTo m (fun k => (b k).1.count v) = sumTo m (fun k => (b k).2.count v) + sumTo m (fun k => carN a (pc k) v) + (lying a L0).count v
  ord : (lying a L0).Pairwise fun x y => x / 1000 = y / 1000 → y < x
  short : ∀ k, (l k).length ≤ 900
/-- What comes of a turn. -/
def bstep (l : Nat → List Bool) (k : Nat) (p : SPos) (i : Nat) (a : SSt) (b : Nat → List Nat × List Nat) : SSt × (Nat → List Nat × List Nat) × Option (SPos × Nat) := match (p.exec a).2 with
  | .inl p' => ((p.exec a).1, b, some (p', i))
  | .inr r => ((p.exec a).1, set1 b k (bookUpd k i r (b k)), bookNext l k (i + 1))
section
variable {n m : Nat} {l : Nat → List Bool} {a : SSt} {b : Nat → List Nat × List Nat} {pc : Nat → Option (SPos × Nat)} {L0 L1 : List Nat} {k i : Nat} {p : SPos}
theorem bookNext_some {l : Nat → List Bool} {k i : Nat} {q : SPos × Nat} (h : bookNext l k i = some q) : q.2 = i ∧ i < (l k).length ∧ ∃ i' kd, q.1 = .t1 i' kd ∧ KdOk k i i' kd := by
  unfold bookNext at h
  split at h
  · rename_i e; obtain rfl := Option.some.inj h; exact ⟨rfl, (List.getElem?_eq_some_iff.1 e).1, _, _, rfl, .inr ⟨rfl, rfl⟩⟩
  · rename_i e; obtain rfl := Option.some.inj h; exact ⟨rfl, (List.getElem?_eq_some_iff.1 e).1, _, _, rfl, .inl ⟨rfl, rfl⟩⟩
  · cases h
theorem bookNext_none {l : Nat → List Bool} {k i : Nat} (h : bookNext l k i = none) : (l k).length ≤ i := by
  unfold bookNext at h
  split at h
  · cases h
  · cases h
  · rename_i e1 e2
    cases he : (l k)[i]? with
    | none => exact List.getElem?_eq_none_iff.1 he
    | some x => cases x <;> simp_all
theorem posN_upd {x : Option (SPos × Nat)} : posN (upd pc k x) = upd (posN pc) k (x.map (·.1)) := by
  funext j
  unfold posN
  by_cases e : j = k
  · subst e; rw [upd_same, upd_same]
  · rw [upd_ne _ _ e, upd_ne _ _ e]
theorem pc_cases {x : Option (SPos × Nat)} {j : Nat} {q : SPos × Nat} (h : upd pc k x j = some q) : (j = k ∧ x = some q) ∨ (j ≠ k ∧ pc j = some q) := by
  by_cases e : j = k
  · subst e; rw [upd_same] at h; exact .inl ⟨rfl, h⟩
  · rw [upd_ne _ _ e] at h; exact .inr ⟨e, h⟩
theorem cur_ne {x : Option (SPos × Nat)} {j : Nat} (h : j ≠ k) : cur l (upd pc k x) j = cur l pc j := by unfold cur; rw [upd_ne _ _ h]
theorem BInv.pos (h : pc k = some (p, i)) : posN pc k = some p := by unfold posN; rw [h]; rfl
theorem bnum_div {k i : Nat} (h : i < 900) : bnum k i / 1000 = k := by unfold bnum; omega
theorem bnum_lt {k i i' : Nat} (h : i < i') : bnum k i < bnum k i' := by unfold bnum; omega
theorem car_upd {a : SSt} {x : Option (SPos × Nat)} (hk : k < m) (v : Nat) : sumTo m (fun j => carN a (upd pc k x j) v) + carN a (pc k) v = sumTo m (fun j => carN a (pc j) v) + carN a x v := sumTo_upd pc x (fun q => carN a q v) hk
/-- A thread's place changes, no memory, no book. -/
theorem BInv.move (h : BInv n m l a b pc L0 L1) (hk : k < m) (hp : pc k = some (p, i)) {q : Option (SPos × Nat)} {L1' : List Nat} (hs : SInv n m a (posN (upd pc k q)) L0 L1') (hf : ∀ p' i', q = some (p', i') → i' < (l k).length ∧ Stand k i' a p') (hc : i ≤ cur l (upd pc k q) k) (hcar : ∀ v, carN a q v = carN a (pc k) v) : BInv n m l a b (upd pc k q) L0 L1' where
  s := hs
  fit := fun j hj p' i' hp' => by
    rcases pc_cases hp' with ⟨rfl, e⟩ | ⟨_, e⟩
    · exact hf p' i' e
    · exact h.fit j hj p' i' e
  old := fun j hj x hx => by
    obtain ⟨i', h1, h2⟩ := h.old j hj x hx
    refine ⟨i', h1, ?_⟩
    by_cases e : j = k
    · subst e
      have : cur l pc j = i := by unfold cur; rw [hp]
      omega
    · rw [cur_ne e]; exact h2
  inc := h.inc
  vals := fun v => by
    have h1 := h.vals v
    have h2 := car_upd (a := a) (pc := pc) (x := q) hk v
    have h3 := hcar v
    omega
  ord := h.ord
  short := h.short
theorem carN_none {q : Option (SPos × Nat)} {v : Nat} (h : q.bind (fun p => carry a p.1) = none) : carN a q v = 0 := by simp [carN, h]
theorem carN_some {q : SPos × Nat} {x v : Nat} (h : carry a q.1 = some x) : carN a (some q) v = if x = v then 1 else 0 := by simp [carN, h]
theorem next_car (v : Nat) : carN a (bookNext l k i) v = 0 := by
  refine carN_none ?_
  cases h : bookNext l k i with
  | none => rfl
  | some q =>
    obtain ⟨_, _, i', kd, e, _⟩ := bookNext_some h
    simp [e, carry]
theorem next_hold : (bookNext l k i).map (·.1) = none ∨ ∃ i' kd, (bookNext l k i).map (·.1) = some (.t1 i' kd) ∧ i' < 2 := by
  cases h : bookNext l k i with
  | none => exact .inl rfl
  | some q =>
    obtain ⟨_, _, i', kd, e, hk⟩ := bookNext_some h
    refine .inr ⟨i', kd, by rw [← e]; rfl, ?_⟩
    rcases hk with ⟨_, e⟩ | ⟨_, e⟩ <;> omega
theorem next_cur (x : Nat) (hx : x < (l k).length) : x < cur l (upd pc k (bookNext l k (x + 1))) k := by
  unfold cur
  rw [upd_same]
  cases h : bookNext l k (x + 1) with
  | none => exact hx
  | some q =>
    obtain ⟨q1, q2⟩ := q
    have := (bookNext_some h).1
    simp only at this ⊢
    omega
/-- A number on the list was pushed by somebody. -/
theorem BInv.pushed (h : BInv n m l a b pc L0 L1) {x : Nat} (hx : x ∈ lying a L0) : ∃ j i', j < m ∧ x = bnum j i' ∧ i' < cur l pc j := by
  have h1 := h.vals x
  have h2 := List.count_pos_iff.2 hx
  have key : ∀ M, M ≤ m → 0 < sumTo M (fun k => (b k).1.count x) → ∃ j, j < m ∧ x ∈ (b j).1 := by
    intro M
    induction M with
    | zero => intro _ h; exact absurd h (by simp [sumTo])
    | succ M ih =>
      intro hM hs
      by_cases e : x ∈ (b M).1
      · exact ⟨M, by omega, e⟩
      · refine ih (by omega) ?_
        have : (b M).1.count x = 0 := List.count_eq_zero.2 e
        simp only [sumTo] at hs
        omega
  obtain ⟨j, hj, hm⟩ := key m (Nat.le_refl _) (by omega)
  obtain ⟨i', e1, e2⟩ := h.old j hj x hm
  exact ⟨j, i', hj, e1, e2⟩
theorem cur_le (h : BInv n m l a b pc L0 L1) {j : Nat} (hj : j < m) : cur l pc j ≤ (l j).length := by
  unfold cur
  cases e : pc j with
  | none => exact Nat.le_refl _
  | some q => obtain ⟨p', i'⟩ := q; exact Nat.le_of_lt (h.fit j hj p' i' e).1
end
end Go.Proofs.Ytmcffabfghhpaaa
